/- kit.IsPlain at short strings; recordFault: some answer; a record without a fault has a life. -/
import Derived.Test.YtedpjecbfcogcaaGreatDoorCaD
namespace Go.Proofs.YtedpjecbfcogcaaGreatDoor
open Go.RowKit Go.Hw Go.Shelf

set_option maxRecDepth 100000 in
set_option maxHeartbeats 1000000 in
theorem isPlain_some (s : ByteArray) (m : Int) (w : World) (hm : w.cell? ⟨2, 0, none⟩ = some (.int .i64 m)) (h : Asc8 s) :
    Calls Tryz.prog 42 #[.string s] w fun e w' => ∃ b, e = .returned (.bool b) ∧ Below w.heap.size w w' := by
  have hs8 := h.1
  have HA := Lib.hid h
  have htr := fun W => Tryz.strings_Trim_one s 32 (by decide) W (by omega)
  generalize (⟨(Lib.trimB s.data.toList 32).toArray⟩ : ByteArray) = t at htr
  have hco := fun W (hW : W.cell? ⟨2, 0, none⟩ = some (.int .i64 m)) => Tryz.strings_Contains s ⟨#[32, 32]⟩ m W (by omega) hW
  generalize Lib.contains s.data.toList (⟨#[32, 32]⟩ : ByteArray).data.toList = cb at hco
  have hlm := World.block_lt_of_cell? _ _ hm
  have HM := Lib.hid hm
  clear h hm
  go_enter Tryz.func42, Tryz.ntmps42
  go_wp2_with fail
  go_loopw [3] (fun v wr => ∃ k : Nat, k ≤ s.size ∧ v = .int .i64 k ∧ wr = w) (fun v _ => s.size - (intOf v).toNat)
  case atStart => exact ⟨0, by omega, rfl, rfl⟩
  case round =>
    obtain ⟨k, hk, rfl, rfl⟩ := hrel
    by_cases hlt : k < s.size
    · have hb := HA.out.2 k hlt
      by_cases h1 : s[k].toNat < 32
      · have e1 : decide ((s[k].toNat : Int) < 32) = true := by simp; omega
        go_wp2_with fail
        go_ret
        exact ⟨_, rfl, Below.refl _ _⟩
      · have e1 : decide ((s[k].toNat : Int) < 32) = false := by simp; omega
        by_cases h2 : s[k].toNat = 127
        · have e2 : ((s[k].toNat : Int) == 127) = true := by rw [h2]; rfl
          go_wp2_with fail
          go_ret
          exact ⟨_, rfl, Below.refl _ _⟩
        · have e2 : ((s[k].toNat : Int) == 127) = false := by simp; omega
          go_wp2_with fail
          go_roundw
          case rel => exact ⟨k + 1, hlt, by go_num, by first | trivial | rfl⟩
          case measure => simp [intOf]; omega
    · have hkk : k = s.size := by omega
      subst hkk
      go_wp2_with fail
      refine (valid_short s wr HA.out).mono ?_
      rintro e w1 ⟨rfl, hb1⟩
      have HB1 := Lib.hid hb1
      have hm1 := (hb1.cell (p := ⟨2, 0, none⟩) hlm).trans HM.out
      have HM1 := Lib.hid hm1
      clear hb1 hm1
      go_wp2_with fail
      refine (htr w1).mono ?_
      rintro e w2 ⟨rfl, hw2⟩
      have hb2 : Below wr.heap.size wr w2 := by rcases hw2 with rfl | rfl; exact HB1.out; exact HB1.out.drew
      have hm2 : w2.cell? ⟨2, 0, none⟩ = some (.int .i64 m) := by rcases hw2 with rfl | rfl; exact HM1.out; exact HM1.out
      have HB2 := Lib.hid hb2
      have hc2 := hco w2 hm2
      clear hw2 hb2 hm2 htr hco
      cases hts : (t.toList == s.toList)
      · go_wp2_with fail
        go_ret
        exact ⟨_, rfl, HB2.out⟩
      · go_wp2_with fail
        refine hc2.mono ?_
        rintro e w3 ⟨rfl, rfl⟩
        go_wp2_with fail
        go_ret
        exact ⟨_, rfl, HB2.out⟩

/-- What is drawn of a record. -/
structure RecOk (r : Rec) : Prop where
  name : r.name.size ≤ 1000000
  to : r.to.size ≤ 1000000
  words : Asc8 r.words
  hi : 0 ≤ r.hi
def recBox (r : Rec) : Obj := .cells #[.string r.name, .int .i64 r.kind, .bool r.six, .int .u64 r.hi, .int .u64 r.lo, .string r.to, .string r.words, .int .i64 r.life] 50 (0, 0)
/-- The record's box lies in memory. -/
structure RfAt (w W : World) (B : Nat) (r : Rec) (m : Int) : Prop where
  below : Below w.heap.size w W
  box : W.heap[B]? = some (recBox r)
  mx : W.cell? ⟨2, 0, none⟩ = some (.int .i64 m)
theorem RfAt.next {w W W' : World} {B : Nat} {r : Rec} {m : Int} (h : RfAt w W B r m) (hb : Below W.heap.size W W') : RfAt w W' B r m :=
  ⟨h.below.trans (hb.mono h.below.size), (hb.block _ (lt_of_block h.box)).trans h.box, (hb.cell (World.block_lt_of_cell? _ _ h.mx)).trans h.mx⟩
theorem RfAt.cells {w W : World} {B : Nat} {r : Rec} {m : Int} (h : RfAt w W B r m) : W.cell? ⟨B, 0, none⟩ = some (.string r.name) ∧ W.cell? ⟨B, 1, none⟩ = some (.int .i64 r.kind) ∧ W.cell? ⟨B, 2, none⟩ = some (.bool r.six) ∧ W.cell? ⟨B, 3, none⟩ = some (.int .u64 r.hi) ∧ W.cell? ⟨B, 4, none⟩ = some (.int .u64 r.lo) ∧ W.cell? ⟨B, 5, none⟩ = some (.string r.to) ∧ W.cell? ⟨B, 6, none⟩ = some (.string r.words) ∧ W.cell? ⟨B, 7, none⟩ = some (.int .i64 r.life) := by
  have hb := h.box
  unfold recBox at hb
  exact (res8 hb).1
def RfOut (w : World) (r : Rec) (e : Ending) (w' : World) : Prop := ∃ c, e = .returned (.int .i64 c) ∧ (c = 0 → 0 ≤ r.life ∧ r.life ≤ 1000000) ∧ Below w.heap.size w w'
theorem RfOut.mk {w w' : World} {r : Rec} {c : Int} (hb : Below w.heap.size w w') (h : c ≠ 0) : RfOut w r (.returned (.int .i64 c)) w' := ⟨c, rfl, fun e => absurd e h, hb⟩
theorem run_eq_addr_zero (d : Nat) (a : Bool) (x u : Int) (w : World) : (Op.equalIn (d + 2) 48 (.agg #[.bool a, .int .u64 x, .int .u64 u]) (.agg #[.bool false, .int .u64 0, .int .u64 0])).run Tryz.prog w = .ok (a == false && (x == 0 && u == 0)) w := run_eq_addr d a false x 0 u 0 w

set_option maxRecDepth 100000 in
set_option maxHeartbeats 4000000 in
theorem recordFault_some (r : Rec) (m : Int) (w : World) (hm : w.cell? ⟨2, 0, none⟩ = some (.int .i64 m)) (hr : RecOk r) :
    Calls Tryz.prog 19 #[.agg #[.string r.name, .int .i64 r.kind, .bool r.six, .int .u64 r.hi, .int .u64 r.lo, .string r.to, .string r.words, .int .i64 r.life]] w (RfOut w r) := by
  have hf : RfAt w (w.alloc (recBox r)) w.heap.size r m := ⟨(Below.refl _ _).alloc (Nat.le_refl _) _, heap_alloc_new _ _, by rw [World.cell?_alloc_lt _ _ _ (World.block_lt_of_cell? _ _ hm)]; exact hm⟩
  have HF := Lib.hid hf
  have HR := Lib.hid hr
  unfold recBox at HF
  clear hf hr hm
  go_enter Tryz.func19, Tryz.ntmps19
  go_wp2_with fail
  refine (bare_some r.name _ HR.out.name).mono ?_
  rintro e w1 ⟨r0, rfl, hr0, rfl⟩
  generalize World.alloc w _ = W1 at *
  generalize w.heap.size = B at *
  go_wp2_with fail
  refine (checkDomain_some r0 m W1 HF.out.mx hr0).mono ?_
  rintro e W2 ⟨c1, rfl, hb2⟩
  have HF2 := Lib.hid (HF.out.next hb2)
  clear hb2 HF hr0
  obtain ⟨x0, x1, x2, x3, x4, x5, x6, x7⟩ := HF2.out.cells
  by_cases h1 : c1 = 0
  rotate_left
  · have d1 : (c1 != 0) = true := by simpa using h1
    go_wp2_with fail
    go_ret
    exact RfOut.mk HF2.out.below (by decide)
  subst h1
  by_cases h2 : r.name.size ≤ 253
  rotate_left
  · have d1 : decide ((r.name.size : Int) > 253) = true := by simp; omega
    go_wp2_with fail
    go_ret
    exact RfOut.mk HF2.out.below (by decide)
  have d1 : decide ((r.name.size : Int) > 253) = false := by simp; omega
  go_wp2_with fail
  refine (isKind_any r.kind W2).mono ?_
  rintro e w3 ⟨rfl, rfl⟩
  clear d1
  cases hk : isKindB r.kind
  · go_wp2_with fail
    go_ret
    exact RfOut.mk HF2.out.below (by decide)
  have hk' : r.kind = 1 ∨ r.kind = 5 ∨ r.kind = 12 ∨ r.kind = 16 ∨ r.kind = 28 := by unfold isKindB at hk; simpa using hk
  rcases hk' with hk | hk | hk | hk | hk
  · rw [hk] at x1
    have ha : hasAddrB 1 = true := rfl
    have hn : hasNameB 1 = false := rfl
    go_wp2_with fail
    refine (hasAddr_any 1 W2).mono ?_
    rintro e w4 ⟨rfl, rfl⟩
    rw [ha]
    cases hs : r.six
    · rw [hs] at x2
      go_wp2_with fail
      refine (checkAddr_any false r.hi r.lo W2 HR.out.hi).mono ?_
      rintro e W5 ⟨rfl, hb5⟩
      have HF5 := Lib.hid (HF2.out.next hb5)
      generalize addrCode false r.hi r.lo = c2
      clear hb5 x0 x1 x2 x3 x4 x5 x6 x7
      obtain ⟨x0, x1, x2, x3, x4, x5, x6, x7⟩ := HF5.out.cells
      rw [hk] at x1
      rw [hs] at x2
      by_cases h3 : c2 = 0
      rotate_left
      · have d1 : (c2 != 0) = true := by simpa using h3
        go_wp2_with fail
        go_ret
        exact RfOut.mk HF5.out.below (by decide)
      subst h3
      go_wp2_with fail
      refine (hasAddr_any 1 W5).mono ?_
      rintro e w6 ⟨rfl, rfl⟩
      rw [ha]
      go_wp2_with fail
      refine (hasName_any 1 W5).mono ?_
      rintro e w7 ⟨rfl, rfl⟩
      rw [hn]
      go_wp2_with fail
      refine (hasName_any 1 W5).mono ?_
      rintro e w8 ⟨rfl, rfl⟩
      rw [hn]
      cases hte : r.to.toList.isEmpty
      · go_wp2_with fail
        go_ret
        exact RfOut.mk HF5.out.below (by decide)
      cases hwe : r.words.toList.isEmpty
      · go_wp2_with fail
        go_ret
        exact RfOut.mk HF5.out.below (by decide)
      go_wp2_with fail
      refine (outside_any r.life 0 1000000 W5).mono ?_
      rintro e w9 ⟨rfl, rfl⟩
      by_cases hl1 : r.life < 0
      · have d1 : decide (r.life < 0) = true := by simpa using hl1
        go_wp2_with fail
        go_ret
        exact RfOut.mk HF5.out.below (by decide)
      · by_cases hl2 : 1000000 < r.life
        · have d1 : decide (r.life < 0) = false := by simpa using hl1
          have d2 : decide (1000000 < r.life) = true := by simpa using hl2
          go_wp2_with fail
          go_ret
          exact RfOut.mk HF5.out.below (by decide)
        · have d1 : decide (r.life < 0) = false := by simpa using hl1
          have d2 : decide (1000000 < r.life) = false := by simpa using hl2
          go_wp2_with fail
          go_ret
          exact ⟨0, rfl, fun _ => ⟨by omega, by omega⟩, HF5.out.below⟩
    · rw [hs] at x2
      go_wp2_with fail
      go_ret
      exact RfOut.mk HF2.out.below (by decide)
  · rw [hk] at x1
    have ha : hasAddrB 5 = false := rfl
    have hn : hasNameB 5 = true := rfl
    go_wp2_with fail
    refine (hasAddr_any 5 W2).mono ?_
    rintro e w4 ⟨rfl, rfl⟩
    rw [ha]
    go_wp2_with fail
    refine (hasAddr_any 5 W2).mono ?_
    rintro e w5 ⟨rfl, rfl⟩
    rw [ha]
    have hg := guard_addr
    have hrq := fun d W => run_eq_addr_zero d r.six r.hi r.lo W
    cases hz : (r.six == false && (r.hi == 0 && r.lo == 0))
    · have hrq' := fun d W => (hrq d W).trans (by rw [hz])
      clear hrq
      go_wp2_with fail
      go_ret
      exact RfOut.mk HF2.out.below (by decide)
    have hrq' := fun d W => (hrq d W).trans (by rw [hz])
    clear hrq
    go_wp2_with fail
    refine (hasName_any 5 W2).mono ?_
    rintro e w6 ⟨rfl, rfl⟩
    rw [hn]
    go_wp2_with fail
    refine (checkDomain_some r.to m W2 HF2.out.mx HR.out.to).mono ?_
    rintro e W7 ⟨c3, rfl, hb7⟩
    have HF7 := Lib.hid (HF2.out.next hb7)
    clear hb7 x0 x1 x2 x3 x4 x5 x6 x7
    obtain ⟨x0, x1, x2, x3, x4, x5, x6, x7⟩ := HF7.out.cells
    rw [hk] at x1
    by_cases h3 : c3 = 0
    rotate_left
    · have d1 : (c3 != 0) = true := by simpa using h3
      go_wp2_with fail
      go_ret
      exact RfOut.mk HF7.out.below (by decide)
    subst h3
    go_wp2_with fail
    refine (hasName_any 5 W7).mono ?_
    rintro e w8 ⟨rfl, rfl⟩
    rw [hn]
    cases hwe : r.words.toList.isEmpty
    · go_wp2_with fail
      go_ret
      exact RfOut.mk HF7.out.below (by decide)
    go_wp2_with fail
    refine (outside_any r.life 0 1000000 W7).mono ?_
    rintro e w9 ⟨rfl, rfl⟩
    by_cases hl1 : r.life < 0
    · have d1 : decide (r.life < 0) = true := by simpa using hl1
      go_wp2_with fail
      go_ret
      exact RfOut.mk HF7.out.below (by decide)
    · by_cases hl2 : 1000000 < r.life
      · have d1 : decide (r.life < 0) = false := by simpa using hl1
        have d2 : decide (1000000 < r.life) = true := by simpa using hl2
        go_wp2_with fail
        go_ret
        exact RfOut.mk HF7.out.below (by decide)
      · have d1 : decide (r.life < 0) = false := by simpa using hl1
        have d2 : decide (1000000 < r.life) = false := by simpa using hl2
        go_wp2_with fail
        go_ret
        exact ⟨0, rfl, fun _ => ⟨by omega, by omega⟩, HF7.out.below⟩
  · rw [hk] at x1
    have ha : hasAddrB 12 = false := rfl
    have hn : hasNameB 12 = true := rfl
    go_wp2_with fail
    refine (hasAddr_any 12 W2).mono ?_
    rintro e w4 ⟨rfl, rfl⟩
    rw [ha]
    go_wp2_with fail
    refine (hasAddr_any 12 W2).mono ?_
    rintro e w5 ⟨rfl, rfl⟩
    rw [ha]
    have hg := guard_addr
    have hrq := fun d W => run_eq_addr_zero d r.six r.hi r.lo W
    cases hz : (r.six == false && (r.hi == 0 && r.lo == 0))
    · have hrq' := fun d W => (hrq d W).trans (by rw [hz])
      clear hrq
      go_wp2_with fail
      go_ret
      exact RfOut.mk HF2.out.below (by decide)
    have hrq' := fun d W => (hrq d W).trans (by rw [hz])
    clear hrq
    go_wp2_with fail
    refine (hasName_any 12 W2).mono ?_
    rintro e w6 ⟨rfl, rfl⟩
    rw [hn]
    go_wp2_with fail
    refine (checkDomain_some r.to m W2 HF2.out.mx HR.out.to).mono ?_
    rintro e W7 ⟨c3, rfl, hb7⟩
    have HF7 := Lib.hid (HF2.out.next hb7)
    clear hb7 x0 x1 x2 x3 x4 x5 x6 x7
    obtain ⟨x0, x1, x2, x3, x4, x5, x6, x7⟩ := HF7.out.cells
    rw [hk] at x1
    by_cases h3 : c3 = 0
    rotate_left
    · have d1 : (c3 != 0) = true := by simpa using h3
      go_wp2_with fail
      go_ret
      exact RfOut.mk HF7.out.below (by decide)
    subst h3
    go_wp2_with fail
    refine (hasName_any 12 W7).mono ?_
    rintro e w8 ⟨rfl, rfl⟩
    rw [hn]
    cases hwe : r.words.toList.isEmpty
    · go_wp2_with fail
      go_ret
      exact RfOut.mk HF7.out.below (by decide)
    go_wp2_with fail
    refine (outside_any r.life 0 1000000 W7).mono ?_
    rintro e w9 ⟨rfl, rfl⟩
    by_cases hl1 : r.life < 0
    · have d1 : decide (r.life < 0) = true := by simpa using hl1
      go_wp2_with fail
      go_ret
      exact RfOut.mk HF7.out.below (by decide)
    · by_cases hl2 : 1000000 < r.life
      · have d1 : decide (r.life < 0) = false := by simpa using hl1
        have d2 : decide (1000000 < r.life) = true := by simpa using hl2
        go_wp2_with fail
        go_ret
        exact RfOut.mk HF7.out.below (by decide)
      · have d1 : decide (r.life < 0) = false := by simpa using hl1
        have d2 : decide (1000000 < r.life) = false := by simpa using hl2
        go_wp2_with fail
        go_ret
        exact ⟨0, rfl, fun _ => ⟨by omega, by omega⟩, HF7.out.below⟩
  · rw [hk] at x1
    have ha : hasAddrB 16 = false := rfl
    have hn : hasNameB 16 = false := rfl
    go_wp2_with fail
    refine (hasAddr_any 16 W2).mono ?_
    rintro e w4 ⟨rfl, rfl⟩
    rw [ha]
    go_wp2_with fail
    refine (hasAddr_any 16 W2).mono ?_
    rintro e w5 ⟨rfl, rfl⟩
    rw [ha]
    have hg := guard_addr
    have hrq := fun d W => run_eq_addr_zero d r.six r.hi r.lo W
    cases hz : (r.six == false && (r.hi == 0 && r.lo == 0))
    · have hrq' := fun d W => (hrq d W).trans (by rw [hz])
      clear hrq
      go_wp2_with fail
      go_ret
      exact RfOut.mk HF2.out.below (by decide)
    have hrq' := fun d W => (hrq d W).trans (by rw [hz])
    clear hrq
    go_wp2_with fail
    refine (hasName_any 16 W2).mono ?_
    rintro e w6 ⟨rfl, rfl⟩
    rw [hn]
    go_wp2_with fail
    refine (hasName_any 16 W2).mono ?_
    rintro e w7 ⟨rfl, rfl⟩
    rw [hn]
    cases hte : r.to.toList.isEmpty
    · go_wp2_with fail
      go_ret
      exact RfOut.mk HF2.out.below (by decide)
    go_wp2_with fail
    refine (isPlain_some r.words m W2 HF2.out.mx HR.out.words).mono ?_
    rintro e W8 ⟨b, rfl, hb8⟩
    have HF8 := Lib.hid (HF2.out.next hb8)
    clear hb8 x0 x1 x2 x3 x4 x5 x6 x7
    obtain ⟨x0, x1, x2, x3, x4, x5, x6, x7⟩ := HF8.out.cells
    rw [hk] at x1
    cases b
    · go_wp2_with fail
      go_ret
      exact RfOut.mk HF8.out.below (by decide)
    have h200 : decide ((r.words.size : Int) > 200) = false := by have := HR.out.words.1; simp; omega
    go_wp2_with fail
    refine (outside_any r.life 0 1000000 W8).mono ?_
    rintro e w9 ⟨rfl, rfl⟩
    by_cases hl1 : r.life < 0
    · have d1 : decide (r.life < 0) = true := by simpa using hl1
      go_wp2_with fail
      go_ret
      exact RfOut.mk HF8.out.below (by decide)
    · by_cases hl2 : 1000000 < r.life
      · have d1 : decide (r.life < 0) = false := by simpa using hl1
        have d2 : decide (1000000 < r.life) = true := by simpa using hl2
        go_wp2_with fail
        go_ret
        exact RfOut.mk HF8.out.below (by decide)
      · have d1 : decide (r.life < 0) = false := by simpa using hl1
        have d2 : decide (1000000 < r.life) = false := by simpa using hl2
        go_wp2_with fail
        go_ret
        exact ⟨0, rfl, fun _ => ⟨by omega, by omega⟩, HF8.out.below⟩
  · rw [hk] at x1
    have ha : hasAddrB 28 = true := rfl
    have hn : hasNameB 28 = false := rfl
    go_wp2_with fail
    refine (hasAddr_any 28 W2).mono ?_
    rintro e w4 ⟨rfl, rfl⟩
    rw [ha]
    cases hs : r.six
    · rw [hs] at x2
      go_wp2_with fail
      go_ret
      exact RfOut.mk HF2.out.below (by decide)
    · rw [hs] at x2
      go_wp2_with fail
      refine (checkAddr_any true r.hi r.lo W2 HR.out.hi).mono ?_
      rintro e W5 ⟨rfl, hb5⟩
      have HF5 := Lib.hid (HF2.out.next hb5)
      generalize addrCode true r.hi r.lo = c2
      clear hb5 x0 x1 x2 x3 x4 x5 x6 x7
      obtain ⟨x0, x1, x2, x3, x4, x5, x6, x7⟩ := HF5.out.cells
      rw [hk] at x1
      rw [hs] at x2
      by_cases h3 : c2 = 0
      rotate_left
      · have d1 : (c2 != 0) = true := by simpa using h3
        go_wp2_with fail
        go_ret
        exact RfOut.mk HF5.out.below (by decide)
      subst h3
      go_wp2_with fail
      refine (hasAddr_any 28 W5).mono ?_
      rintro e w6 ⟨rfl, rfl⟩
      rw [ha]
      go_wp2_with fail
      refine (hasName_any 28 W5).mono ?_
      rintro e w7 ⟨rfl, rfl⟩
      rw [hn]
      go_wp2_with fail
      refine (hasName_any 28 W5).mono ?_
      rintro e w8 ⟨rfl, rfl⟩
      rw [hn]
      cases hte : r.to.toList.isEmpty
      · go_wp2_with fail
        go_ret
        exact RfOut.mk HF5.out.below (by decide)
      cases hwe : r.words.toList.isEmpty
      · go_wp2_with fail
        go_ret
        exact RfOut.mk HF5.out.below (by decide)
      go_wp2_with fail
      refine (outside_any r.life 0 1000000 W5).mono ?_
      rintro e w9 ⟨rfl, rfl⟩
      by_cases hl1 : r.life < 0
      · have d1 : decide (r.life < 0) = true := by simpa using hl1
        go_wp2_with fail
        go_ret
        exact RfOut.mk HF5.out.below (by decide)
      · by_cases hl2 : 1000000 < r.life
        · have d1 : decide (r.life < 0) = false := by simpa using hl1
          have d2 : decide (1000000 < r.life) = true := by simpa using hl2
          go_wp2_with fail
          go_ret
          exact RfOut.mk HF5.out.below (by decide)
        · have d1 : decide (r.life < 0) = false := by simpa using hl1
          have d2 : decide (1000000 < r.life) = false := by simpa using hl2
          go_wp2_with fail
          go_ret
          exact ⟨0, rfl, fun _ => ⟨by omega, by omega⟩, HF5.out.below⟩
end Go.Proofs.YtedpjecbfcogcaaGreatDoor
