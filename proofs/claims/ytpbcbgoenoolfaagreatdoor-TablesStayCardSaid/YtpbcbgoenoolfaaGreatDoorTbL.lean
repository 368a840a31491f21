/- addr.lookup, Lookup; addr.CheckTable at right tables. -/
import Derived.Test.YtpbcbgoenoolfaaGreatDoorTbB
import Derived.Test.YtpbcbgoenoolfaaGreatDoorTbO
import Derived.Test.YtpbcbgoenoolfaaGreatDoorEnR
import Derived.BigQuiet
import Derived.Deep.Cut
import Derived.Deep.CutRange
import Derived.Test.YtpbcbgoenoolfaaGreatDoorRgE
namespace Go.Proofs.YtpbcbgoenoolfaaGreatDoor
open Go.RowKit Go.Hw
theorem bestF_snoc {α : Type} (bits : α → Int) (P : α → Bool) (x : α) : ∀ (l : List α) (acc : Option α), bestF bits P acc (l ++ [x]) = if P x && decide (mostF bits (bestF bits P acc l) < bits x) then some x else bestF bits P acc l
  | [], acc => rfl
  | y :: l, acc => by
    rw [List.cons_append, bestF, bestF_snoc bits P x l]
    rfl
theorem oldT {w : World} {a o : Obj} {k : Nat} (h : w.heap[k]? = some o) : (w.alloc a).heap[k]? = some o := (heap_alloc_old w a (lt_of_block h)).trans h
def toE : Option En → ByteArray
  | some e => e.tgt
  | none => ⟨#[]⟩
/-- Does an entry have an address? -/
def hasE (s : Bool) (h l : Int) (e : En) : Bool := contP e.six e.hi e.lo e.bits s h l
def bestE (P : En → Bool) (L : List En) : Option En := bestF En.bits P none L
theorem bestE_step {P : En → Bool} {L : List En} {k : Nat} (hk : k < L.length) : bestE P (L.take (k + 1)) = if P (L.getD k noEn) && decide (mostF En.bits (bestE P (L.take k)) < (L.getD k noEn).bits) then some (L.getD k noEn) else bestE P (L.take k) := by
  unfold bestE
  rw [List.take_succ_eq_append_getElem hk, bestF_snoc, List.getD_eq_getElem?_getD, List.getElem?_eq_getElem hk]
  rfl
set_option maxRecDepth 100000 in
set_option maxHeartbeats 1000000 in
theorem lookup_any (A : Option Addr) (cap : Nat) (L : List En) (s : Bool) (h l : Int) (w : World) (hL : enAt w A L) (hr : ∀ e ∈ L, PfRight e.six e.hi e.lo e.bits) (hl : L.length ≤ 1000) (uh : U64 h) (ul : U64 l) :
    Calls Tryz.prog 26 #[.slice A L.length cap, .agg #[.bool s, .int .u64 h, .int .u64 l]] w fun e w' => e = .returned (.string (toE (bestE (hasE s h l) L))) ∧ Below w.heap.size w w' := by
  have hx := heap_alloc_new w (addrBox s h l)
  have HB := Lib.hid ((Below.refl w.heap.size w).alloc (Nat.le_refl _) (addrBox s h l))
  have HX := Lib.hid hx
  unfold addrBox at HX HB
  clear hx
  go_enter Tryz.func26, Tryz.ntmps26
  go_wp2_with fail
  generalize World.alloc w _ = W at *
  go_loopw [5, 6, 8, 11] (fun v5 v6 _ v11 wr => ∃ k : Nat, k ≤ L.length ∧ v11 = .int .i64 k ∧ v5 = .string (toE (bestE (hasE s h l) (L.take k))) ∧ v6 = .int .i64 (mostF En.bits (bestE (hasE s h l) (L.take k))) ∧ Below w.heap.size w wr ∧ wr.heap[w.heap.size]? = some (.cells #[.bool s, .int .u64 h, .int .u64 l] 30 (0, 0))) (fun _ _ _ v11 _ => L.length - (intOf v11).toNat)
  case atStart => exact ⟨0, Nat.zero_le _, rfl, rfl, rfl, HB.out, HX.out⟩
  case round =>
    obtain ⟨k, hk, rfl, rfl, rfl, hb, hx⟩ := hrel
    by_cases hlt : k < L.length
    · obtain ⟨g5, off, rfl, hgB, hcc⟩ := (hL.below hb) k hlt
      obtain ⟨c0, c1, c2, c3, c4⟩ := en_cells hcc
      have hrx := hr (L.getD k noEn) (rw_mem hlt)
      have HST := Lib.hid (bestE_step (P := hasE s h l) hlt)
      have hco := fun W' => contains_any (L.getD k noEn).six (L.getD k noEn).hi (L.getD k noEn).lo (L.getD k noEn).bits s h l W' uh ul hrx
      have HHE : Hid (hasE s h l (L.getD k noEn) = contP (L.getD k noEn).six (L.getD k noEn).hi (L.getD k noEn).lo (L.getD k noEn).bits s h l) := Lib.hid rfl
      generalize L.getD k noEn = x at *
      generalize contP x.six x.hi x.lo x.bits s h l = q at *
      generalize bestE (hasE s h l) (L.take k) = acc at *
      have HBk := Lib.hid hb
      have HXk := Lib.hid hx
      have hbw := lt_of_block hx
      have hd : decide ((k : Int) < (L.length : Int)) = true := by simp; omega
      have HXB := Lib.hid (oldT (a := .cells #[.bool x.six, .int .u64 x.hi, .int .u64 x.lo, .int .i64 x.bits, .string x.tgt] 43 (0, 0)) hx)
      have HBB := Lib.hid (hb.alloc hb.size (.cells #[.bool x.six, .int .u64 x.hi, .int .u64 x.lo, .int .i64 x.bits, .string x.tgt] 43 (0, 0)))
      have HNE := Lib.hid (heap_alloc_new wr (.cells #[.bool x.six, .int .u64 x.hi, .int .u64 x.lo, .int .i64 x.bits, .string x.tgt] 43 (0, 0)))
      obtain ⟨a0, a1, a2, -⟩ := res3 hx
      clear hcc hb hx hL hr hrx
      by_cases hm : mostF En.bits acc < x.bits
      · have e1 : decide (mostF En.bits acc < x.bits) = true := decide_eq_true hm
        rw [e1, Bool.and_true, HHE.out] at HST
        clear hm
        go_upto_region 5 with (fail)
        generalize World.alloc wr _ = W2 at *
        generalize wr.heap.size = nb at *
        obtain ⟨⟨d0, d1, d2, d3, d4⟩, -⟩ := res5 HNE.out
        obtain ⟨a0, a1, a2, -⟩ := res3 HXB.out
        go_wp2_with fail
        refine (hco W2).mono ?_
        rintro e w3 ⟨rfl, hb3⟩
        have HB3 := Lib.hid (HBB.out.trans (hb3.mono HBB.out.size))
        have HX3 := Lib.hid ((hb3.block _ (lt_of_block HXB.out)).trans HXB.out)
        have hn3 := (hb3.block _ (lt_of_block HNE.out)).trans HNE.out
        clear hb3 d0 d1 d2 d3 d4 a0 a1 a2 hco
        cases q
        · rw [if_neg (by decide)] at HST
          go_wp2_with fail
          exact ⟨⟨k + 1, by omega, by simp, by rw [HST.out], by rw [HST.out], HB3.out, HX3.out⟩, by simp [intOf]; omega⟩
        · rw [if_pos rfl] at HST
          obtain ⟨⟨d0, d1, d2, d3, d4⟩, -⟩ := res5 hn3
          clear hn3
          go_wp2_with fail
          go_quiet (fail)
          go_wp2_with fail
          exact ⟨⟨k + 1, by omega, by simp, by rw [HST.out]; rfl, by rw [HST.out]; rfl, below_dn HB3.out _, HX3.out⟩, by simp [intOf]; omega⟩
      · have e1 : decide (mostF En.bits acc < x.bits) = false := decide_eq_false hm
        rw [e1, Bool.and_false, if_neg (by decide)] at HST
        clear hm hco
        go_upto_region 5 with (fail)
        generalize World.alloc wr _ = W2 at *
        generalize wr.heap.size = nb at *
        obtain ⟨⟨d0, d1, d2, d3, d4⟩, -⟩ := res5 HNE.out
        go_wp2_with fail
        exact ⟨⟨k + 1, by omega, by simp, by rw [HST.out], by rw [HST.out], HBB.out, HXB.out⟩, by simp [intOf]; omega⟩
    · have : k = L.length := by omega
      subst this
      rw [List.take_length]
      go_wp2_with fail
      go_ret
      exact ⟨rfl, hb⟩
/-! ### right tables -/
def pfE (x y : En) : Int := orOf [spanC x.six x.hi x.lo y.six y.hi y.lo, cmpI x.bits y.bits]
/-- A right table. -/
structure TblOk (L : List En) : Prop where
  right : ∀ e ∈ L, PfRight e.six e.hi e.lo e.bits
  key : ∀ e ∈ L, isKey e.tgt = true
  ord : ∀ i, i + 1 < L.length → pfE (L.getD i noEn) (L.getD (i + 1) noEn) < 0
  len : L.length ≤ 500
theorem key_short {s : ByteArray} (h : isKey s = true) : s.size ≤ 40 ∧ 0 < s.size := by
  unfold isKey at h
  simp only [Bool.and_eq_true, decide_eq_true_eq] at h
  exact ⟨h.2, h.1.2⟩
set_option maxRecDepth 100000 in
set_option maxHeartbeats 1000000 in
theorem checkTable_right (A : Option Addr) (cap : Nat) (L : List En) (w : World) (hL : enAt w A L) (ht : TblOk L) :
    Calls Tryz.prog 20 #[.slice A L.length cap] w fun e w' => e = .returned (.int .i64 0) ∧ Below w.heap.size w w' := by
  have hlen := ht.len
  have hd0 : decide (500 < (L.length : Int)) = false := by simp; omega
  go_enter Tryz.func20, Tryz.ntmps20
  go_wp2_with fail
  go_loopw [3, 4, 5, 11] (fun _ _ _ v11 wr => ∃ k : Nat, k ≤ L.length ∧ v11 = .int .i64 k ∧ Below w.heap.size w wr) (fun _ _ _ v11 _ => L.length - (intOf v11).toNat)
  case atStart => exact ⟨0, Nat.zero_le _, rfl, Below.refl _ _⟩
  case round =>
    obtain ⟨k, hk, rfl, hb⟩ := hrel
    by_cases hlt : k < L.length
    · obtain ⟨g5, off, hA, hgB, hcc⟩ := (hL.below hb) k hlt
      obtain ⟨c0, c1, c2, c3, c4⟩ := en_cells hcc
      have hrx := ht.right (L.getD k noEn) (rw_mem hlt)
      have hkx := ht.key (L.getD k noEn) (rw_mem hlt)
      have hord : 0 < k → pfE (L.getD (k - 1) noEn) (L.getD k noEn) < 0 := fun h0 => by
        have := ht.ord (k - 1) (by omega)
        rwa [show k - 1 + 1 = k by omega] at this
      have hch := fun W => checkPrefix_any (L.getD k noEn).six (L.getD k noEn).hi (L.getD k noEn).lo (L.getD k noEn).bits W hrx.1.1 hrx.1.2.1
      have hke := fun W => isKey_any (L.getD k noEn).tgt W (by have := key_short hkx; unfold maxLen; omega)
      rw [pfS_right hrx] at hch
      rw [hkx] at hke
      have hprev : 0 < k → ∃ y, L.getD (k - 1) noEn = y ∧ RwCells wr g5 (off + (k - 1) * 5) (enC y) := fun h0 => by
        obtain ⟨g6, off6, e6, -, hc6⟩ := (hL.below hb) (k - 1) (by omega)
        rw [hA] at e6
        injection e6 with e6
        simp only [Addr.mk.injEq, and_true] at e6
        obtain ⟨rfl, rfl⟩ := e6
        exact ⟨_, rfl, hc6⟩
      subst hA
      generalize L.getD k noEn = x at *
      have HBk := Lib.hid hb
      have hd : decide ((k : Int) < (L.length : Int)) = true := by simp; omega
      have HBB := Lib.hid (hb.alloc hb.size (.cells #[.bool x.six, .int .u64 x.hi, .int .u64 x.lo, .int .i64 x.bits, .string x.tgt] 43 (0, 0)))
      have HNE := Lib.hid (heap_alloc_new wr (.cells #[.bool x.six, .int .u64 x.hi, .int .u64 x.lo, .int .i64 x.bits, .string x.tgt] 43 (0, 0)))
      have HGB := Lib.hid hgB
      clear hcc hL ht hrx hkx
      go_upto_region 6 with (fail)
      have hAB : Below wr.heap.size wr (wr.alloc (.cells #[.bool x.six, .int .u64 x.hi, .int .u64 x.lo, .int .i64 x.bits, .string x.tgt] 43 (0, 0))) := (Below.refl _ _).alloc (Nat.le_refl _) _
      have HAB := Lib.hid hAB
      generalize World.alloc wr _ = W2 at HBB HNE HAB ⊢
      obtain ⟨⟨d0, d1, d2, d3, d4⟩, -⟩ := res5 HNE.out
      clear hAB c0 c1 c2 c3 c4 hb
      go_wp2_with fail
      refine (hch W2).mono ?_
      rintro e w3 ⟨rfl, hb3⟩
      have HB3 := Lib.hid (HBB.out.trans (hb3.mono HBB.out.size))
      have HA3 := Lib.hid (HAB.out.trans (hb3.mono HAB.out.size))
      have HN3 := Lib.hid ((hb3.block _ (lt_of_block HNE.out)).trans HNE.out)
      obtain ⟨⟨e0, e1, e2, e3, e4⟩, -⟩ := res5 HN3.out
      clear hb3 d0 d1 d2 d3 d4 hch HNE HBB
      go_wp2_with fail
      refine (hke w3).mono ?_
      rintro e w4 ⟨rfl, rfl⟩
      by_cases h0 : 0 < k
      · obtain ⟨y, hy, hc⟩ := hprev h0
        have ho := hord h0
        rw [hy] at ho
        have hcmp := fun W => comparePrefixes_any y.six y.hi y.lo y.bits x.six x.hi x.lo x.bits W
        have HPF : Hid (orOf [spanC y.six y.hi y.lo x.six x.hi x.lo, cmpI y.bits x.bits] < 0) := Lib.hid ho
        have hk0 : decide ((0 : Int) < (k : Int)) = true := by simp; omega
        obtain ⟨km, hkm⟩ : ∃ km : Nat, k - 1 = km := ⟨_, rfl⟩
        rw [hkm] at hc
        have s1 : IntKind.i64.wrap ((k : Int) - 1) = (km : Int) := (IntWalk.i64_in _ (by omega)).trans (by omega)
        have s4 : (km : Int) < (L.length : Int) := by omega
        have hc3 := hc.keep (w' := w3) (fun p hp => HA3.out.cell (by rw [hp]; exact HGB.out))
        obtain ⟨y0, y1, y2, y3, -⟩ := en_cells hc3
        generalize orOf [spanC y.six y.hi y.lo x.six x.hi x.lo, cmpI y.bits x.bits] = o at *
        have ho1 : decide ((0 : Int) ≤ o) = false := by have := HPF.out; simp; omega
        clear hc hc3 hprev hord hy ho HPF hke hkm
        go_upto_region 11 with (fail)
        have hg3 : g5 < w3.heap.size := by have := HA3.out.size; have := HGB.out; omega
        have hw3 := lt_of_block HN3.out
        clear e4
        -- REGION11
        have hg3 : g5 < w3.heap.size := by have := HA3.out.size; have := HGB.out; omega
        have hw3 := lt_of_block HN3.out
        go_cut [39] from 26 to 38 (fun v39 wc => v39 = .bool false ∧ Below w3.heap.size w3 wc)
        case first =>
          refine wp_region_exact 13 (fun f' => ⟨#[.slice (some ⟨g5, off, none⟩) L.length cap, undef, u2, .int .i64 k, .pointer (some ⟨wr.heap.size, 0, none⟩), .int .i64 0, .slice (some ⟨g5, off, none⟩) L.length cap, .int .i64 L.length, .bool false, .slice (some ⟨g5, off, none⟩) L.length cap, .int .i64 L.length, .int .i64 k, .bool true, .int .i64 k, .pointer (some ⟨g5, off + k * 5, none⟩), .agg #[Value.bool x.six, Value.int IntKind.u64 x.hi, Value.int IntKind.u64 x.lo, Value.int IntKind.i64 x.bits, Value.string x.tgt], .pointer (some ⟨wr.heap.size, 0, none⟩), .agg #[Value.bool x.six, Value.int IntKind.u64 x.hi, Value.int IntKind.u64 x.lo, Value.int IntKind.i64 x.bits], .int .i64 0, .int .i64 0, .bool false, u21, .pointer (some ⟨wr.heap.size, 4, none⟩), .string x.tgt, .bool true, .bool false, f' 0, f' 1, f' 2, f' 3, f' 4, f' 5, f' 6, f' 7, f' 8, f' 9, f' 10, f' 11, f' 12, u39, u40], []⟩) (fun i => match i with | 0 => .int .i64 k | 1 => .bool true | 2 => .bool true | 3 => .slice (some ⟨g5, off, none⟩) L.length cap | 4 => .int .i64 k | 5 => .int .i64 km | 6 => .pointer (some ⟨g5, off + km * 5, none⟩) | 7 => .pointer (some ⟨g5, off + km * 5, none⟩) | 8 => .agg #[.bool y.six, .int .u64 y.hi, .int .u64 y.lo, .int .i64 y.bits] | 9 => .pointer (some ⟨wr.heap.size, 0, none⟩) | 10 => .agg #[.bool x.six, .int .u64 x.hi, .int .u64 x.lo, .int .i64 x.bits] | 11 => .int .i64 o | 12 => .bool false | _ => undef) (fun lb w' => Hid (Below w3.heap.size w3 w')) (fun i => match i with | 0 => u26 | 1 => u27 | 2 => u28 | 3 => u29 | 4 => u30 | 5 => u31 | 6 => u32 | 7 => u33 | 8 => u34 | 9 => u35 | 10 => u36 | 11 => u37 | 12 => u38 | _ => undef) 10 (show Tryz.prog.follows .mixedOrders = true from by kernel_rfl) (by kernel_rfl) ?_ ?_ (Lib.hid (Below.refl _ _).drew)
          · intro i op hi ho lb f' w' hl hS hd
            have hcase : i = 0 ∨ i = 1 ∨ i = 2 ∨ i = 3 ∨ i = 4 ∨ i = 5 ∨ i = 6 ∨ i = 7 ∨ i = 8 ∨ i = 9 ∨ i = 10 ∨ i = 11 ∨ i = 12 := by omega
            rcases hcase with rfl | rfl | rfl | rfl | rfl | rfl | rfl | rfl | rfl | rfl | rfl | rfl | rfl <;> (replace ho := Option.some.inj ho; subst ho)
            · refine OpStep.of rfl ?_
              unfold Oper.wp
              go_simp
              first | exact ⟨by first | (simp [upd]; done) | (simp [upd]; omega), hS⟩ | (simp [upd]; done) | (simp [upd]; omega)
            · have e0 : f' 0 = .int .i64 k := (hd ⟨0, .data⟩ (by simp) rfl).2
              refine OpStep.of rfl ?_
              unfold Oper.wp
              go_simp
              first | exact ⟨by first | (simp [upd, e0]; done) | (simp [upd, e0]; omega), hS⟩ | (simp [upd, e0]; done) | (simp [upd, e0]; omega)
            · have e1 : f' 1 = .bool true := (hd ⟨1, .data⟩ (by simp) rfl).2
              refine OpStep.of rfl ?_
              unfold Oper.wp
              go_simp
              first | exact ⟨by first | (simp [upd, e1]; done) | (simp [upd, e1]; omega), hS⟩ | (simp [upd, e1]; done) | (simp [upd, e1]; omega)
            · refine OpStep.of (by have e2 : f' 2 = .bool true := (hd ⟨2, .guard⟩ (by simp) rfl).2; simp [Region.wanted, yielded, e2]) ?_
              unfold Oper.wp
              go_simp
              first | exact ⟨by first | (simp [upd]; done) | (simp [upd]; omega), hS⟩ | (simp [upd]; done) | (simp [upd]; omega)
            · refine OpStep.of (by have e2 : f' 2 = .bool true := (hd ⟨2, .guard⟩ (by simp) rfl).2; simp [Region.wanted, yielded, e2]) ?_
              unfold Oper.wp
              go_simp
              first | exact ⟨by first | (simp [upd]; done) | (simp [upd]; omega), hS⟩ | (simp [upd]; done) | (simp [upd]; omega)
            · have e4 : f' 4 = .int .i64 k := (hd ⟨4, .data⟩ (by simp) rfl).2
              refine OpStep.of (by have e2 : f' 2 = .bool true := (hd ⟨2, .guard⟩ (by simp) rfl).2; simp [Region.wanted, yielded, e2]) ?_
              unfold Oper.wp
              go_simp
              first | exact ⟨by first | (simp [upd, e4]; done) | (simp [upd, e4]; omega), hS⟩ | (simp [upd, e4]; done) | (simp [upd, e4]; omega)
            · have e3 : f' 3 = .slice (some ⟨g5, off, none⟩) L.length cap := (hd ⟨3, .data⟩ (by simp) rfl).2
              have e5 : f' 5 = .int .i64 km := (hd ⟨5, .data⟩ (by simp) rfl).2
              refine OpStep.of (by have e2 : f' 2 = .bool true := (hd ⟨2, .guard⟩ (by simp) rfl).2; simp [Region.wanted, yielded, e2]) ?_
              unfold Oper.wp
              go_simp
              first | exact ⟨by first | (simp [upd, e3, e5]; done) | (simp [upd, e3, e5]; omega), hS⟩ | (simp [upd, e3, e5]; done) | (simp [upd, e3, e5]; omega)
            · have e6 : f' 6 = .pointer (some ⟨g5, off + km * 5, none⟩) := (hd ⟨6, .data⟩ (by simp) rfl).2
              refine OpStep.of (by have e2 : f' 2 = .bool true := (hd ⟨2, .guard⟩ (by simp) rfl).2; simp [Region.wanted, yielded, e2]) ?_
              unfold Oper.wp
              go_simp
              first | exact ⟨by first | (simp [upd, e6]; done) | (simp [upd, e6]; omega), hS⟩ | (simp [upd, e6]; done) | (simp [upd, e6]; omega)
            · have e7 : f' 7 = .pointer (some ⟨g5, off + km * 5, none⟩) := (hd ⟨7, .data⟩ (by simp) rfl).2
              refine OpStep.of (by have e2 : f' 2 = .bool true := (hd ⟨2, .guard⟩ (by simp) rfl).2; simp [Region.wanted, yielded, e2]) ?_
              have e7 : f' 7 = .pointer (some ⟨g5, off + km * 5, none⟩) := (hd ⟨7, .data⟩ (by simp) rfl).2
              have y0' : w'.cell? ⟨g5, off + km * 5, none⟩ = some (.bool y.six) := (hS.out.cell (p := ⟨g5, _, none⟩) hg3).trans y0
              have y1' : w'.cell? ⟨g5, off + km * 5 + 1, none⟩ = some (.int .u64 y.hi) := (hS.out.cell (p := ⟨g5, _, none⟩) hg3).trans y1
              have y2' : w'.cell? ⟨g5, off + km * 5 + 2, none⟩ = some (.int .u64 y.lo) := (hS.out.cell (p := ⟨g5, _, none⟩) hg3).trans y2
              have y3' : w'.cell? ⟨g5, off + km * 5 + 3, none⟩ = some (.int .i64 y.bits) := (hS.out.cell (p := ⟨g5, _, none⟩) hg3).trans y3
              unfold Oper.wp
              go_simp
              first | exact ⟨by simp [upd, e7], hS⟩ | simp [upd, e7]
            · refine OpStep.of (by have e2 : f' 2 = .bool true := (hd ⟨2, .guard⟩ (by simp) rfl).2; simp [Region.wanted, yielded, e2]) ?_
              unfold Oper.wp
              go_simp
              first | exact ⟨by first | (simp [upd]; done) | (simp [upd]; omega), hS⟩ | (simp [upd]; done) | (simp [upd]; omega)
            · have e9 : f' 9 = .pointer (some ⟨wr.heap.size, 0, none⟩) := (hd ⟨9, .data⟩ (by simp) rfl).2
              refine OpStep.of (by have e2 : f' 2 = .bool true := (hd ⟨2, .guard⟩ (by simp) rfl).2; simp [Region.wanted, yielded, e2]) ?_
              have e9 : f' 9 = .pointer (some ⟨wr.heap.size, 0, none⟩) := (hd ⟨9, .data⟩ (by simp) rfl).2
              have e0' : w'.cell? ⟨wr.heap.size, 0, none⟩ = some (.bool x.six) := (hS.out.cell (p := ⟨wr.heap.size, _, none⟩) hw3).trans e0
              have e1' : w'.cell? ⟨wr.heap.size, 1, none⟩ = some (.int .u64 x.hi) := (hS.out.cell (p := ⟨wr.heap.size, _, none⟩) hw3).trans e1
              have e2' : w'.cell? ⟨wr.heap.size, 2, none⟩ = some (.int .u64 x.lo) := (hS.out.cell (p := ⟨wr.heap.size, _, none⟩) hw3).trans e2
              have e3' : w'.cell? ⟨wr.heap.size, 3, none⟩ = some (.int .i64 x.bits) := (hS.out.cell (p := ⟨wr.heap.size, _, none⟩) hw3).trans e3
              unfold Oper.wp
              go_simp
              first | exact ⟨by simp [upd, e9], hS⟩ | simp [upd, e9]
            · have e8 : f' 8 = .agg #[.bool y.six, .int .u64 y.hi, .int .u64 y.lo, .int .i64 y.bits] := (hd ⟨8, .data⟩ (by simp) rfl).2
              have e10 : f' 10 = .agg #[.bool x.six, .int .u64 x.hi, .int .u64 x.lo, .int .i64 x.bits] := (hd ⟨10, .data⟩ (by simp) rfl).2
              refine OpStep.of (by have e2 : f' 2 = .bool true := (hd ⟨2, .guard⟩ (by simp) rfl).2; simp [Region.wanted, yielded, e2]) ?_
              unfold Oper.wp
              go_simp
              refine (hcmp w').mono ?_
              rintro e w9 ⟨rfl, hb9⟩
              exact ⟨by simp [upd, e8, e10], Lib.hid (hS.out.trans (hb9.mono hS.out.size))⟩
            · have e11 : f' 11 = .int .i64 o := (hd ⟨11, .data⟩ (by simp) rfl).2
              refine OpStep.of (by have e2 : f' 2 = .bool true := (hd ⟨2, .guard⟩ (by simp) rfl).2; simp [Region.wanted, yielded, e2]) ?_
              unfold Oper.wp
              go_simp
              first | exact ⟨by first | (simp [upd, e11]; done) | (simp [upd, e11]; omega), hS⟩ | (simp [upd, e11]; done) | (simp [upd, e11]; omega)
          · intro op ho lb f' w' hd hS
            have e2 : f' 2 = .bool true := (hd 2 (by omega)).2
            have e12 : f' 12 = .bool false := (hd 12 (by omega)).2
            replace ho := Option.some.inj ho
            subst ho
            refine ⟨rfl, ?_⟩
            unfold Oper.wp
            go_simp
            first | (go_step; go_step; go_meet) | (go_step; go_meet) | go_meet | skip
            exact ⟨rfl, hS.out⟩
        case rest =>
          obtain ⟨rfl, hb9⟩ := hcut
          have HB9 := Lib.hid (HB3.out.trans (hb9.mono HB3.out.size))
          clear hb9 y0 y1 y2 y3 e0 e1 e2 e3
          go_wp2_with fail
          exact ⟨⟨k + 1, by omega, by simp, HB9.out⟩, by simp [intOf]; omega⟩
        -- END11
      · have hk0 : decide ((0 : Int) < (k : Int)) = false := by simp; omega
        clear hprev hord hke
        go_upto_region 11 with (fail)
        go_quiet (fail)
        go_wp2_with fail
        exact ⟨⟨k + 1, by omega, by simp, below_dn HB3.out _⟩, by simp [intOf]; omega⟩
    · have : k = L.length := by omega
      subst this
      go_wp2_with fail
      go_ret
      exact ⟨rfl, hb⟩
set_option maxRecDepth 100000 in
theorem lookupApi_right (A : Option Addr) (cap : Nat) (L : List En) (s : Bool) (h l : Int) (w : World) (hL : enAt w A L) (ht : TblOk L) (hf : AddrFine s h l) :
    Calls Tryz.prog 8 #[.slice A L.length cap, .agg #[.bool s, .int .u64 h, .int .u64 l]] w fun e w' => e = .returned (.tuple #[.string (toE (bestE (hasE s h l) L)), .bool (!(toE (bestE (hasE s h l) L)).toList.isEmpty), .int .i64 0]) ∧ Below w.heap.size w w' := by
  have hx := heap_alloc_new w (addrBox s h l)
  have HB := Lib.hid ((Below.refl w.heap.size w).alloc (Nat.le_refl _) (addrBox s h l))
  have HX := Lib.hid hx
  have HLW := Lib.hid (hL.below ((Below.refl w.heap.size w).alloc (Nat.le_refl _) (addrBox s h l)))
  have hch := fun W => checkAddr_any s h l W hf.1.1
  rw [hf.code] at hch
  have hlk := fun W (hW : enAt W A L) => lookup_any A cap L s h l W hW ht.right (by have := ht.len; omega) hf.1 hf.2.1
  have HT := Lib.hid ht
  generalize toE (bestE (hasE s h l) L) = tt at *
  unfold addrBox at HX HB HLW
  clear hx hL ht hf
  go_enter Tryz.func8, Tryz.ntmps8
  go_wp2_with fail
  generalize World.alloc w _ = W at *
  refine (checkTable_right A cap L W HLW.out HT.out).mono ?_
  rintro e w1 ⟨rfl, hb1⟩
  have HB1 := Lib.hid (HB.out.trans (hb1.mono HB.out.size))
  have HL1 := Lib.hid (HLW.out.below hb1)
  have HX1 := Lib.hid ((hb1.block _ (lt_of_block HX.out)).trans HX.out)
  obtain ⟨a0, a1, a2, -⟩ := res3 HX1.out
  clear hb1 HB HLW HX
  go_wp2_with fail
  refine (hch w1).mono ?_
  rintro e w2 ⟨rfl, hb2⟩
  have HB2 := Lib.hid (HB1.out.trans (hb2.mono HB1.out.size))
  have HL2 := Lib.hid (HL1.out.below hb2)
  have HX2 := (hb2.block _ (lt_of_block HX1.out)).trans HX1.out
  clear hb2 HB1 HL1 HX1 a0 a1 a2 hch
  obtain ⟨a0, a1, a2, -⟩ := res3 HX2
  clear HX2
  go_wp2_with fail
  refine (hlk w2 HL2.out).mono ?_
  rintro e w3 ⟨rfl, hb3⟩
  have HB3 := Lib.hid (HB2.out.trans (hb3.mono HB2.out.size))
  clear hb3 a0 a1 a2 hlk
  go_wp2_with fail
  refine bodyPost_ret (v := .tuple #[.string tt, .bool (!tt.toList.isEmpty), .int .i64 0]) (by simp [results, Tryz.results8, go_sem]) rfl ⟨rfl, HB3.out⟩
end Go.Proofs.YtpbcbgoenoolfaaGreatDoor
