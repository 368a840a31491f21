/- addr.Loose at any string. -/
import Derived.Test.YtcicednopgpjfaaGreatDoorAxH
import Derived.Laws.CopyOwn
namespace Go.Proofs.YtcicednopgpjfaaGreatDoor
open Go.RowKit Go.Hw Go.Shelf
/-- Four words in one number. -/
def packW (l : List Nat) : Nat := l.foldl (fun a n => a * 65536 + n) 0
/-- The eight words with zeros in the gap. -/
def eightW (g h : List Nat) : List Nat := g ++ (List.replicate (8 - (g.length + h.length)) 0 ++ h)
def looseG (gap : Bool) (g h : Option (List Nat)) : Option (Bool × Nat × Nat) :=
  match g, h with
  | some g, some h => if (gap && decide (7 < g.length + h.length) || !gap && decide (g.length ≠ 8)) = true then none else some (true, packW ((eightW g h).take 4), packW ((eightW g h).drop 4))
  | _, _ => none
/-- What Loose reads. -/
def looseF (s : List UInt8) : Option (Bool × Nat × Nat) :=
  if Lib.contains s [58] = true then looseG (Lib.cut s [58, 58]).2.2 (groupsF (Lib.cut s [58, 58]).1 (!(Lib.cut s [58, 58]).2.2)) (groupsF (Lib.cut s [58, 58]).2.1 true)
  else (fourF s).map (fun n => (false, 0, n))
def looseA : Option (Bool × Nat × Nat) → Value
  | some (b, hi, lo) => .agg #[.bool b, .int .u64 (hi : Int), .int .u64 (lo : Int)]
  | none => .agg #[.bool false, .int .u64 0, .int .u64 0]
def looseE : Option (Bool × Nat × Nat) → Int
  | some _ => 0
  | none => 9
theorem cut_le (s sep : List UInt8) : (Lib.cut s sep).1.length ≤ s.length ∧ (Lib.cut s sep).2.1.length ≤ s.length := by
  unfold Lib.cut
  split <;> simp
  all_goals omega
theorem cut_gap {s sep : List UInt8} (h : (Lib.cut s sep).2.2 = false) : (Lib.cut s sep).2.1 = [] := by
  unfold Lib.cut at h ⊢
  split <;> simp_all
theorem hexP2_fold (l : List UInt8) (h : ∀ c ∈ l, hexD c = true) (a : Nat) : l.foldl (fun a c => a * 16 + hexV2 c) a < (a + 1) * 16 ^ l.length := by
  induction l generalizing a with
  | nil => simp
  | cons c l ih =>
    have hc : hexV2 c < 16 := by
      exact hexV2_lt c (h c (List.mem_cons_self))
    have := ih (fun d hd => h d (List.mem_cons_of_mem _ hd)) (a * 16 + hexV2 c)
    simp only [List.foldl_cons, List.length_cons]
    refine Nat.lt_of_lt_of_le this ?_
    rw [Nat.pow_succ, Nat.mul_comm (16 ^ l.length) 16, ← Nat.mul_assoc]
    exact Nat.mul_le_mul_right _ (by omega)
theorem heap_setI {w : World} {b : Nat} {cs : Array Value} {t : TypeId} {l} (h : w.heap[b]? = some (.cells cs t l)) (i : Nat) (v : Value) : (w.setCell ⟨b, i, none⟩ v).heap[b]? = some (.cells (cs.setIfInBounds i v) t l) := by
  simp [World.setCell, Array.getElem?_modify, h]
theorem put3 {B0 b : Nat} {w V : World} {t : TypeId} {l} {z0 z1 z2 : Value} (v0 v1 v2 : Value) (hb : Below B0 w V) (hB : B0 ≤ b) (hz : V.heap[b]? = some (.cells #[z0, z1, z2] t l)) :
    Below B0 w (((V.setCell ⟨b, 0, none⟩ v0).setCell ⟨b, 1, none⟩ v1).setCell ⟨b, 2, none⟩ v2) ∧ (((V.setCell ⟨b, 0, none⟩ v0).setCell ⟨b, 1, none⟩ v1).setCell ⟨b, 2, none⟩ v2).heap[b]? = some (.cells #[v0, v1, v2] t l) := by
  constructor
  · iterate 3 refine Below.setCell ?_ hB _
    exact hb
  · have h := heap_setI (heap_setI (heap_setI hz 0 v0) 1 v1) 2 v2
    simpa using h
theorem hexP2_lt {x : List UInt8} (h : grW x = true) : hexP2 x < 65536 := by
  simp [grW] at h
  have h1 := hexP2_fold x (fun c hc => h.2 c hc) 0
  have h2 : 16 ^ x.length ≤ 16 ^ 4 := Nat.pow_le_pow_right (by decide) h.1.2
  unfold hexP2
  omega
theorem grF_ok {last : Bool} : ∀ {l : List (List UInt8)} {xs : List Nat}, grF last l = some xs → xs.length ≤ l.length + 1 ∧ ∀ n ∈ xs, n < 65536
  | [], xs, h => by
    rw [grF] at h
    injection h with h
    subst h
    simp
  | w :: r, xs, h => by
    rw [grF] at h
    split at h
    · cases hf : fourF w with
      | none => rw [hf] at h; cases h
      | some n =>
        rw [hf] at h
        injection h with h
        subst h
        have := fourF_lt hf
        simp
        omega
    · split at h
      · rename_i hw
        cases hg : grF last r with
        | none => rw [hg] at h; cases h
        | some ys =>
          rw [hg] at h
          injection h with h
          subst h
          have := grF_ok hg
          refine ⟨by simp; omega, fun n hn => ?_⟩
          rcases List.mem_cons.1 hn with rfl | hn
          · exact hexP2_lt hw
          · exact this.2 n hn
      · cases h
theorem groupsF_ok {s : List UInt8} {last : Bool} {xs : List Nat} (h : groupsF s last = some xs) : xs.length ≤ s.length + 2 ∧ ∀ n ∈ xs, n < 65536 := by
  unfold groupsF at h
  split at h
  · injection h with h
    subst h
    simp
  · have h1 := grF_ok h
    have h2 := split_le s 58
    exact ⟨by omega, h1.2⟩
theorem eight_cells {α : Type} (z : α) (A B : List α) (h : A.length + B.length ≤ 8) :
    splice (splice [z, z, z, z, z, z, z, z] 0 A) (8 - B.length) B = A ++ (List.replicate (8 - (A.length + B.length)) z ++ B) := by
  rw [show [z, z, z, z, z, z, z, z] = List.replicate 8 z from rfl]
  unfold splice
  have e : 8 - B.length + B.length = 8 := by omega
  rw [e]
  simp only [List.take_zero, List.nil_append, Nat.zero_add, List.drop_replicate]
  rw [List.take_append, List.take_of_length_le (by omega), List.take_replicate, List.drop_append, List.drop_of_length_le (by omega), List.drop_replicate]
  have e2 : min (8 - B.length - A.length) (8 - A.length) = 8 - (A.length + B.length) := by omega
  have e3 : 8 - A.length - (8 - A.length) = 0 := by omega
  rw [e2, e3]
  simp
/-- The form of an own row of numbers. -/
theorem u64_form {w : World} {base : Nat} {v : Value} {xs : List Nat} (h : U64sOwn w base v xs) : ∃ p cap, v = .slice p xs.length cap ∧ (0 < xs.length → ∃ ad, p = some ad ∧ ∀ j u, (xs.map fun n : Nat => Value.int .u64 (n : Int))[j]? = some u → w.cell? (ad.add j) = some u) := by
  rcases h.2 with ⟨rfl, h2⟩ | ⟨g, cap, cur, rfl, -, hg, -, -, -, ht⟩
  · exact ⟨none, 0, by rw [h2], fun h => by omega⟩
  · refine ⟨_, cap, rfl, fun _ => ⟨_, rfl, fun j u hj => ?_⟩⟩
    rw [← ht, List.getElem?_take] at hj
    split at hj
    · simp [Addr.add, World.cell?]
      by_cases h0 : j = 0
      · subst h0
        simpa [hg] using hj
      · simpa [h0, hg] using hj
    · cases hj
theorem cell_keep {w w' : World} {a : Addr} {v : Value} (hb : Below w.heap.size w w') (h : w.cell? a = some v) : w'.cell? a = some v := by
  have hlt : a.block < w.heap.size := by
    unfold World.cell? at h
    cases hh : w.heap[a.block]? with
    | none => rw [hh] at h; cases h
    | some o => exact (Array.getElem?_eq_some_iff.1 hh).1
  exact (hb.cell (p := a) hlt).trans h
theorem packW_snoc (l : List Nat) (x : Nat) : packW (l ++ [x]) = packW l * 65536 + x := by simp [packW]
theorem packW_fold : ∀ (l : List Nat) (a : Nat), (∀ x ∈ l, x < 65536) → l.foldl (fun a n => a * 65536 + n) a < (a + 1) * 65536 ^ l.length
  | [], a, _ => by simp
  | x :: l, a, h => by
    have hx := h x (by simp)
    have := packW_fold l (a * 65536 + x) (fun y hy => h y (by simp [hy]))
    simp only [List.foldl_cons, List.length_cons]
    refine Nat.lt_of_lt_of_le this ?_
    rw [Nat.pow_succ, Nat.mul_comm (65536 ^ l.length) 65536, ← Nat.mul_assoc]
    exact Nat.mul_le_mul_right _ (by omega)
theorem packW_lt {l : List Nat} (h : ∀ x ∈ l, x < 65536) (hl : l.length ≤ 3) : packW l < 281474976710656 := by
  have h1 := packW_fold l 0 h
  have h2 : 65536 ^ l.length ≤ 65536 ^ 3 := Nat.pow_le_pow_right (by decide) hl
  unfold packW
  omega
theorem or_65536 (a n : Nat) (ha : a * 65536 < 18446744073709551616) (hn : n < 65536) : bits .or .u64 ((a : Int) * 65536) (n : Int) = ((a * 65536 + n : Nat) : Int) := by
  have := u64_or_nat (a * 65536) n ha (by omega)
  rw [Int.natCast_mul] at this
  rw [show ((65536 : Nat) : Int) = 65536 from rfl] at this
  rw [this, show a * 65536 ||| n = a * 65536 + n from by rw [show a * 65536 = 2 ^ 16 * a by omega]; exact (Nat.two_pow_add_eq_or_of_lt hn a).symm]
def u64C (l : List Nat) : List Value := l.map fun n : Nat => Value.int .u64 (n : Int)
/-- The loop that packs the words. -/
structure LoI (w5 : World) (A B : Nat) (E : List Nat) (k : Nat) (W : World) : Prop where
  below : Below w5.heap.size w5 W
  words : W.heap[A]? = some (.cells (u64C E).toArray 58 (0, 0))
  out : W.heap[B]? = some (.cells #[.bool true, .int .u64 ((packW ((E.take 4).take k) : Nat) : Int), .int .u64 ((packW ((E.drop 4).take k) : Nat) : Int)] 28 (0, 0))
  lA : w5.heap.size ≤ A
  lB : A < B
theorem LoI.step {w5 W : World} {A B : Nat} {E : List Nat} {k h l : Nat} (H : LoI w5 A B E k W) (hh : packW ((E.take 4).take (k + 1)) = h) (hl : packW ((E.drop 4).take (k + 1)) = l) : LoI w5 A B E (k + 1) ((W.setCell ⟨B, 1, none⟩ (.int .u64 (h : Int))).setCell ⟨B, 2, none⟩ (.int .u64 (l : Int))).drew where
  below := ((H.below.setCell (show w5.heap.size ≤ B by have := H.lA; have := H.lB; omega) _).setCell (show w5.heap.size ≤ B by have := H.lA; have := H.lB; omega) _).trans ⟨rfl, rfl, rfl, Nat.le_refl _, fun _ _ => rfl⟩
  words := ((Below.heap_setCell _ _ _ A (show A ≠ B by have := H.lB; omega)).trans ((Below.heap_setCell _ _ _ A (show A ≠ B by have := H.lB; omega)).trans H.words))
  out := by
    have h0 := heap_setI (heap_setI H.out 1 (.int .u64 (h : Int))) 2 (.int .u64 (l : Int))
    rw [hh, hl]
    show ((W.setCell ⟨B, 1, none⟩ (.int .u64 (h : Int))).setCell ⟨B, 2, none⟩ (.int .u64 (l : Int))).heap[B]? = _
    simpa using h0
  lA := H.lA
  lB := H.lB
/-- The result's block stands. -/
structure LzI (w : World) (o : Obj) (W : World) : Prop where
  below : Below w.heap.size w W
  blk : W.heap[w.heap.size]? = some o
theorem LzI.start (w : World) (o : Obj) : LzI w o (w.alloc o) := ⟨(Below.refl _ _).alloc (Nat.le_refl _) _, heap_alloc_new _ _⟩
theorem LzI.call {w W W' : World} {o : Obj} (h : LzI w o W) (hb : Below W.heap.size W W') : LzI w o W' :=
  ⟨h.below.trans (hb.mono h.below.size), (hb.block _ (lt_of_block h.blk)).trans h.blk⟩
set_option maxRecDepth 100000 in
set_option maxHeartbeats 4000000 in
theorem loose_any (s : ByteArray) (w : World) (V : NmVars w) (hs : s.size ≤ 100000) :
    Calls Tryz.prog 8 #[.string s] w fun e w' => e = .returned (.tuple #[looseA (looseF s.data.toList), .int .i64 (looseE (looseF s.data.toList))]) ∧ Below w.heap.size w w' := by
  have HV := Lib.hid V
  obtain ⟨cb, hcb⟩ : ∃ cb : Bool, Lib.contains s.data.toList [58] = cb := ⟨_, rfl⟩
  have VA : ∀ o, NmVars (w.alloc o) := fun o => V.below ((Below.refl _ _).alloc (Nat.le_refl _) o) (Nat.le_refl _)
  have hct : ∀ o : Obj, Calls Tryz.prog 19 #[.string s, .string ⟨#[58]⟩] (w.alloc o) fun e w' => e = .returned (.bool cb) ∧ w' = w.alloc o := fun o => by
    obtain ⟨m, hm⟩ := (VA o).mx
    have := Tryz.strings_Contains s ⟨#[58]⟩ m (w.alloc o) (by omega) hm
    rw [show (⟨#[58]⟩ : ByteArray).data.toList = [58] from rfl, hcb] at this
    exact this
  cases cb
  · have HF : Hid (looseF s.data.toList = (fourF s.data.toList).map (fun n => (false, 0, n))) := Lib.hid (by unfold looseF; rw [if_neg (by rw [hcb]; decide)])
    have hfa := fun o => four_any s (w.alloc o) (VA o) hs
    obtain ⟨N, hN⟩ : ∃ N, (fourF s.data.toList).getD 0 = N := ⟨_, rfl⟩
    obtain ⟨b, hb⟩ : ∃ b, (fourF s.data.toList).isSome = b := ⟨_, rfl⟩
    have HR : Hid (looseF s.data.toList = if b = true then some (false, 0, N) else none) := Lib.hid (by
      rw [HF.out, ← hb, ← hN]
      cases h : fourF s.data.toList with
      | none => rfl
      | some n => rfl)
    rw [hN, hb] at hfa
    clear hN hb hcb V VA
    go_enter Tryz.func8, Tryz.ntmps8
    go_wp2_with fail
    refine (hct _).mono ?_
    rintro e w1 ⟨rfl, rfl⟩
    go_wp2_with fail
    refine (hfa _).mono ?_
    rintro e w2 ⟨rfl, hb2⟩
    have hbx := (hb2.block _ (lt_of_block (heap_alloc_new w _))).trans (heap_alloc_new w _)
    have HB2 := Lib.hid (((Below.refl w.heap.size w).alloc (Nat.le_refl _) _).trans (hb2.mono (by rw [World.alloc]; simp)))
    have HBX := Lib.hid hbx
    obtain ⟨z0, z1, z2, g0, g1, g2⟩ := res3 hbx
    clear hbx hb2 hct hfa
    cases b
    · go_wp2_with fail
      generalize hW : World.setCell _ _ _ = W99
      obtain ⟨hst, hr⟩ := hW ▸ put3 (.bool false) (.int .u64 0) (.int .u64 0) HB2.out (Nat.le_refl _) HBX.out
      obtain ⟨y0, y1, y2, -⟩ := res3 hr
      refine bodyPost_ret (v := .tuple #[.agg #[.bool false, .int .u64 0, .int .u64 0], .int .i64 9]) (by simp [results, Tryz.results8, go_sem, y0, y1, y2]) rfl ⟨by rw [HR.out]; rfl, hst⟩
    · go_wp2_with fail
      generalize hW : World.setCell _ _ _ = W99
      obtain ⟨hst, hr⟩ := hW ▸ put3 (.bool false) (.int .u64 0) (.int .u64 N) HB2.out (Nat.le_refl _) HBX.out
      obtain ⟨y0, y1, y2, -⟩ := res3 hr
      refine bodyPost_ret (v := .tuple #[.agg #[.bool false, .int .u64 0, .int .u64 N], .int .i64 0]) (by simp [results, Tryz.results8, go_sem, y0, y1, y2]) rfl ⟨by rw [HR.out]; rfl, hst⟩
  · obtain ⟨lx, rx, gap, hcut⟩ : ∃ lx rx gap, Lib.cut s.data.toList [58, 58] = (lx, rx, gap) := ⟨_, _, _, rfl⟩
    have hcl := cut_le s.data.toList [58, 58]
    have HF : Hid (looseF s.data.toList = looseG gap (groupsF lx (!gap)) (groupsF rx true)) := Lib.hid (by unfold looseF; rw [if_pos hcb, hcut])
    have hsz : s.data.toList.length = s.size := Array.length_toList
    rw [hcut, hsz] at hcl
    have hcu : ∀ o : Obj, Calls Tryz.prog 21 #[.string s, .string ⟨#[58, 58]⟩] (w.alloc o) fun e w' => e = .returned (.tuple #[.string (toB lx), .string (toB rx), .bool gap]) ∧ ∃ n, w' = (w.alloc o).drewN n := fun o => by
      obtain ⟨m, hm⟩ := (VA o).mx
      have := Tryz.strings_Cut s ⟨#[58, 58]⟩ m (w.alloc o) (by omega) hm
      rw [show (⟨#[58, 58]⟩ : ByteArray).data.toList = [58, 58] from rfl, hcut] at this
      exact this
    have hgr := fun (x : List UInt8) (hx : x.length ≤ 100000) (b : Bool) (W : World) (VW : NmVars W) => (toB_data x) ▸ groups_any (toB x) b W VW (by rw [show (toB x).size = x.length from List.size_toArray]; exact hx)
    have l1 : lx.length ≤ 100000 := Nat.le_trans hcl.1 hs
    have l2 : rx.length ≤ 100000 := Nat.le_trans hcl.2 hs
    obtain ⟨lb, hlb⟩ : ∃ lb, toB lx = lb := ⟨_, rfl⟩
    obtain ⟨rb, hrb⟩ : ∃ rb, toB rx = rb := ⟨_, rfl⟩
    have hg1 := fun W VW => hgr lx l1 (!gap) W VW
    have hg2 := fun W VW => hgr rx l2 true W VW
    rw [hlb] at hg1 hcu
    rw [hrb] at hg2 hcu
    have hgz : gap = false → groupsF rx true = some [] := fun h => by
      have := cut_gap (s := s.data.toList) (sep := [58, 58]) (by rw [hcut]; exact h)
      rw [hcut] at this
      rw [show rx = [] from this]
      rfl
    have hk1 := fun xs h => groupsF_ok (s := lx) (last := !gap) (xs := xs) h
    have hk2 := fun xs h => groupsF_ok (s := rx) (last := true) (xs := xs) h
    generalize groupsF lx (!gap) = G1 at *
    generalize groupsF rx true = G2 at *
    have HK1 := Lib.hid hk1
    have HGZ := Lib.hid hgz
    have HK2 := Lib.hid hk2
    have HVA := Lib.hid VA
    clear hgr hlb hrb hcut hcl hsz hk1 hk2 hgz V VA
    go_enter Tryz.func8, Tryz.ntmps8
    go_wp2_with fail
    refine (hct _).mono ?_
    rintro e w1 ⟨rfl, rfl⟩
    go_wp2_with fail
    refine (hcu _).mono ?_
    rintro e w2 ⟨rfl, n, hw2⟩
    have HZ2 := Lib.hid ((LzI.start w _).call (W' := w2) (by rw [hw2]; exact below_drewN (Below.refl _ _) n))
    have V2 := HV.out.below HZ2.out.below (Nat.le_refl _)
    have hg1' := hg1 w2 V2
    clear hw2 hcu hct hg1
    go_wp2_with fail
    refine hg1'.mono ?_
    rintro e w3 ⟨v1, rfl, hb3, ho3⟩
    have HZ3 := Lib.hid (HZ2.out.call hb3)
    have hg2' := hg2 w3 (HV.out.below HZ3.out.below (Nat.le_refl _))
    have HO3 := Lib.hid ho3
    clear hg1' hg2 hb3 ho3 V2
    go_wp2_with fail
    refine hg2'.mono ?_
    rintro e w4 ⟨v2, rfl, hb4, ho4⟩
    have HZ4 := Lib.hid (HZ3.out.call hb4)
    have HO4 := Lib.hid ho4
    have HB4 := Lib.hid hb4
    have HBX := Lib.hid HZ4.out.blk
    obtain ⟨z0, z1, z2, g0, g1, g2⟩ := res3 HZ4.out.blk
    clear hg2' hb4 ho4
    cases G1 with
    | none =>
      have HR : Hid (looseF s.data.toList = none) := Lib.hid (by rw [HF.out]; rfl)
      cases gap <;> cases G2
      all_goals
        go_wp2_with fail
        generalize hW : World.setCell _ _ _ = W99
        obtain ⟨hst, hr⟩ := hW ▸ put3 (.bool false) (.int .u64 0) (.int .u64 0) HZ4.out.below (Nat.le_refl _) HBX.out
        obtain ⟨y0, y1, y2, -⟩ := res3 hr
        refine bodyPost_ret (v := .tuple #[.agg #[.bool false, .int .u64 0, .int .u64 0], .int .i64 9]) (by simp [results, Tryz.results8, go_sem, y0, y1, y2]) rfl ⟨by rw [HR.out]; rfl, hst⟩
    | some xs =>
      cases G2 with
      | none =>
        have HR : Hid (looseF s.data.toList = none) := Lib.hid (by rw [HF.out]; rfl)
        cases gap
        all_goals
          go_wp2_with fail
          generalize hW : World.setCell _ _ _ = W99
          obtain ⟨hst, hr⟩ := hW ▸ put3 (.bool false) (.int .u64 0) (.int .u64 0) HZ4.out.below (Nat.le_refl _) HBX.out
          obtain ⟨y0, y1, y2, -⟩ := res3 hr
          refine bodyPost_ret (v := .tuple #[.agg #[.bool false, .int .u64 0, .int .u64 0], .int .i64 9]) (by simp [results, Tryz.results8, go_sem, y0, y1, y2]) rfl ⟨by rw [HR.out]; rfl, hst⟩
      | some ys =>
        obtain ⟨bad, hbad⟩ : ∃ bad : Bool, (gap && decide (7 < xs.length + ys.length) || !gap && decide (xs.length ≠ 8)) = bad := ⟨_, rfl⟩
        have HR : Hid (looseF s.data.toList = if bad = true then none else some (true, packW ((eightW xs ys).take 4), packW ((eightW xs ys).drop 4))) := Lib.hid (by
          rw [HF.out, ← hbad]
          rfl)
        have hxl := (HK1.out xs rfl).1
        have hyl := (HK2.out ys rfl).1
        have HX1 := Lib.hid (HK1.out xs rfl).2
        have HX2 := Lib.hid (HK2.out ys rfl).2
        have hz : gap = false → ys = [] := fun h => by
          have := HGZ.out h
          injection this
        have HX : Hid (U64sOwn w4 w2.heap.size v1 xs) := Lib.hid (own_below (HO3.out xs rfl) HB4.out (Nat.le_refl _))
        obtain ⟨p1, c1, hv1, hc1⟩ := u64_form HX.out
        obtain ⟨p2, c2, hv2, hc2⟩ := u64_form (HO4.out ys rfl)
        subst hv1 hv2
        have HC1 := Lib.hid hc1
        have HC2 := Lib.hid hc2
        have HZ := Lib.hid hz
        have hsum : IntKind.i64.wrap ((xs.length : Int) + (ys.length : Int)) = (xs.length : Int) + (ys.length : Int) := IntWalk.i64_in _ (by omega)
        clear hc1 hc2 hz
        go_upto_region 9 with (fail)
        go_cut [72] from 47 to 72 (fun v72 wc => v72 = .bool bad ∧ wc = w4)
        case first =>
          cases gap
          · by_cases h8 : xs.length = 8
            · have e1 : ((xs.length : Int) != 8) = false := by simp; omega
              have e2 : ((xs.length : Int) == 8) = true := by simp; omega
              have e3 : (xs.length == 8) = true := by simp; omega
              have hb' : false = bad := by rw [← hbad]; simp [h8]
              have HB' := Lib.hid hb'
              clear hbad hb' h8
              go_wp2_with fail
              go_meet
              exact ⟨by rw [← HB'.out], rfl⟩
            · have e1 : ((xs.length : Int) != 8) = true := by simp; omega
              have e2 : ((xs.length : Int) == 8) = false := by simp; omega
              have e3 : (xs.length == 8) = false := by simp; omega
              have hb' : true = bad := by rw [← hbad]; simp [h8]
              have HB' := Lib.hid hb'
              clear hbad hb' h8
              go_wp2_with fail
              go_meet
              exact ⟨by rw [← HB'.out], rfl⟩
          · by_cases h8 : 7 < xs.length + ys.length
            · have e1 : decide ((xs.length : Int) + (ys.length : Int) > 7) = true := by simp; omega
              have e2 : decide ((7 : Int) < (xs.length : Int) + (ys.length : Int)) = true := by simp; omega
              have hb' : true = bad := by rw [← hbad]; simp [h8]
              have HB' := Lib.hid hb'
              clear hbad hb' h8
              go_wp2_with fail
              go_meet
              exact ⟨by rw [← HB'.out], rfl⟩
            · have e1 : decide ((xs.length : Int) + (ys.length : Int) > 7) = false := by simp; omega
              have e2 : decide ((7 : Int) < (xs.length : Int) + (ys.length : Int)) = false := by simp; omega
              have hb' : false = bad := by rw [← hbad]; simp [h8]
              have HB' := Lib.hid hb'
              clear hbad hb' h8
              go_wp2_with fail
              go_meet
              exact ⟨by rw [← HB'.out], rfl⟩
        case rest =>
        obtain ⟨rfl, hwc⟩ := hcut
        subst hwc
        obtain ⟨w5, rfl⟩ : ∃ z : World, z = wc := ⟨_, rfl⟩
        cases bad
        · have hs8 : xs.length + ys.length ≤ 8 := by
            cases gap
            · have := HZ.out rfl
              subst this
              simp at hbad
              simp
              omega
            · simp at hbad
              omega
          have HR' : Hid (looseF s.data.toList = some (true, packW ((eightW xs ys).take 4), packW ((eightW xs ys).drop 4))) := Lib.hid (by rw [HR.out]; rfl)
          clear hbad HR
          obtain ⟨i0, hi0, hzz0, hzz1, hzz2⟩ := info_parts infoU64
          have hszu : (Tryz.prog.info? 26).map (·.size) = some 1 := by rw [hi0]; simp [hzz1]
          obtain ⟨X1, hX1⟩ : ∃ X1, X1 = xs.map (fun n : Nat => Value.int .u64 (n : Int)) := ⟨_, rfl⟩
          obtain ⟨X2, hX2⟩ : ∃ X2, X2 = ys.map (fun n : Nat => Value.int .u64 (n : Int)) := ⟨_, rfl⟩
          have HX1' := Lib.hid hX1
          have HX2' := Lib.hid hX2
          have hlx1 : X1.length = xs.length := by rw [hX1]; simp
          have hlx2 : X2.length = ys.length := by rw [hX2]; simp
          have ho1 : ∀ v ∈ X1, v.oneCell' = true := by
            rw [hX1]
            intro v hv
            obtain ⟨n, -, rfl⟩ := List.mem_map.1 hv
            rfl
          have ho2 : ∀ v ∈ X2, v.oneCell' = true := by
            rw [hX2]
            intro v hv
            obtain ⟨n, -, rfl⟩ := List.mem_map.1 hv
            rfl
          have HO1 := Lib.hid ho1
          have HO2 := Lib.hid ho2
          have HL1 := Lib.hid hlx1
          have HL2 := Lib.hid hlx2
          have HP1 : Hid (∀ W, Below w5.heap.size w5 W → 0 < X1.length → ∃ ad, p1 = some ad ∧ ∀ j v, X1[j]? = some v → W.cell? (ad.add j) = some v) := Lib.hid (fun W hb h => by
            obtain ⟨ad, h1, h2⟩ := HC1.out (by omega)
            exact ⟨ad, h1, fun j v hj => cell_keep hb (h2 j v (by rw [← hX1]; exact hj))⟩)
          have HP2 : Hid (∀ W, Below w5.heap.size w5 W → 0 < X2.length → ∃ ad, p2 = some ad ∧ ∀ j v, X2[j]? = some v → W.cell? (ad.add j) = some v) := Lib.hid (fun W hb h => by
            obtain ⟨ad, h1, h2⟩ := HC2.out (by omega)
            exact ⟨ad, h1, fun j v hj => cell_keep hb (h2 j v (by rw [← hX2]; exact hj))⟩)
          have HS8 := Lib.hid hs8
          have hw1 : IntKind.i64.wrap (8 - (ys.length : Int)) = 8 - (ys.length : Int) := IntWalk.i64_in _ (by omega)
          have hw2 : (8 - (ys.length : Int)).toNat = 8 - ys.length := by omega
          have hw3 : (0 : Int) ≤ 8 - (ys.length : Int) := by omega
          have hw4 : (8 - (ys.length : Int)) ≤ 8 := by omega
          clear hX1 hX2 ho1 ho2 hlx1 hlx2
          go_wp2_with (refine wpList_copy_splice rfl (.tmp 74) (.tmp 75) 45 45 rfl 26 Tryz.underlying45 hszu (some ⟨w5.heap.size, 0, none⟩) p1 8 8 xs.length c1 rfl rfl w5.heap.size 0 [.int .u64 0, .int .u64 0, .int .u64 0, .int .u64 0, .int .u64 0, .int .u64 0, .int .u64 0, .int .u64 0] 58 (heap_alloc_new w5 _) X1 (by rw [HL1.out]; exact (Nat.min_eq_left (by omega)).symm) (fun h => ⟨rfl, HP1.out _ ((Below.refl _ _).alloc (Nat.le_refl _) _) h⟩) (by rw [HL1.out]; simp; omega) HO1.out w5.heap.size w5 ((Below.refl _ _).alloc (Nat.le_refl _) _) (Nat.le_refl _) ?_)
          intro w6 HG6 hb6
          have HB6 := Lib.hid hb6
          obtain ⟨O, hO⟩ : ∃ O, (if 8 = 8 - ys.length then 0 else 8 - ys.length) = O := ⟨_, rfl⟩
          have hO2 : 0 < ys.length → O = 8 - ys.length := fun h => by rw [← hO, if_neg (by omega)]
          have HO := Lib.hid hO2
          have hsl : ∀ W, (Instr.sliceAt 58 (.pointer (some ⟨w5.heap.size, 0, none⟩)) (some (.int .i64 (8 - (ys.length : Int)))) none none).run Tryz.prog W = .ok (.slice (some ⟨w5.heap.size, O, none⟩) ys.length ys.length) W := fun W => by
            have hal : Tryz.prog.arrayLen 58 = 8 := by simp [Program.arrayLen, Tryz.underlying58]
            rw [run_sliceAt_array_l W 58 ⟨w5.heap.size, 0, none⟩ (by simp [Program.arrayLen, Program.elem, Tryz.underlying58]) .i64 _ (by omega) (by rw [hal]; omega)]
            have hel : Tryz.prog.elem 58 = 26 := by simp [Program.elem, Tryz.underlying58]
            rw [hel, hal]
            have hso : (sizeOf 26).run Tryz.prog W = .ok 1 W := by simp [sizeOf, typeInfo, hi0, hzz1, go_sem]
            rw [hso, Result.andThen_ok, hw2, ← hO]
            unfold slicedAt
            have e : 8 - (8 - ys.length) = ys.length := by omega
            rw [e]
            by_cases h0 : 8 = 8 - ys.length
            · rw [if_pos h0, if_pos h0]
            · rw [if_neg h0, if_neg h0]
              simp [Addr.add]
              omega
          clear hb6 hO hO2
          go_wp2_with (refine wpList_copy_splice rfl (.tmp 80) (.tmp 81) 45 45 rfl 26 Tryz.underlying45 hszu (some ⟨w5.heap.size, O, none⟩) p2 ys.length ys.length ys.length c2 rfl rfl w5.heap.size (8 - ys.length) _ 58 HG6.out X2 (by rw [HL2.out]; exact (Nat.min_self _).symm) (fun h => ⟨by rw [HO.out (by rw [← HL2.out]; exact h)], HP2.out _ HB6.out h⟩) (by rw [HL2.out, length_splice _ _ _ (by rw [HL1.out]; simp; omega)]; simp; omega) HO2.out w5.heap.size w5 HB6.out (Nat.le_refl _) ?_)
          intro w7 HG7 hb7
          have HB7 := Lib.hid hb7
          have hE : splice (splice [.int .u64 0, .int .u64 0, .int .u64 0, .int .u64 0, .int .u64 0, .int .u64 0, .int .u64 0, .int .u64 0] 0 X1) (8 - ys.length) X2 = u64C (eightW xs ys) := by
            rw [← HL2.out, eight_cells _ _ _ (by rw [HL1.out, HL2.out]; exact HS8.out), HX1'.out, HX2'.out]
            simp [u64C, eightW]
          have HG8 : Hid (w7.heap[w5.heap.size]? = some (.cells (u64C (eightW xs ys)).toArray 58 (0, 0))) := Lib.hid (by rw [← hE]; exact HG7.out)
          have hlen : (eightW xs ys).length = 8 := by
            have := HS8.out
            simp [eightW]
            omega
          have hlt8 : ∀ n ∈ eightW xs ys, n < 65536 := fun n hn => by
            simp only [eightW, List.mem_append, List.mem_replicate] at hn
            rcases hn with h | ⟨-, rfl⟩ | h
            · exact HX1.out n h
            · decide
            · exact HX2.out n h
          have l57 := lt_of_block HG8.out
          generalize eightW xs ys = E at *
          have HLN := Lib.hid hlen
          have HLT := Lib.hid hlt8
          clear hb7 hE hlen hlt8 hsl
          go_wp2_with fail
          go_loopw [15, 84] (fun _ v84 wr => ∃ k : Nat, k ≤ 4 ∧ v84 = .int .i64 k ∧ Hid (LoI w5 w5.heap.size w7.heap.size E k wr)) (fun _ v84 _ => 4 - (intOf v84).toNat)
          case atStart =>
            exact ⟨0, by omega, rfl, Lib.hid ⟨HB7.out.alloc HB7.out.size _, (Below.heap_alloc _ _ _ l57).trans HG8.out, by simpa [packW] using heap_alloc_new w7 _, Nat.le_refl _, l57⟩⟩
          case round =>
            obtain ⟨k, hk, rfl, HI⟩ := hrel
            by_cases hlt : k < 4
            · have hln := HLN.out
              obtain ⟨x, hx⟩ : ∃ x, E[k]'(by omega) = x := ⟨_, rfl⟩
              obtain ⟨y, hy⟩ : ∃ y, E[4 + k]'(by omega) = y := ⟨_, rfl⟩
              have t1 : (E.take 4).take (k + 1) = (E.take 4).take k ++ [x] := by
                rw [List.take_succ_eq_append_getElem (by simp; omega), List.getElem_take, hx]
              have t2 : (E.drop 4).take (k + 1) = (E.drop 4).take k ++ [y] := by
                rw [List.take_succ_eq_append_getElem (by simp; omega), List.getElem_drop, hy]
              have c0 : wr.cell? ⟨w5.heap.size, k, none⟩ = some (.int .u64 (x : Int)) := by
                simp [World.cell?, HI.out.words, u64C]
                exact ⟨x, by rw [List.getElem?_eq_getElem (by omega), hx], rfl⟩
              have c1 : wr.cell? ⟨w5.heap.size, 4 + k, none⟩ = some (.int .u64 (y : Int)) := by
                simp [World.cell?, HI.out.words, u64C]
                exact ⟨y, by rw [List.getElem?_eq_getElem (by omega), hy], rfl⟩
              have hxl : x < 65536 := HLT.out x (by rw [← hx]; exact List.getElem_mem _)
              have hyl : y < 65536 := HLT.out y (by rw [← hy]; exact List.getElem_mem _)
              obtain ⟨x0, x1, x2, f0, f1, f2⟩ := res3 HI.out.out
              have b1 : packW ((E.take 4).take k) < 281474976710656 := packW_lt (fun z hz => HLT.out z (List.mem_of_mem_take (List.mem_of_mem_take hz))) (by simp; omega)
              have b2 : packW ((E.drop 4).take k) < 281474976710656 := packW_lt (fun z hz => HLT.out z (List.mem_of_mem_drop (List.mem_of_mem_take hz))) (by simp; omega)
              have HREL : Hid (∀ h l, packW ((E.take 4).take (k + 1)) = h → packW ((E.drop 4).take (k + 1)) = l → LoI w5 w5.heap.size w7.heap.size E (k + 1) ((wr.setCell ⟨w7.heap.size, 1, none⟩ (.int .u64 (h : Int))).setCell ⟨w7.heap.size, 2, none⟩ (.int .u64 (l : Int))).drew) := Lib.hid (fun h l hh hl => HI.out.step hh hl)
              rw [t1, t2, packW_snoc, packW_snoc] at HREL
              generalize packW ((E.take 4).take k) = h at *
              generalize packW ((E.drop 4).take k) = l at *
              have hA := or_65536 h x (by omega) hxl
              have hL := or_65536 l y (by omega) hyl
              have hwA : IntKind.u64.wrap ((h : Int) * 65536) = (h : Int) * 65536 := IntWalk.u64_in _ (by omega)
              have hwL : IntKind.u64.wrap ((l : Int) * 65536) = (l : Int) * 65536 := IntWalk.u64_in _ (by omega)
              have hk4 : IntKind.i64.wrap (4 + (k : Int)) = 4 + (k : Int) := IntWalk.i64_in _ (by omega)
              have hk5 : (4 + (k : Int)).toNat = 4 + k := by omega
              have HREL' := Lib.hid (HREL.out _ _ rfl rfl)
              have q1 : k < 8 := by omega
              have q2 : (k : Int) < 8 := by omega
              have q3 : 4 + k < 8 := by omega
              have q4 : 4 + (k : Int) < 8 := by omega
              have q5 : (0 : Int) ≤ 4 + (k : Int) := by omega
              clear HREL hx hy t1 t2 hln
              go_wp2_with fail
              go_region_law (go_simp)
              all_goals (try simp only [hwA, hwL, hA, hL])
              all_goals clear hA hL x0 x1 x2 f0 f1 f2 c0 c1
              all_goals go_wp2_with fail
              all_goals exact ⟨⟨k + 1, by omega, by simp, HREL'⟩, by simp [intOf]; omega⟩
            · obtain rfl : k = 4 := by omega
              clear hlt
              have hout := HI.out.out
              have e1 : (E.take 4).take 4 = E.take 4 := List.take_of_length_le (List.length_take_le 4 E)
              have e2 : (E.drop 4).take 4 = E.drop 4 := List.take_of_length_le (by have := HLN.out; rw [List.length_drop]; omega)
              rw [e1, e2] at hout
              clear e1 e2
              have hbk := (HI.out.below.block _ (lt_of_block HBX.out)).trans HBX.out
              have HBK := Lib.hid hbk
              have HBL := Lib.hid (HZ4.out.below.trans (HI.out.below.mono HZ4.out.below.size))
              generalize packW (E.take 4) = h at *
              generalize packW (E.drop 4) = l at *
              obtain ⟨x0, x1, x2, f0, f1, f2⟩ := res3 hout
              clear z0 z1 z2 g0 g1 g2
              obtain ⟨z0, z1, z2, g0, g1, g2⟩ := res3 hbk
              clear hout hbk
              go_wp2_with fail
              generalize hW : World.setCell _ _ _ = W99
              obtain ⟨hst, hr⟩ := hW ▸ put3 (.bool true) (.int .u64 h) (.int .u64 l) HBL.out (Nat.le_refl _) HBK.out
              obtain ⟨y0, y1, y2, -⟩ := res3 hr
              refine bodyPost_ret (v := .tuple #[.agg #[.bool true, .int .u64 h, .int .u64 l], .int .i64 0]) (by simp [results, Tryz.results8, go_sem, y0, y1, y2]) rfl ⟨by rw [HR'.out]; rfl, hst⟩
        · have HR' : Hid (looseF s.data.toList = none) := Lib.hid (by rw [HR.out]; rfl)
          clear hbad
          go_wp2_with fail
          generalize hW : World.setCell _ _ _ = W99
          obtain ⟨hst, hr⟩ := hW ▸ put3 (.bool false) (.int .u64 0) (.int .u64 0) HZ4.out.below (Nat.le_refl _) HBX.out
          obtain ⟨y0, y1, y2, -⟩ := res3 hr
          refine bodyPost_ret (v := .tuple #[.agg #[.bool false, .int .u64 0, .int .u64 0], .int .i64 9]) (by simp [results, Tryz.results8, go_sem, y0, y1, y2]) rfl ⟨by rw [HR'.out]; rfl, hst⟩
end Go.Proofs.YtcicednopgpjfaaGreatDoor
