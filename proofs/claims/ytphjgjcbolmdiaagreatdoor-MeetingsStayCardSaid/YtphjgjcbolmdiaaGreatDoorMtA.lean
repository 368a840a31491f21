/- Translators: slices.DeleteFunc over entries, whatever goes. -/
import Derived.Test.YtphjgjcbolmdiaaGreatDoorNtI
import Derived.Test.YtphjgjcbolmdiaaGreatDoorNtL
import Derived.Lib.SliceRun
import Derived.Laws.OwnMore
namespace Go.Proofs.YtphjgjcbolmdiaaGreatDoor
open Go.RowKit Go.Hw

theorem set_shift (a b : List Value) (ha : a.length = 11) (k : Nat) (v : Value) : (a ++ b).set (11 + k) v = a ++ b.set k v := by
  rw [List.set_append_right _ _ (by omega), ha, Nat.add_sub_cancel_left]
/-- An entry is laid at place i. -/
theorem entsC_put : ∀ (M : List Ent) (i : Nat) (e : Ent), i < M.length →
    ((((((((((((entsC M).set (i * 11) (.bool e.inner.six)).set (i * 11 + 1) (.int .u64 e.inner.hi)).set (i * 11 + 2) (.int .u64 e.inner.lo)).set (i * 11 + 3) (.int .i64 e.inner.port)).set (i * 11 + 4) (.int .i64 e.port)).set (i * 11 + 5) (.bool e.dep.six)).set (i * 11 + 6) (.int .u64 e.dep.hi)).set (i * 11 + 7) (.int .u64 e.dep.lo)).set (i * 11 + 8) (.int .i64 e.dep.port)).set (i * 11 + 9) (.int .i64 e.last)).set (i * 11 + 10) (.slice e.sA e.sent.length e.scap)) = entsC (M.set i e)
  | [], _, _, h => by simp at h
  | x :: M, 0, e, _ => by simp [entsC, entC]
  | x :: M, i + 1, e, h => by
    have ih := entsC_put M i e (by simpa using h)
    have e1 : entsC (x :: M) = entC x ++ entsC M := rfl
    have e2 : entsC ((x :: M).set (i + 1) e) = entC x ++ entsC (M.set i e) := rfl
    have hx : (entC x).length = 11 := rfl
    have q0 : (i + 1) * 11 = 11 + i * 11 := by omega
    rw [e1, e2, ← ih, q0]
    simp only [Nat.add_assoc]
    simp only [set_shift _ _ hx]

theorem own_put {w : World} {g cap : Nat} {M : List Ent} (h : w.ownsRow 0 97 11 (.slice (some ⟨g, 0, none⟩) M.length cap) M.length (entsC M)) (i : Nat) (e : Ent) (hi : i < M.length) :
    (((((((((((w.setCell ⟨g, i * 11, none⟩ (.bool e.inner.six)).setCell ⟨g, i * 11 + 1, none⟩ (.int .u64 e.inner.hi)).setCell ⟨g, i * 11 + 2, none⟩ (.int .u64 e.inner.lo)).setCell ⟨g, i * 11 + 3, none⟩ (.int .i64 e.inner.port)).setCell ⟨g, i * 11 + 4, none⟩ (.int .i64 e.port)).setCell ⟨g, i * 11 + 5, none⟩ (.bool e.dep.six)).setCell ⟨g, i * 11 + 6, none⟩ (.int .u64 e.dep.hi)).setCell ⟨g, i * 11 + 7, none⟩ (.int .u64 e.dep.lo)).setCell ⟨g, i * 11 + 8, none⟩ (.int .i64 e.dep.port)).setCell ⟨g, i * 11 + 9, none⟩ (.int .i64 e.last)).setCell ⟨g, i * 11 + 10, none⟩ (.slice e.sA e.sent.length e.scap)).ownsRow 0 97 11 (.slice (some ⟨g, 0, none⟩) (M.set i e).length cap) (M.set i e).length (entsC (M.set i e)) := by
  rw [← entsC_put M i e hi, List.length_set]
  exact (((((((((((h.stored _ _).1.stored _ _).1.stored _ _).1.stored _ _).1.stored _ _).1.stored _ _).1.stored _ _).1.stored _ _).1.stored _ _).1.stored _ _).1.stored _ _).1

/-- What stays, ahead of place j. -/
def kept (p : Ent → Bool) (L : List Ent) (j : Nat) : List Ent := (L.take j).filter (fun e => !p e)
theorem kept_le (p : Ent → Bool) (L : List Ent) (j : Nat) : (kept p L j).length ≤ j := Nat.le_trans (List.length_filter_le _ _) (by simp; omega)
theorem kept_snoc {p : Ent → Bool} {L : List Ent} {j : Nat} (h : j < L.length) : kept p L (j + 1) = if p (L.getD j noEnt) then kept p L j else kept p L j ++ [L.getD j noEnt] := by
  have e : L.take (j + 1) = L.take j ++ [L.getD j noEnt] := by
    rw [List.take_succ_eq_append_getElem h, List.getD_eq_getElem?_getD, List.getElem?_eq_getElem h]
    rfl
  unfold kept
  rw [e, List.filter_append]
  generalize L.getD j noEnt = x
  cases hq : p x <;> simp [hq]
theorem kept_all {p : Ent → Bool} {L : List Ent} : kept p L L.length = L.filter (fun e => !p e) := by simp [kept]
theorem kept_first {p : Ent → Bool} {L : List Ent} {i : Nat} (h : ∀ j, j < i → p (L.getD j noEnt) = false) (hi : i ≤ L.length) : kept p L i = L.take i := by
  unfold kept
  rw [List.filter_eq_self]
  intro e he
  obtain ⟨k, hk, rfl⟩ := List.mem_iff_getElem.1 he
  have hk' : k < i := by simp at hk; omega
  have := h k hk'
  rw [List.getD_eq_getElem?_getD, List.getElem?_eq_getElem (by omega)] at this
  simp only [Option.getD_some] at this
  simp [this]

/-- The loop of DeleteFunc: what stays has been moved ahead, and what is behind is as it was. -/
def DelInv (w : World) (g cap : Nat) (p : Ent → Bool) (L : List Ent) (i j : Nat) (wr : World) : Prop :=
  j ≤ L.length ∧ i = (kept p L j).length ∧ i < j ∧ w.grownBy wr (some g) ∧ ∃ M : List Ent, M.length = L.length ∧ M.take i = kept p L j ∧ (∀ t, j ≤ t → M.getD t noEnt = L.getD t noEnt) ∧
    wr.ownsRow 0 97 11 (.slice (some ⟨g, 0, none⟩) M.length cap) M.length (entsC M)
theorem idxP_found0 {α : Type} {p : α → Bool} {xs : List α} (d : α) (h : 0 ≤ idxP p xs) : ∃ i : Nat, i < xs.length ∧ idxP p xs = i ∧ p (xs.getD i d) = true := by
  unfold idxP at h ⊢
  cases hf : xs.findIdx? p with
  | none => rw [hf] at h; simp at h
  | some i =>
    obtain ⟨h1, h2, _⟩ := List.findIdx?_eq_some_iff_getElem.1 hf
    exact ⟨i, h1, rfl, by rw [List.getD_eq_getElem?_getD, List.getElem?_eq_getElem h1]; exact h2⟩
theorem idxP_spec {α : Type} {p : α → Bool} {xs : List α} {d : α} {i : Nat} (h : idxP p xs = i) : i < xs.length ∧ (∀ j, j < i → p (xs.getD j d) = false) ∧ p (xs.getD i d) = true := by
  unfold idxP at h
  cases hf : xs.findIdx? p with
  | none => rw [hf] at h; simp at h
  | some k =>
    rw [hf] at h
    simp only [Int.natCast_inj] at h
    subst h
    obtain ⟨h1, h2, h3⟩ := List.findIdx?_eq_some_iff_getElem.1 hf
    refine ⟨h1, fun j hj => ?_, by rw [List.getD_eq_getElem?_getD, List.getElem?_eq_getElem h1]; exact h2⟩
    rw [List.getD_eq_getElem?_getD, List.getElem?_eq_getElem (by omega)]
    simpa using h3 j hj
theorem res11 {W : World} {R : Nat} {a0 a1 a2 a3 a4 a5 a6 a7 a8 a9 a10 : Value} {T : TypeId} (h : W.heap[R]? = some (.cells #[a0, a1, a2, a3, a4, a5, a6, a7, a8, a9, a10] T (0, 0))) : W.cell? ⟨R, 0, none⟩ = some a0 ∧ W.cell? ⟨R, 1, none⟩ = some a1 ∧ W.cell? ⟨R, 2, none⟩ = some a2 ∧ W.cell? ⟨R, 3, none⟩ = some a3 ∧ W.cell? ⟨R, 4, none⟩ = some a4 ∧ W.cell? ⟨R, 5, none⟩ = some a5 ∧ W.cell? ⟨R, 6, none⟩ = some a6 ∧ W.cell? ⟨R, 7, none⟩ = some a7 ∧ W.cell? ⟨R, 8, none⟩ = some a8 ∧ W.cell? ⟨R, 9, none⟩ = some a9 ∧ W.cell? ⟨R, 10, none⟩ = some a10 := by
  refine ⟨?_, ?_, ?_, ?_, ?_, ?_, ?_, ?_, ?_, ?_, ?_⟩ <;> simp [World.cell?, h]
theorem own_froz {w : World} {g cap n : Nat} {T : TypeId} {xs : List Value} (h : w.ownsRow 0 T 11 (.slice (some ⟨g, 0, none⟩) n cap) n xs) (j : Nat) : w.frozen? ⟨g, j, none⟩ = false := by
  rcases h.2 with ⟨h', _⟩ | ⟨g', cap', cur, h', hb, hg, hnc, hcm, hcs, ht⟩
  · simp at h'
  · simp only [Value.slice.injEq, Option.some.injEq, Addr.mk.injEq, and_true, true_and] at h'
    obtain ⟨rfl, rfl⟩ := h'
    simp [World.frozen?, hg]
theorem own_some {w : World} {g cap n : Nat} {T : TypeId} {xs : List Value} (h : w.ownsRow 0 T 11 (.slice (some ⟨g, 0, none⟩) n cap) n xs) {j : Nat} (hj : j < n * 11) : (w.cell? ⟨g, j, none⟩).isSome = true := by
  rcases h.2 with ⟨h', _⟩ | ⟨g', cap', cur, h', hb, hg, hnc, hcm, hcs, ht⟩
  · simp at h'
  · simp only [Value.slice.injEq, Option.some.injEq, Addr.mk.injEq, and_true, true_and] at h'
    obtain ⟨rfl, rfl⟩ := h'
    have := Nat.mul_le_mul_right 11 hnc
    simp [World.cell?, hg]
    omega

theorem zero_ent (w : World) : (zeroValue 97).run Tryz.prog w = .ok (.agg #[.bool false, .int .u64 0, .int .u64 0, .int .i64 0, .int .i64 0, .bool false, .int .u64 0, .int .u64 0, .int .i64 0, .int .i64 0, .slice none 0 0]) w := by kernel_rfl
def zeroE : Array Value := #[.bool false, .int .u64 0, .int .u64 0, .int .i64 0, .int .i64 0, .bool false, .int .u64 0, .int .u64 0, .int .i64 0, .int .i64 0, .slice none 0 0]
theorem run_clear_ents (w : World) (ty : TypeId) (b o n c : Nat) (hn : 0 < n) (hc : ∀ j, j < n * 11 → (w.cell? ⟨b, o + j, none⟩).isSome = true) (hf : ∀ j, j < n * 11 → w.frozen? ⟨b, o + j, none⟩ = false) :
    (Builtin.clear_ #[85] ty #[.slice (some ⟨b, o, none⟩) n c]).run Tryz.prog w = .ok (.tuple #[]) (w.setCells b o (Builtin.zeroCells zeroE n).toList) := by
  have hl : (Builtin.zeroCells zeroE n).toList.length = n * 11 := by
    simp [Builtin.zeroCells, zeroE]
  have h1 : ∀ v ∈ (Builtin.zeroCells zeroE n).toList, v.oneCell' = true := by
    intro v hv
    simp only [Builtin.zeroCells, Array.toList_map, List.mem_map] at hv
    obtain ⟨i, _, rfl⟩ := hv
    have hi : i % zeroE.size < 11 := Nat.mod_lt _ (by decide)
    generalize i % zeroE.size = k at hi
    have : k = 0 ∨ k = 1 ∨ k = 2 ∨ k = 3 ∨ k = 4 ∨ k = 5 ∨ k = 6 ∨ k = 7 ∨ k = 8 ∨ k = 9 ∨ k = 10 := by omega
    rcases this with rfl | rfl | rfl | rfl | rfl | rfl | rfl | rfl | rfl | rfl | rfl <;> rfl
  have hst := run_storeCells_cells (P := Tryz.prog) b o (Builtin.zeroCells zeroE n).toList 0 w (by rw [hl]; simpa using hc) (by rw [hl]; simpa using hf) h1
  simp only [Nat.add_zero] at hst
  have hz := zero_ent w
  obtain ⟨m, rfl⟩ : ∃ m, n = m + 1 := ⟨n - 1, by omega⟩
  have hcells : (Value.agg #[.bool false, .int .u64 0, .int .u64 0, .int .i64 0, .int .i64 0, .bool false, .int .u64 0, .int .u64 0, .int .i64 0, .int .i64 0, .slice none 0 0]).cells = zeroE := rfl
  simp [Builtin.clear_, run_underlying Tryz.underlying85, hz, hcells, hst]
theorem own_setCells {base : Nat} {T : TypeId} {size g cap n : Nat} : ∀ (vs : List Value) (o : Nat) (w : World) (xs : List Value), w.ownsRow base T size (.slice (some ⟨g, 0, none⟩) n cap) n xs → n * size ≤ o →
    (w.setCells g o vs).ownsRow base T size (.slice (some ⟨g, 0, none⟩) n cap) n xs ∧ w.grownBy (w.setCells g o vs) (some g)
  | [], _, w, _, h, _ => ⟨h, World.grownBy.refl w _⟩
  | v :: vs, o, w, xs, h, ho => by
    have h1 := h.stored o v
    have e : xs.set o v = xs := List.set_eq_of_length_le (by have := h.1; omega)
    rw [e] at h1
    have h2 := own_setCells vs (o + 1) _ xs h1.1 (by omega)
    exact ⟨h2.1, h1.2.andThen h2.2 (fun _ h => .inr h)⟩
/-- The row, cut. -/
theorem own_cut {w : World} {base : Nat} {T : TypeId} {size g cap n k : Nat} {xs : List Value} (h : w.ownsRow base T size (.slice (some ⟨g, 0, none⟩) n cap) n xs) (hk : k ≤ n) :
    w.ownsRow base T size (.slice (some ⟨g, 0, none⟩) k cap) k (xs.take (k * size)) := by
  obtain ⟨hl, ⟨h', _⟩ | ⟨g', cap', cur, h', hb, hg, hnc, hcm, hcs, ht⟩⟩ := h
  · simp at h'
  · simp only [Value.slice.injEq, Option.some.injEq, Addr.mk.injEq, and_true, true_and] at h'
    obtain ⟨rfl, rfl⟩ := h'
    have hm := Nat.mul_le_mul_right size hk
    refine ⟨by rw [List.length_take, hl]; omega, .inr ⟨g, cap, cur, rfl, hb, hg, by omega, hcm, hcs, ?_⟩⟩
    rw [← ht, List.take_take, Nat.min_eq_left hm]
theorem entsC_take (M : List Ent) (k : Nat) : (entsC M).take (k * 11) = entsC (M.take k) := by
  induction M generalizing k with
  | nil => simp [entsC]
  | cons x M ih =>
    rcases k with _ | k
    · simp [entsC]
    · have e1 : entsC (x :: M) = entC x ++ entsC M := rfl
      have e2 : entsC ((x :: M).take (k + 1)) = entC x ++ entsC (M.take k) := rfl
      rw [e1, e2, ← ih, show (k + 1) * 11 = (entC x).length + k * 11 by simp [entC]; omega, List.take_length_add_append]

set_option maxRecDepth 100000 in
set_option maxHeartbeats 2000000 in
theorem delete_some (gb cap : Nat) (L : List Ent) (g : Nat) (lb : Array Value) (p : Ent → Bool) (w : World) (eg : ∀ args w, (callFunc g args).run Tryz.prog w = .ok (.enter g args) w)
    (h : w.ownsRow 0 97 11 (.slice (some ⟨gb, 0, none⟩) L.length cap) L.length (entsC L)) (hl : L.length ≤ 1000000) (hp : ∀ wr, w.grownBy wr (some gb) → PredE g lb p L wr) (i0 : Nat) (hi0 : i0 < L.length) (hr : idxP p L = i0) :
    Calls Tryz.prog 64 #[.slice (some ⟨gb, 0, none⟩) L.length cap, .func (.func g) #[] lb] w
      fun e w' => e = .returned (.slice (some ⟨gb, 0, none⟩) (L.filter (fun e => !p e)).length cap) ∧ w.grownBy w' (some gb) ∧
        w'.ownsRow 0 97 11 (.slice (some ⟨gb, 0, none⟩) (L.filter (fun e => !p e)).length cap) (L.filter (fun e => !p e)).length (entsC (L.filter (fun e => !p e))) := by
  have hE : EntsAt w (some ⟨gb, 0, none⟩) L := by
    obtain ⟨A', cap', e, hE⟩ := ents_at h
    injection e with e1 _ e3
    rw [← e1] at hE
    exact hE
  have hcall := idxEnt_any (some ⟨gb, 0, none⟩) cap L g lb p w eg hE hl (hp w (World.grownBy.refl w _))
  rw [hr] at hcall
  have hcap : L.length ≤ cap := by
    rcases h.2 with ⟨h', _⟩ | ⟨g', cap', cur, h', hb, hg, hnc, hcm, hcs, ht⟩
    · simp at h'
    · simp only [Value.slice.injEq, Option.some.injEq, Addr.mk.injEq, and_true, true_and] at h'
      omega
  have H := Lib.hid h
  have HP := Lib.hid hp
  have HR := Lib.hid hr
  clear h hp hr hE
  go_enter Tryz.func64, Tryz.ntmps64
  go_wp2_with fail
  refine hcall.mono ?_
  rintro e w1 ⟨rfl, hb1⟩
  obtain ⟨_, hno, hyes⟩ := idxP_spec (d := noEnt) HR.out
  have hI : DelInv w gb cap p L i0 (i0 + 1) w1 := by
    have hk : kept p L (i0 + 1) = L.take i0 := by rw [kept_snoc hi0, hyes, if_pos rfl, kept_first hno (by omega)]
    have hg1 := grown_of_below hb1 (some gb)
    refine ⟨by omega, by rw [hk]; simp; omega, by omega, hg1, L, rfl, hk.symm, fun _ _ => rfl, ?_⟩
    exact own_same H.out fun k hk => hb1.block k (H.out.lt k hk).2
  have HI := Lib.hid hI
  clear hcall hb1 hI hno hyes
  have hne : ((i0 : Int) == -1) = false := by simp
  go_wp2_with fail
  clear hne
  go_loopw [5, 6] (fun v5 v6 wr => ∃ i j : Nat, v5 = .int .i64 i ∧ v6 = .int .i64 j ∧ DelInv w gb cap p L i j wr) (fun _ v6 _ => L.length - (intOf v6).toNat)
  case atStart => exact ⟨i0, i0 + 1, rfl, by simp, HI.out⟩
  case round =>
    obtain ⟨i, j, rfl, rfl, hj, hi, hij, hg, M, hM, htk, hdr, hown⟩ := hrel
    clear HI
    by_cases hlt : j < L.length
    · have hEM : EntsAt wr (some ⟨gb, 0, none⟩) M := by
        obtain ⟨A', cap', e, hE⟩ := ents_at hown
        injection e with e1 _ e3
        rw [← e1] at hE
        exact hE
      have hgb := (hown.lt gb rfl).2
      obtain ⟨c0, c1, c2, c3, c4, c5, c6, c7, c8, c9, c10⟩ : EntAt wr gb (j * 11) (L.getD j noEnt) := by
        obtain ⟨g5, off, e1, hgB, hc⟩ := hEM j (by omega)
        injection e1 with e1
        simp only [Addr.mk.injEq, and_true] at e1
        obtain ⟨rfl, rfl⟩ := e1
        rw [hdr j (Nat.le_refl _), Nat.zero_add] at hc
        exact hc
      have hsn := kept_snoc (p := p) hlt
      have hmem : L.getD j noEnt ∈ L := getD_mem hlt
      have hdl : decide (j < L.length) = true := by simpa using hlt
      generalize hx : L.getD j noEnt = x at *
      have HCALL := HP.out wr hg (wr.alloc (.cells #[.bool x.inner.six, .int .u64 x.inner.hi, .int .u64 x.inner.lo, .int .i64 x.inner.port, .int .i64 x.port, .bool x.dep.six, .int .u64 x.dep.hi, .int .u64 x.dep.lo, .int .i64 x.dep.port, .int .i64 x.last, .slice x.sA x.sent.length x.scap] 97)) x hmem ((Below.refl _ _).alloc (Nat.le_refl _) _)
      have HG := Lib.hid hg
      have HK := Lib.hid htk
      have HD := Lib.hid hdr
      have HO := Lib.hid hown
      have HS := Lib.hid hsn
      have HII := Lib.hid hi
      have HMM := Lib.hid hM
      have HX := Lib.hid hx
      clear hg htk hdr hown hsn hi hM hEM hmem hx
      cases hq : p x
      · rw [hq] at HCALL
        go_wp2_with fail
        refine HCALL.mono ?_
        rintro e w2 ⟨rfl, hb2⟩
        have hbx := (hb2.block wr.heap.size (by simp)).trans (heap_alloc_new wr _)
        obtain ⟨b0, b1, b2, b3, b4, b5, b6, b7, b8, b9, b10⟩ := res11 hbx
        have hO2 := own_same HO.out (w' := w2) fun k hk => (hb2.block k (by have := (HO.out.lt k hk).2; simp; omega)).trans (heap_alloc_old _ _ (HO.out.lt k hk).2)
        have z0 := own_froz hO2 (i * 11)
        have z1 := own_froz hO2 (i * 11 + 1)
        have z2 := own_froz hO2 (i * 11 + 2)
        have z3 := own_froz hO2 (i * 11 + 3)
        have z4 := own_froz hO2 (i * 11 + 4)
        have z5 := own_froz hO2 (i * 11 + 5)
        have z6 := own_froz hO2 (i * 11 + 6)
        have z7 := own_froz hO2 (i * 11 + 7)
        have z8 := own_froz hO2 (i * 11 + 8)
        have z9 := own_froz hO2 (i * 11 + 9)
        have z10 := own_froz hO2 (i * 11 + 10)
        have s0 := own_some hO2 (j := i * 11) (by have := HMM.out; omega)
        have s1 := own_some hO2 (j := i * 11 + 1) (by have := HMM.out; omega)
        have s2 := own_some hO2 (j := i * 11 + 2) (by have := HMM.out; omega)
        have s3 := own_some hO2 (j := i * 11 + 3) (by have := HMM.out; omega)
        have s4 := own_some hO2 (j := i * 11 + 4) (by have := HMM.out; omega)
        have s5 := own_some hO2 (j := i * 11 + 5) (by have := HMM.out; omega)
        have s6 := own_some hO2 (j := i * 11 + 6) (by have := HMM.out; omega)
        have s7 := own_some hO2 (j := i * 11 + 7) (by have := HMM.out; omega)
        have s8 := own_some hO2 (j := i * 11 + 8) (by have := HMM.out; omega)
        have s9 := own_some hO2 (j := i * 11 + 9) (by have := HMM.out; omega)
        have s10 := own_some hO2 (j := i * 11 + 10) (by have := HMM.out; omega)
        obtain ⟨o0, s0⟩ := Option.isSome_iff_exists.1 s0
        obtain ⟨o1, s1⟩ := Option.isSome_iff_exists.1 s1
        obtain ⟨o2, s2⟩ := Option.isSome_iff_exists.1 s2
        obtain ⟨o3, s3⟩ := Option.isSome_iff_exists.1 s3
        obtain ⟨o4, s4⟩ := Option.isSome_iff_exists.1 s4
        obtain ⟨o5, s5⟩ := Option.isSome_iff_exists.1 s5
        obtain ⟨o6, s6⟩ := Option.isSome_iff_exists.1 s6
        obtain ⟨o7, s7⟩ := Option.isSome_iff_exists.1 s7
        obtain ⟨o8, s8⟩ := Option.isSome_iff_exists.1 s8
        obtain ⟨o9, s9⟩ := Option.isSome_iff_exists.1 s9
        obtain ⟨o10, s10⟩ := Option.isSome_iff_exists.1 s10
        have HO2 := Lib.hid hO2
        have HG2 := Lib.hid ((HG.out.andThen (World.grownBy_alloc _ _ (some gb)) (fun _ h => .inr h)).andThen (grown_of_below hb2 (some gb)) (fun _ h => .inr h))
        have dil : decide (i < L.length) = true := by simp; omega
        have hil : i < L.length := by omega
        clear hb2 hbx hO2 HO HG HCALL c0 c1 c2 c3 c4 c5 c6 c7 c8 c9 c10
        go_wp2_with fail
        clear b0 b1 b2 b3 b4 b5 b6 b7 b8 b9 b10 z0 z1 z2 z3 z4 z5 z6 z7 z8 z9 z10 s0 s1 s2 s3 s4 s5 s6 s7 s8 s9 s10
        generalize hW : World.setCell _ _ _ = W3
        have hO3 := own_put HO2.out i x (by have := HMM.out; omega)
        rw [hW] at hO3
        have hG3 : w.grownBy W3 (some gb) := by
          rw [← hW]
          exact grown_set (grown_set (grown_set (grown_set (grown_set (grown_set (grown_set (grown_set (grown_set (grown_set (grown_set HG2.out _ _) _ _) _ _) _ _) _ _) _ _) _ _) _ _) _ _) _ _) _ _
        clear hW HO2 HG2
        go_roundw
        case rel =>
          refine ⟨i + 1, j + 1, by go_num, by go_num, by omega, ?_, by omega, hG3, M.set i x, by rw [List.length_set]; exact HMM.out, ?_, fun t ht => ?_, hO3⟩
          · rw [HS.out, hq, if_neg (by simp), List.length_append, ← HII.out]; rfl
          · rw [HS.out, hq, if_neg (by simp), ← HK.out]
            have hiM : i < M.length := by have := HMM.out; omega
            rw [List.take_succ_eq_append_getElem (by simpa using hiM), List.getElem_set_self, List.take_set_of_le (Nat.le_refl _)]
          · rw [List.getD_eq_getElem?_getD, List.getElem?_set_ne (by omega), ← List.getD_eq_getElem?_getD]
            exact HD.out t (by omega)
        case measure => simp [intOf]; omega
      · rw [hq] at HCALL
        go_wp2_with (go_at_fn g; refine HCALL.mono ?_; rintro e w2 ⟨rfl, hb2⟩)
        go_roundw
        case rel => exact ⟨i, j + 1, rfl, by go_num, by omega, (by rw [HS.out, hq, if_pos rfl]; exact HII.out), by omega, (HG.out.andThen (World.grownBy_alloc _ _ (some gb)) (fun _ h => .inr h)).andThen (grown_of_below hb2 (some gb)) (fun _ h => .inr h), M, HMM.out, by rw [HS.out, hq, if_pos rfl]; exact HK.out, fun t ht => HD.out t (by omega), own_same HO.out fun k hk => (hb2.block k (by have := (HO.out.lt k hk).2; simp; omega)).trans (heap_alloc_old _ _ (HO.out.lt k hk).2)⟩
        case measure => simp [intOf]; omega
    · have hje : j = L.length := by omega
      subst hje
      have hdl : decide (L.length < L.length) = false := by simp
      rw [kept_all] at hi htk
      generalize hK : L.filter (fun e => !p e) = K at *
      subst hi
      have hic : K.length < cap := by omega
      have hce : ((K.length : Int) == (cap : Int)) = false := by simp; omega
      have hcl := fun ty => run_clear_ents wr ty gb (K.length * 11) (L.length - K.length) (cap - K.length) (by omega) (fun t ht => own_some hown (by rw [hM]; omega)) (fun t _ => own_froz hown _)
      have hsc := own_setCells (Builtin.zeroCells zeroE (L.length - K.length)).toList (K.length * 11) wr _ (own_cut hown (k := K.length) (by rw [hM]; omega)) (by omega)
      rw [entsC_take, htk] at hsc
      have HSC := Lib.hid hsc
      have HG := Lib.hid hg
      have HKK := Lib.hid hK
      clear hsc hg hdr hown htk hK
      go_wp2_with fail
      go_ret
      rw [HKK.out]
      exact ⟨rfl, HG.out.andThen HSC.out.2 (fun _ h => .inr h), HSC.out.1⟩

/-- slices.DeleteFunc, whatever goes. -/
theorem delete_any (A : Option Addr) (cap : Nat) (L : List Ent) (g : Nat) (lb : Array Value) (p : Ent → Bool) (w : World) (eg : ∀ args w, (callFunc g args).run Tryz.prog w = .ok (.enter g args) w)
    (h : w.ownsRow 0 97 11 (.slice A L.length cap) L.length (entsC L)) (hl : L.length ≤ 1000000) (hp : ∀ wr, w.grownBy wr (Value.slice A L.length cap).ownBlock → PredE g lb p L wr) :
    Calls Tryz.prog 64 #[.slice A L.length cap, .func (.func g) #[] lb] w
      fun e w' => e = .returned (.slice A (L.filter (fun e => !p e)).length cap) ∧ w.grownBy w' (Value.slice A L.length cap).ownBlock ∧
        w'.ownsRow 0 97 11 (.slice A (L.filter (fun e => !p e)).length cap) (L.filter (fun e => !p e)).length (entsC (L.filter (fun e => !p e))) := by
  rcases idxP_any p L with ⟨h1, h2⟩ | ⟨h1, h2⟩
  · obtain ⟨i, hi, hr, _⟩ := idxP_found0 noEnt h2
    obtain ⟨gb, rfl⟩ : ∃ gb, A = some ⟨gb, 0, none⟩ := by
      rcases h.2 with ⟨h1, h2⟩ | ⟨g, cap', cur, h1, _⟩
      · omega
      · injection h1 with h1; exact ⟨g, h1⟩
    exact delete_some gb cap L g lb p w eg h hl hp i hi hr
  · have hall : ∀ e ∈ L, p e = false := fun e he => by
      cases hq : p e with
      | false => rfl
      | true => rw [List.any_eq_true.2 ⟨e, he, hq⟩] at h1; cases h1
    have hf : L.filter (fun e => !p e) = L := List.filter_eq_self.2 fun e he => by simp [hall e he]
    obtain ⟨A', cap', e, hE⟩ := ents_at h
    injection e with e1 _ e3
    rw [← e1] at hE
    refine (delete_none A cap L g lb p w eg hE hl (hp w (World.grownBy.refl w _)) hall).mono ?_
    rintro e w' ⟨rfl, hb⟩
    rw [hf]
    exact ⟨rfl, grown_of_below hb _, own_same h fun k hk => hb.block k (h.lt k hk).2⟩
end Go.Proofs.YtphjgjcbolmdiaaGreatDoor
