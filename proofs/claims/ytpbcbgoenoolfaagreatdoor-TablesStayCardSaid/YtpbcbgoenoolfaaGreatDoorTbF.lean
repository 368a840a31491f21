/- Stream.RightTable: a right table. -/
import Derived.Test.YtpbcbgoenoolfaaGreatDoorTbE
import Derived.Test.YtpbcbgoenoolfaaGreatDoorTbO
import Derived.Test.YtpbcbgoenoolfaaGreatDoorRange
import Derived.Test.YtpbcbgoenoolfaaGreatDoorSome
namespace Go.Proofs.YtpbcbgoenoolfaaGreatDoor
open Go.RowKit Go.Hw
section
variable {α : Type}
theorem insR_sorted {lt : α → α → Bool} (has : ∀ x y, lt x y = true → lt y x = false) (htr : ∀ x y z, lt x y = false → lt y z = false → lt x z = false) (x : α) : ∀ L : List α, L.Pairwise (fun a b => lt a b = false) → (insR lt x L).Pairwise (fun a b => lt a b = false)
  | [], _ => by simp [insR]
  | y :: ys, h => by
    obtain ⟨h1, h2⟩ := List.pairwise_cons.1 h
    unfold insR
    cases hq : lt x y
    · rw [if_neg (by simp)]
      exact List.pairwise_cons.2 ⟨fun z hz => (List.mem_cons.1 hz).elim (fun e => e ▸ hq) (fun hz => htr _ _ _ hq (h1 z hz)), h⟩
    · rw [if_pos rfl]
      exact List.pairwise_cons.2 ⟨fun z hz => (insR_mem.1 hz).elim (fun e => e ▸ has _ _ hq) (fun hz => h1 z hz), insR_sorted has htr x ys h2⟩
theorem isortL_sorted {lt : α → α → Bool} (has : ∀ x y, lt x y = true → lt y x = false) (htr : ∀ x y z, lt x y = false → lt y z = false → lt x z = false) (L : List α) : (isortL lt L).Pairwise (fun a b => lt b a = false) := by
  unfold isortL
  rw [List.pairwise_reverse]
  unfold isortR
  have : ∀ (M acc : List α), acc.Pairwise (fun a b => lt a b = false) → (M.foldl (fun acc x => insR lt x acc) acc).Pairwise (fun a b => lt a b = false) := by
    intro M
    induction M with
    | nil => exact fun _ h => h
    | cons x M ih => exact fun acc h => ih _ (insR_sorted has htr x acc h)
  exact this L [] (by simp)
end
/-- The order of tables. -/
def pfLt (x y : En) : Prop := (x.six = false ∧ y.six = true) ∨ (x.six = y.six ∧ (x.hi < y.hi ∨ (x.hi = y.hi ∧ (x.lo < y.lo ∨ (x.lo = y.lo ∧ x.bits < y.bits)))))
def ordE (x y : En) : Int := if spanC x.six x.hi x.lo y.six y.hi y.lo = 0 then x.bits - y.bits else spanC x.six x.hi x.lo y.six y.hi y.lo
def pfB (x y : En) : Bool := (x.six == y.six && (x.hi == y.hi && x.lo == y.lo)) && x.bits == y.bits
theorem spanC_sign (x y : En) : (spanC x.six x.hi x.lo y.six y.hi y.lo < 0 ↔ (x.six = false ∧ y.six = true) ∨ (x.six = y.six ∧ (x.hi < y.hi ∨ (x.hi = y.hi ∧ x.lo < y.lo)))) ∧ (spanC x.six x.hi x.lo y.six y.hi y.lo = 0 ↔ x.six = y.six ∧ x.hi = y.hi ∧ x.lo = y.lo) := by
  obtain ⟨s, h, l, b, t⟩ := x
  obtain ⟨s', h', l', b', t'⟩ := y
  unfold spanC
  dsimp only
  by_cases hs : s = s'
  · subst hs
    simp only [if_true, true_and]
    unfold orOf cmpI
    by_cases h1 : h < h' <;> by_cases h2 : h' < h <;> by_cases h3 : l < l' <;> by_cases h4 : l' < l <;> simp [h1, h2, h3, h4, orOf] <;> omega
  · cases s <;> cases s' <;> simp_all
theorem ordE_lt (x y : En) : ordE x y < 0 ↔ pfLt x y := by
  obtain ⟨h1, h2⟩ := spanC_sign x y
  unfold ordE pfLt
  generalize spanC x.six x.hi x.lo y.six y.hi y.lo = c at *
  by_cases hc : c = 0
  · rw [if_pos hc]
    have h3 := h2.1 hc
    rw [h3.1]
    constructor
    · intro h; right; refine ⟨rfl, .inr ⟨h3.2.1, .inr ⟨h3.2.2, by omega⟩⟩⟩
    · rintro (⟨a, b⟩ | ⟨_, h⟩)
      · rw [a] at b; cases b
      · omega
  · rw [if_neg hc, h1]
    constructor
    · rintro (h | ⟨h, h'⟩)
      · exact .inl h
      · exact .inr ⟨h, by omega⟩
    · rintro (h | ⟨h, h'⟩)
      · exact .inl h
      · refine .inr ⟨h, ?_⟩
        have : ¬ (x.six = y.six ∧ x.hi = y.hi ∧ x.lo = y.lo) := fun e => hc (h2.2 e)
        have : ¬ (x.hi = y.hi ∧ x.lo = y.lo) := fun e => this ⟨h, e⟩
        omega
theorem pfE_lt (x y : En) : pfE x y < 0 ↔ pfLt x y := by
  rw [← ordE_lt]
  unfold pfE ordE
  generalize spanC x.six x.hi x.lo y.six y.hi y.lo = c
  by_cases hc : c = 0
  · rw [if_pos hc]
    unfold orOf cmpI
    by_cases h1 : x.bits < y.bits <;> by_cases h2 : y.bits < x.bits <;> simp [hc, h1, h2, orOf] <;> omega
  · rw [if_neg hc]
    unfold orOf
    simp [hc]
theorem pfLt_tri {x y : En} (h : ¬ pfLt y x) (hb : pfB y x = false) : pfLt x y := by
  obtain ⟨s, h, l, b, t⟩ := x
  obtain ⟨s', h', l', b', t'⟩ := y
  unfold pfLt pfB at *
  dsimp only at *
  cases s <;> cases s' <;> simp_all <;> omega
theorem pfLt_tr {x y z : En} (h : ¬ pfLt y x) (h2 : pfLt y z) : pfLt x z := by
  obtain ⟨s, h, l, b, t⟩ := x
  obtain ⟨s', h', l', b', t'⟩ := y
  obtain ⟨s'', h'', l'', b'', t''⟩ := z
  unfold pfLt at *
  dsimp only at *
  cases s <;> cases s' <;> cases s'' <;> simp_all <;> omega
theorem enLt_false {x y : En} : enLt ordE x y = false ↔ ¬ pfLt x y := by
  unfold enLt
  rw [decide_eq_false_iff_not, ordE_lt]
/-- What RightTable makes of its entries. -/
def tblE (L : List En) : List En := dedT pfB noEn (isortL (enLt ordE) L) (isortL (enLt ordE) L).length
theorem tblE_ok {L : List En} (hl : L.length ≤ 7) (hr : ∀ e ∈ L, PfRight e.six e.hi e.lo e.bits ∧ isKey e.tgt = true) : TblOk (tblE L) ∧ (tblE L).length ≤ 7 := by
  have hm : ∀ e ∈ tblE L, e ∈ L := fun e he => by
    obtain ⟨j, hj, rfl⟩ := dedT_mem _ (Nat.le_refl _) e he
    exact isortL_mem.1 (rw_mem hj)
  have hlen : (tblE L).length ≤ 7 := by
    have := dedT_len pfB noEn (isortL (enLt ordE) L) (isortL (enLt ordE) L).length
    rw [isortL_length] at this
    unfold tblE
    rw [isortL_length]
    omega
  refine ⟨⟨fun e he => (hr e (hm e he)).1, fun e he => (hr e (hm e he)).2, ?_, by omega⟩, hlen⟩
  have hs : (isortL (enLt ordE) L).Pairwise (fun a b => enLt ordE b a = false) := isortL_sorted (fun x y h => by
      rw [enLt_false]
      have h' : pfLt x y := by rw [← ordE_lt]; simpa [enLt] using h
      obtain ⟨s, h, l, b, t⟩ := x
      obtain ⟨s', h2, l', b', t'⟩ := y
      unfold pfLt at *
      dsimp only at *
      cases s <;> cases s' <;> simp_all <;> omega) (fun x y z h1 h2 => by
      rw [enLt_false] at *
      intro h3
      obtain ⟨s, h, l, b, t⟩ := x
      obtain ⟨s', h', l', b', t'⟩ := y
      obtain ⟨s'', h'', l'', b'', t''⟩ := z
      unfold pfLt at *
      dsimp only at *
      cases s <;> cases s' <;> cases s'' <;> simp_all <;> omega) L
  have hp := dedT_pair (c := pfB) (d := noEn) (L := isortL (enLt ordE) L) (R := fun x y => pfE x y < 0) (S := fun x y => enLt ordE y x = false)
    (fun i j hij hj => by
      have := List.pairwise_iff_getElem.1 hs i j (by omega) hj hij
      rwa [List.getD_eq_getElem?_getD, List.getD_eq_getElem?_getD, List.getElem?_eq_getElem hj, List.getElem?_eq_getElem (show i < _ by omega)])
    (fun x y z h h2 => by
      rw [pfE_lt] at *
      rcases h with rfl | h
      · exact h2
      · exact pfLt_tr (enLt_false.1 h) h2)
    (fun x y h hb => by
      rw [pfE_lt]
      exact pfLt_tri (enLt_false.1 h) hb) (isortL (enLt ordE) L).length (Nat.le_refl _)
  intro i hi
  have := List.pairwise_iff_getElem.1 hp i (i + 1) (by unfold tblE at hi; omega) hi (by omega)
  rw [List.getD_eq_getElem?_getD, List.getD_eq_getElem?_getD, List.getElem?_eq_getElem hi, List.getElem?_eq_getElem (show i < _ by omega)]
  exact this
set_option maxRecDepth 100000 in
set_option maxHeartbeats 1000000 in
theorem tblCmp_any (x y : En) (w : World) (hx : PfRight x.six x.hi x.lo x.bits) (hy : PfRight y.six y.hi y.lo y.bits) :
    Calls Tryz.prog 15 #[.agg #[.bool x.six, .int .u64 x.hi, .int .u64 x.lo, .int .i64 x.bits, .string x.tgt], .agg #[.bool y.six, .int .u64 y.hi, .int .u64 y.lo, .int .i64 y.bits, .string y.tgt]] w fun e w' => e = .returned (.int .i64 (ordE x y)) ∧ Below w.heap.size w w' := by
  have hor := fun W => order_any x.six x.hi x.lo y.six y.hi y.lo W hx.1.1 hx.1.2.1 hy.1.1 hy.1.2.1
  rw [cmp_span hx.1.1 hx.1.2.1 hy.1.1 hy.1.2.1] at hor
  have hbx : 0 ≤ x.bits ∧ x.bits ≤ 128 := by obtain ⟨_, h0, m, hm, _⟩ := hx; have : lenA x.six ≤ 128 := by unfold lenA; split <;> decide
                                             omega
  have hby : 0 ≤ y.bits ∧ y.bits ≤ 128 := by obtain ⟨_, h0, m, hm, _⟩ := hy; have : lenA y.six ≤ 128 := by unfold lenA; split <;> decide
                                             omega
  have hwr : IntKind.i64.wrap (x.bits - y.bits) = x.bits - y.bits := IntWalk.i64_in _ (by omega)
  obtain ⟨r, hr⟩ : ∃ r, ordE x y = r := ⟨_, rfl⟩
  have HR := Lib.hid hr
  unfold ordE at hr
  generalize spanC x.six x.hi x.lo y.six y.hi y.lo = c at *
  have HB := Lib.hid (((Below.refl w.heap.size w).alloc (Nat.le_refl _) (.cells #[.bool x.six, .int .u64 x.hi, .int .u64 x.lo, .int .i64 x.bits, .string x.tgt] 43 (0, 0))).alloc (by simp) (.cells #[.bool y.six, .int .u64 y.hi, .int .u64 y.lo, .int .i64 y.bits, .string y.tgt] 43 (0, 0)))
  have hb0 : ((w.alloc (.cells #[.bool x.six, .int .u64 x.hi, .int .u64 x.lo, .int .i64 x.bits, .string x.tgt] 43 (0, 0))).alloc (.cells #[.bool y.six, .int .u64 y.hi, .int .u64 y.lo, .int .i64 y.bits, .string y.tgt] 43 (0, 0))).heap[w.heap.size]? = some (.cells #[.bool x.six, .int .u64 x.hi, .int .u64 x.lo, .int .i64 x.bits, .string x.tgt] 43 (0, 0)) := (heap_alloc_old _ _ (by simp)).trans (heap_alloc_new w _)
  have hb1 : ((w.alloc (.cells #[.bool x.six, .int .u64 x.hi, .int .u64 x.lo, .int .i64 x.bits, .string x.tgt] 43 (0, 0))).alloc (.cells #[.bool y.six, .int .u64 y.hi, .int .u64 y.lo, .int .i64 y.bits, .string y.tgt] 43 (0, 0))).heap[w.heap.size + 1]? = some (.cells #[.bool y.six, .int .u64 y.hi, .int .u64 y.lo, .int .i64 y.bits, .string y.tgt] 43 (0, 0)) := by
    have := heap_alloc_new (w.alloc (.cells #[.bool x.six, .int .u64 x.hi, .int .u64 x.lo, .int .i64 x.bits, .string x.tgt] 43 (0, 0))) (.cells #[.bool y.six, .int .u64 y.hi, .int .u64 y.lo, .int .i64 y.bits, .string y.tgt] 43 (0, 0))
    simp only [Re_size] at this
    exact this
  obtain ⟨⟨a0, a1, a2, a3, a4⟩, -⟩ := res5 hb0
  obtain ⟨⟨b0, b1, b2, b3, b4⟩, -⟩ := res5 hb1
  have HB0 := Lib.hid hb0
  have HB1 := Lib.hid hb1
  clear hx hy hb0 hb1
  go_enter Tryz.func15, Tryz.ntmps15
  go_wp2_with fail
  generalize World.alloc _ _ = W at *
  have hl0 : w.heap.size < W.heap.size := lt_of_block HB0.out
  have hl1 : w.heap.size + 1 < W.heap.size := lt_of_block HB1.out
  refine (hor W).mono ?_
  rintro e W2 ⟨rfl, hb2⟩
  have HB2 := Lib.hid (HB.out.trans (hb2.mono HB.out.size))
  have c3 := (hb2.cell (p := ⟨w.heap.size, 3, none⟩) hl0).trans a3
  have d3 := (hb2.cell (p := ⟨w.heap.size + 1, 3, none⟩) hl1).trans b3
  clear a0 a1 a2 a3 a4 b0 b1 b2 b3 b4 hb2 HB
  by_cases hc : c = 0
  · rw [if_pos hc] at hr
    subst hc
    go_wp2_with fail
    go_ret
    exact ⟨by rw [HR.out, ← hr]; rfl, HB2.out⟩
  · rw [if_neg hc] at hr
    have hcb : (c != 0) = true := by simpa using hc
    go_wp2_with fail
    go_ret
    exact ⟨by rw [HR.out, ← hr]; rfl, HB2.out⟩
set_option maxHeartbeats 1000000 in
theorem tblSame_any (x y : En) (w : World) :
    Calls Tryz.prog 18 #[.agg #[.bool x.six, .int .u64 x.hi, .int .u64 x.lo, .int .i64 x.bits, .string x.tgt], .agg #[.bool y.six, .int .u64 y.hi, .int .u64 y.lo, .int .i64 y.bits, .string y.tgt]] w fun e w' => e = .returned (.bool (pfB x y)) ∧ Below w.heap.size w w' := by
  have hq := fun W => run_eq_pf 9997 x.six y.six x.hi y.hi x.lo y.lo x.bits y.bits W
  have hgd := guard_pf
  obtain ⟨r, hr⟩ : ∃ r, pfB x y = r := ⟨_, rfl⟩
  have HR := Lib.hid hr
  unfold pfB at hr
  rw [hr] at hq
  have HB := Lib.hid (((Below.refl w.heap.size w).alloc (Nat.le_refl _) (.cells #[.bool x.six, .int .u64 x.hi, .int .u64 x.lo, .int .i64 x.bits, .string x.tgt] 43 (0, 0))).alloc (by simp) (.cells #[.bool y.six, .int .u64 y.hi, .int .u64 y.lo, .int .i64 y.bits, .string y.tgt] 43 (0, 0)))
  have hb0 : ((w.alloc (.cells #[.bool x.six, .int .u64 x.hi, .int .u64 x.lo, .int .i64 x.bits, .string x.tgt] 43 (0, 0))).alloc (.cells #[.bool y.six, .int .u64 y.hi, .int .u64 y.lo, .int .i64 y.bits, .string y.tgt] 43 (0, 0))).heap[w.heap.size]? = some (.cells #[.bool x.six, .int .u64 x.hi, .int .u64 x.lo, .int .i64 x.bits, .string x.tgt] 43 (0, 0)) := (heap_alloc_old _ _ (by simp)).trans (heap_alloc_new w _)
  have hb1 : ((w.alloc (.cells #[.bool x.six, .int .u64 x.hi, .int .u64 x.lo, .int .i64 x.bits, .string x.tgt] 43 (0, 0))).alloc (.cells #[.bool y.six, .int .u64 y.hi, .int .u64 y.lo, .int .i64 y.bits, .string y.tgt] 43 (0, 0))).heap[w.heap.size + 1]? = some (.cells #[.bool y.six, .int .u64 y.hi, .int .u64 y.lo, .int .i64 y.bits, .string y.tgt] 43 (0, 0)) := by
    have := heap_alloc_new (w.alloc (.cells #[.bool x.six, .int .u64 x.hi, .int .u64 x.lo, .int .i64 x.bits, .string x.tgt] 43 (0, 0))) (.cells #[.bool y.six, .int .u64 y.hi, .int .u64 y.lo, .int .i64 y.bits, .string y.tgt] 43 (0, 0))
    simp only [Re_size] at this
    exact this
  obtain ⟨⟨a0, a1, a2, a3, a4⟩, -⟩ := res5 hb0
  obtain ⟨⟨b0, b1, b2, b3, b4⟩, -⟩ := res5 hb1
  clear hb0 hb1 hr
  go_enter Tryz.func18, Tryz.ntmps18
  go_wp2_with fail
  go_ret
  exact ⟨by rw [HR.out]; rfl, HB.out⟩
end Go.Proofs.YtpbcbgoenoolfaaGreatDoor
