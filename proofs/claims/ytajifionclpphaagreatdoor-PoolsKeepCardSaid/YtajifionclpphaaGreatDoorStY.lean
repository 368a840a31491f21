/- Ranges in memory. span.Compare with what it lays; a row of structs that is sorted. The sort of ranges. span.touches, span.joined. slices.SortFunc over no ranges. -/
import Derived.Test.YtajifionclpphaaGreatDoorStU
import Derived.Test.YtajifionclpphaaGreatDoorAdR
import Derived.OwnWalk
import Derived.Deep.RegionHeld3
import Derived.Deep.RegionLaw
import Derived.Deep.Cut
import Derived.Deep.CutRange
import Derived.StillTailTactics
import Derived.Test.YtajifionclpphaaGreatDoorShelf
import Derived.Test.YtajifionclpphaaGreatDoorSwD
import Derived.Test.YtajifionclpphaaGreatDoorShelg
import Derived.BigQuiet
namespace Go.Proofs.YtajifionclpphaaGreatDoor
open Go.RowKit Go.Hw

def rgC (e : Rg) : List Value := [.bool e.six, .int .u64 e.hi, .int .u64 e.lo, .bool e.six2, .int .u64 e.hi2, .int .u64 e.lo2]
theorem rgC_len (e : Rg) : (rgC e).length = 6 := rfl
abbrev rgAt (w : World) (A : Option Addr) (L : List Rg) : Prop := RwAt rgC 6 noRg w A L
abbrev rgOwn (w : World) (base : Nat) (v : Value) (L : List Rg) : Prop := w.ownsRow base 43 6 v L.length (rwC rgC L)
theorem rg_cells {w : World} {g o : Nat} {e : Rg} (h : RwCells w g o (rgC e)) : w.cell? ⟨g, o, none⟩ = some (.bool e.six) ∧ w.cell? ⟨g, o + 1, none⟩ = some (.int .u64 e.hi) ∧ w.cell? ⟨g, o + 2, none⟩ = some (.int .u64 e.lo) ∧ w.cell? ⟨g, o + 3, none⟩ = some (.bool e.six2) ∧ w.cell? ⟨g, o + 4, none⟩ = some (.int .u64 e.hi2) ∧ w.cell? ⟨g, o + 5, none⟩ = some (.int .u64 e.lo2) := ⟨h 0 _ rfl, h 1 _ rfl, h 2 _ rfl, h 3 _ rfl, h 4 _ rfl, h 5 _ rfl⟩

theorem rg_info : (Tryz.prog.info? 43).map (fun i => (i.zero, i.size, i.bytes)) = some (some (.agg #[.bool false, .int .u64 0, .int .u64 0, .bool false, .int .u64 0, .int .u64 0]), 6, 48) := by kernel_rfl
theorem rgC_one (e : Rg) : ∀ u ∈ rgC e, u.oneCell' = true := by
  intro u hu
  simp only [rgC, List.mem_cons, List.not_mem_nil, or_false] at hu
  rcases hu with rfl | rfl | rfl | rfl | rfl | rfl <;> rfl
theorem rgs_one (L : List Rg) : ∀ u ∈ rwC rgC L, u.oneCell' = true := by
  intro u hu
  obtain ⟨x, _, hx⟩ := List.mem_flatMap.1 hu
  exact rgC_one x u hx
/-- Cells of a row, one after the other. -/
theorem rg_flat {w : World} {b off : Nat} {L : List Rg} (h : rgAt w (some ⟨b, off, none⟩) L) (j : Nat) (u : Value) (hu : (rwC rgC L)[j]? = some u) : w.cell? ⟨b, off + j, none⟩ = some u := by
  have hj := (List.getElem?_eq_some_iff.1 hu).1
  rw [rwC_length rgC_len] at hj
  have hi : j / 6 < L.length := by omega
  obtain ⟨g, off', e, _, hc⟩ := h (j / 6) hi
  injection e with e
  simp only [Addr.mk.injEq, and_true] at e
  obtain ⟨rfl, rfl⟩ := e
  have hm : j = j / 6 * 6 + j % 6 := by omega
  rw [hm, rwC_at (d := noRg) rgC_len L _ _ hi (by omega)] at hu
  have := hc (j % 6) u hu
  rwa [Nat.add_assoc, ← hm] at this

set_option maxHeartbeats 2000000 in
set_option maxRecDepth 100000 in
/-- slices.Clone of a row. -/
theorem rg_clone (A : Option Addr) (cap : Nat) (L : List Rg) (w : World) (h : rgAt w A L) (h0 : A = none → L = []) (hl : L.length ≤ 1000000) :
    Calls Tryz.prog 82 #[.slice A L.length cap] w fun e w' => ∃ v, e = .returned v ∧ rgOwn w' w.heap.size v L ∧ Below w.heap.size w w' := by
  rcases A with _ | ⟨b, off, sp⟩
  · obtain rfl := h0 rfl
    have hq : ∀ (w : World) (n : Nat), (binOp .eql 75 (.slice none n cap) (.slice none 0 0)).run Tryz.prog w = .ok (.bool true) w := fun w n => Lib.run_eql_slice_nil w _ _ none n cap 0 0 Tryz.underlying75
    go_enter Tryz.func82, Tryz.ntmps82
    go_wp2_with fail
    go_ret
    exact ⟨_, rfl, World.ownsRow_nil _ _ _ _, Below.refl _ _⟩
  · obtain ⟨i0, hi, hz0, hz1, hz2⟩ := info_parts rg_info
    have hsp : sp = none ∨ L = [] := by
      rcases Nat.eq_zero_or_pos L.length with h1 | h1
      · exact .inr (List.length_eq_zero_iff.1 h1)
      · obtain ⟨g, off', e, _⟩ := h 0 h1
        injection e with e
        injection e with _ _ e
        exact .inl e
    have hq : ∀ (w : World), (binOp .eql 75 (.slice (some ⟨b, off, sp⟩) L.length cap) (.slice none 0 0)).run Tryz.prog w = .ok (.bool false) w := fun w => Lib.run_eql_slice_nil w _ _ _ _ _ 0 0 Tryz.underlying75
    have hc : ∀ j u, (rwC rgC L)[j]? = some u → w.cell? ((⟨b, off, sp⟩ : Addr).add j) = some u := by
      intro j u hu
      rcases hsp with rfl | rfl
      · rw [Addr.add_lit]
        exact rg_flat h j u hu
      · simp [rwC] at hu
    have H := Lib.hid hc
    have hz : (rwC rgC L).length = L.length * 6 := rwC_length rgC_len L
    have ho := rgs_one L
    clear h hc
    generalize hcs : rwC rgC L = cs at *
    go_enter Tryz.func82, Tryz.ntmps82
    go_wp2_with (at_builtin; refine wpList_append_own _ rfl _ _ 75 rfl w.heap.size 43 i0 (.agg #[.bool false, .int .u64 0, .int .u64 0, .bool false, .int .u64 0, .int .u64 0]) 6 48 Tryz.underlying75 hi hz0 hz1 hz2 rfl (by decide) _ _ _ rfl (World.ownsRow_made w #[] 0 (Nat.le_refl _) (Nat.zero_le _) rfl) ⟨b, off, sp⟩ L.length cap cs rfl ?qc1 ?qc2 ?qc3 ?qc4 ?qc5 ?qc6 ?_)
    case qc1 => exact hz
    case qc2 => exact fun j u hu => Lib.cell?_alloc_some _ (H.out j u hu)
    case qc3 => exact ho
    case qc4 => unfold maxLen; omega
    case qc5 => omega
    case qc6 => simp
    intro v' w1 hown hgrow hnil
    go_wp2_with fail
    go_ret
    refine ⟨v', rfl, by unfold rgOwn; rw [hcs]; simpa using hown, ?_⟩
    exact ((Below.refl _ w).alloc (Nat.le_refl _) _).grown hgrow (by simp) (by intro k hk; simp [Value.ownBlock] at hk; omega)

end Go.Proofs.YtajifionclpphaaGreatDoor

namespace Go.Proofs.YtajifionclpphaaGreatDoor
open Go.RowKit Go.Hw
open Go.Sort (grow grow_grow alloc_eq_grow SWO HoldsK putRowK flatK PermIn SortedIn)

theorem spanCompare_grown (s : Bool) (h l : Int) (s' : Bool) (h' l' : Int) (w : World) :
    Calls Tryz.prog 81 #[.agg #[.bool s, .int .u64 h, .int .u64 l], .agg #[.bool s', .int .u64 h', .int .u64 l']] w fun e w' => e = .returned (.int .i64 (spanC s h l s' h' l')) ∧ ∃ q os, w' = grow (w.drewN q) os := by
  have b0 : ((w.alloc (addrBox s h l)).alloc (addrBox s' h' l')).heap[w.heap.size]? = some (addrBox s h l) := (heap_alloc_old _ _ (by simp)).trans (heap_alloc_new w _)
  have b1 : ((w.alloc (addrBox s h l)).alloc (addrBox s' h' l')).heap[w.heap.size + 1]? = some (addrBox s' h' l') := by
    have := heap_alloc_new (w.alloc (addrBox s h l)) (addrBox s' h' l')
    simp only [Re_size] at this
    exact this
  obtain ⟨x0, x1, x2, -⟩ := res3 b0
  obtain ⟨x3, x4, x5, -⟩ := res3 b1
  have hsz : w.heap.size + 2 ≤ ((w.alloc (addrBox s h l)).alloc (addrBox s' h' l')).heap.size := by simp
  unfold addrBox at x0 x1 x2 x3 x4 x5 hsz
  clear b0 b1
  by_cases hs : s = s'
  · subst hs
    have HF : Hid (spanC s h l s h' l' = orOf [cmpI h h', cmpI l l']) := Lib.hid (by unfold spanC; rw [if_pos rfl])
    have e1 : (s != s) = false := by simp
    go_enter Tryz.func81, Tryz.ntmps81
    go_wp2_with fail
    generalize hW : World.alloc _ _ = W at x0 x1 x2 x3 x4 x5 hsz ⊢
    have HW := Lib.hid hW
    clear hW
    have hl0 : w.heap.size < W.heap.size := by omega
    have hl1 : w.heap.size + 1 < W.heap.size := by omega
    go_region_held3 (fun w' => w'.cell? ⟨w.heap.size, 0, none⟩ = some (.bool s) ∧ w'.cell? ⟨w.heap.size, 1, none⟩ = some (.int .u64 h) ∧ w'.cell? ⟨w.heap.size, 2, none⟩ = some (.int .u64 l) ∧ w'.cell? ⟨w.heap.size + 1, 0, none⟩ = some (.bool s) ∧ w'.cell? ⟨w.heap.size + 1, 1, none⟩ = some (.int .u64 h') ∧ w'.cell? ⟨w.heap.size + 1, 2, none⟩ = some (.int .u64 l'))
      (first | exact ⟨x0, x1, x2, x3, x4, x5⟩ | ((repeat' apply And.intro) <;> (first | (go_simp; done) | with_reducible assumption)))
      (first
        | (go_at_call 134; refine (cmpU_any _ _ _).mono ?_; rintro e W2 ⟨rfl, rfl⟩)
        | (go_at_call 133; refine (or_any W.heap.size [cmpI h h', cmpI l l'] _ (by exact heap_alloc_new W _) 2 2 rfl (by simp)).mono ?_; rintro e W2 ⟨rfl, rfl⟩))
    go_wp2_with fail
    go_ret
    refine ⟨ret_eq HF.out.symm, 1, ?_⟩
    rw [← HW.out, alloc_eq_grow, alloc_eq_grow, alloc_eq_grow, grow_grow, grow_grow]
    exact ⟨_, rfl⟩
  · cases s <;> cases s'
    · exact absurd rfl hs
    · have HF : Hid (spanC false h l true h' l' = -1) := Lib.hid rfl
      clear hs
      go_enter Tryz.func81, Tryz.ntmps81
      go_wp2_with fail
      go_ret
      refine ⟨ret_eq HF.out.symm, 0, ?_⟩
      rw [alloc_eq_grow, alloc_eq_grow, grow_grow]
      exact ⟨_, rfl⟩
    · have HF : Hid (spanC true h l false h' l' = 1) := Lib.hid rfl
      clear hs
      go_enter Tryz.func81, Tryz.ntmps81
      go_wp2_with fail
      go_ret
      refine ⟨ret_eq HF.out.symm, 0, ?_⟩
      rw [alloc_eq_grow, alloc_eq_grow, grow_grow]
      exact ⟨_, rfl⟩
    · exact absurd rfl hs

theorem flat_rwC {α : Type} [Inhabited α] {c : α → List Value} {k : Nat} (hc : ∀ x, (c x).length = k) (d : Array α) : (flatK c k d).toList = rwC c d.toList := by
  apply List.ext_getElem?
  intro j
  by_cases hj : j < d.size * k
  · have hk : 0 < k := by rcases Nat.eq_zero_or_pos k with h | h; · subst h; simp at hj
                          · exact h
    have hi : j / k < d.size := Nat.div_lt_of_lt_mul (by rwa [Nat.mul_comm] at hj)
    have hm : j / k * k + j % k = j := by rw [Nat.mul_comm]; exact Nat.div_add_mod j k
    have h2 := rwC_at (d := default) hc d.toList (j / k) (j % k) (by simpa using hi) (Nat.mod_lt _ hk)
    rw [hm] at h2
    rw [h2]
    have h1 := Go.Sort.get_flatK c k d j hj
    have hsz : j < (flatK c k d).size := by rw [Go.Sort.size_flatK]; exact hj
    rw [getElem!_pos (flatK c k d) j hsz] at h1
    rw [Array.getElem?_toList, Array.getElem?_eq_getElem hsz, h1]
    have e1 : d[j / k]! = d.toList.getD (j / k) default := by
      rw [getElem!_pos d (j / k) hi, List.getD_eq_getElem?_getD, List.getElem?_eq_getElem (by simpa using hi)]
      simp
    rw [e1]
    have hl : j % k < (c (d.toList.getD (j / k) default)).length := by rw [hc]; exact Nat.mod_lt _ hk
    rw [getElem!_pos (c (d.toList.getD (j / k) default)) (j % k) hl, List.getElem?_eq_getElem hl]
  · rw [List.getElem?_eq_none (by rw [Array.length_toList, Go.Sort.size_flatK]; omega), List.getElem?_eq_none (by rw [rwC_length hc, Array.length_toList]; omega)]
/-- An own row holds its flat cells. -/
theorem rw_holds {α : Type} [Inhabited α] {c : α → List Value} {k : Nat} (hc : ∀ x, (c x).length = k) {w : World} {base g cap : Nat} {T : TypeId} {L : List α} (h : w.ownsRow base T k (.slice (some ⟨g, 0, none⟩) L.length cap) L.length (rwC c L)) : HoldsK c k w g 0 L.toArray := by
  intro j hj
  rw [Go.Sort.size_flatK] at hj
  refine ⟨?_, rw_froz h _⟩
  have hadd : ∀ i, (⟨g, 0, none⟩ : Addr).add i = ⟨g, 0 + i, none⟩ := fun i => by unfold Addr.add; split <;> simp_all
  have hcl := h.cells (g := g) rfl j
  rw [hadd] at hcl
  apply hcl
  have := flat_rwC hc L.toArray
  rw [List.toList_toArray] at this
  rw [← this, Array.getElem?_toList, getElem?_pos _ _ (by rw [Go.Sort.size_flatK]; exact hj), getElem!_pos _ _ (by rw [Go.Sort.size_flatK]; exact hj)]
  rfl
/-- A sorted row is an own row still. -/
theorem rw_sorted {α : Type} [Inhabited α] {c : α → List Value} {k : Nat} (hc : ∀ x, (c x).length = k) {w : World} {base g cap : Nat} {T : TypeId} {L : List α} (h : w.ownsRow base T k (.slice (some ⟨g, 0, none⟩) L.length cap) L.length (rwC c L)) (M : Array α) (hM : M.size = L.length) (n : Nat) (os : Array Obj) :
    (sortWorldK c k w g 0 n M os).ownsRow base T k (.slice (some ⟨g, 0, none⟩) M.toList.length cap) M.toList.length (rwC c M.toList) ∧ w.grownBy (sortWorldK c k w g 0 n M os) (some g) := by
  have hlt := (h.lt g rfl).2
  rw [Array.length_toList, hM]
  constructor
  · obtain ⟨hl, ⟨h', _⟩ | ⟨g', cap', cur, h', hb, hg, hnc, hcm, hcs, ht⟩⟩ := h
    · simp at h'
    · simp only [Value.slice.injEq, Option.some.injEq, Addr.mk.injEq, and_true, true_and] at h'
      obtain ⟨rfl, rfl⟩ := h'
      refine ⟨by rw [rwC_length hc, Array.length_toList, hM], .inr ⟨g, cap, Go.Sort.putCells id 0 (flatK c k M) cur, rfl, hb, ?_, hnc, hcm, by simpa [Go.Sort.putCells] using hcs, ?_⟩⟩
      · show ((w.heap.modify g (Go.Sort.onCells (Go.Sort.putCells id 0 (flatK c k M)))) ++ os)[g]? = _
        rw [Array.getElem?_append_left (by simpa using hlt), Array.getElem?_modify, if_pos rfl, hg]
        rfl
      · rw [← flat_rwC hc]
        have hle := Nat.mul_le_mul_right k hnc
        have hfs : (flatK c k M).size = L.length * k := by rw [Go.Sort.size_flatK, hM]
        apply List.ext_getElem?
        intro j
        by_cases hj : j < L.length * k
        · rw [List.getElem?_take, if_pos hj, Array.getElem?_toList, Array.getElem?_toList]
          rw [getElem?_pos (flatK c k M) _ (by rw [hfs]; exact hj)]
          have hjc : j < cur.size := by omega
          simp only [Go.Sort.putCells, Array.getElem?_mapIdx]
          rw [getElem?_pos cur _ hjc]
          simp only [Option.map_some]
          rw [if_pos ⟨Nat.zero_le _, by rw [hfs]; omega⟩, Nat.sub_zero, getElem!_pos _ _ (by rw [hfs]; exact hj)]
          rfl
        · rw [List.getElem?_eq_none (by rw [List.length_take]; omega), List.getElem?_eq_none (by rw [Array.length_toList, hfs]; omega)]
  · refine ⟨rfl, rfl, rfl, ?_, ?_⟩
    · show w.heap.size ≤ ((w.heap.modify g _) ++ os).size
      simp
    · intro j hj hne
      show ((w.heap.modify g _) ++ os)[j]? = _
      rw [Array.getElem?_append_left (by simpa using hj), Array.getElem?_modify, if_neg (by rintro rfl; exact hne rfl)]


instance : Inhabited Rg := ⟨noRg⟩
def rgA (r : Rg) : Array Value := #[.bool r.six, .int .u64 r.hi, .int .u64 r.lo, .bool r.six2, .int .u64 r.hi2, .int .u64 r.lo2]
/-- The order of ranges in joined. -/
def rgCmp (x y : Rg) : Int := spanC x.six x.hi x.lo y.six y.hi y.lo
theorem rg_box {w : World} (x y : Rg) : ((w.alloc (.cells (rgA x) 43 (0, 0))).alloc (.cells (rgA y) 43 (0, 0))).heap[w.heap.size]? = some (.cells (rgA x) 43 (0, 0)) ∧ ((w.alloc (.cells (rgA x) 43 (0, 0))).alloc (.cells (rgA y) 43 (0, 0))).heap[w.heap.size + 1]? = some (.cells (rgA y) 43 (0, 0)) := by
  refine ⟨(heap_alloc_old _ _ (by simp)).trans (heap_alloc_new w _), ?_⟩
  have := heap_alloc_new (w.alloc (.cells (rgA x) 43 (0, 0))) (.cells (rgA y) 43 (0, 0))
  simp only [Re_size] at this
  exact this
theorem res6r {W : World} {R : Nat} {a0 a1 a2 a3 a4 a5 : Value} {T : TypeId} (h : W.heap[R]? = some (.cells #[a0, a1, a2, a3, a4, a5] T (0, 0))) : (W.cell? ⟨R, 0, none⟩ = some a0 ∧ W.cell? ⟨R, 1, none⟩ = some a1 ∧ W.cell? ⟨R, 2, none⟩ = some a2 ∧ W.cell? ⟨R, 3, none⟩ = some a3 ∧ W.cell? ⟨R, 4, none⟩ = some a4 ∧ W.cell? ⟨R, 5, none⟩ = some a5) ∧ W.frozen? ⟨R, 0, none⟩ = false ∧ W.frozen? ⟨R, 1, none⟩ = false ∧ W.frozen? ⟨R, 2, none⟩ = false ∧ W.frozen? ⟨R, 3, none⟩ = false ∧ W.frozen? ⟨R, 4, none⟩ = false ∧ W.frozen? ⟨R, 5, none⟩ = false := by
  refine ⟨⟨?_, ?_, ?_, ?_, ?_, ?_⟩, ?_, ?_, ?_, ?_, ?_, ?_⟩ <;> simp [World.cell?, World.frozen?, h]
theorem joinedCmp_any (x y : Rg) (w : World) :
    Calls Tryz.prog 131 #[.agg (rgA x), .agg (rgA y)] w fun e w' => e = .returned (.int .i64 (rgCmp x y)) ∧ ∃ q os, w' = grow (w.drewN q) os := by
  obtain ⟨b0, b1⟩ := rg_box (w := w) x y
  unfold rgA at b0 b1 ⊢
  have hcm := fun W => spanCompare_grown x.six x.hi x.lo y.six y.hi y.lo W
  obtain ⟨c, hc⟩ : ∃ c, rgCmp x y = c := ⟨_, rfl⟩
  have HC := Lib.hid hc
  unfold rgCmp at hc
  rw [hc] at hcm
  obtain ⟨⟨a0, a1, a2, a3, a4, a5⟩, -⟩ := res6r b0
  obtain ⟨⟨d0, d1, d2, d3, d4, d5⟩, -⟩ := res6r b1
  clear hc b0 b1
  go_enter Tryz.func131, Tryz.ntmps131
  go_wp2_with fail
  generalize hW : World.alloc _ _ = W at *
  have HW := Lib.hid hW
  clear hW
  refine (hcm W).mono ?_
  rintro e W2 ⟨rfl, q, os, rfl⟩
  go_wp2_with fail
  go_ret
  refine ⟨by rw [HC.out]; rfl, q, ?_⟩
  rw [← HW.out, alloc_eq_grow, alloc_eq_grow, grow_grow]
  exact ⟨_, grow_grow (w.drewN q) _ _⟩
theorem rgCmp_swo : SWO (ltOf rgCmp) := by
  have key : ∀ x y : Rg, ltOf rgCmp x y = true ↔ (x.six = false ∧ y.six = true) ∨ (x.six = y.six ∧ (x.hi < y.hi ∨ (x.hi = y.hi ∧ x.lo < y.lo))) := by
    intro x y
    obtain ⟨s, h, l, t1, t2, t3⟩ := x
    obtain ⟨s', h', l', t4, t5, t6⟩ := y
    unfold ltOf rgCmp spanC
    simp only [decide_eq_true_eq]
    by_cases hs : s = s'
    · subst hs
      simp only [if_true, true_and]
      unfold orOf cmpI
      by_cases h1 : h < h' <;> by_cases h2 : h' < h <;> by_cases h3 : l < l' <;> by_cases h4 : l' < l <;> simp [h1, h2, h3, h4, orOf] <;> omega
    · cases s <;> cases s' <;> simp_all
  constructor
  · intro x
    rw [← Bool.not_eq_true, key]
    rintro (⟨h1, h2⟩ | ⟨_, h | ⟨_, h⟩⟩)
    · rw [h1] at h2; exact absurd h2 (by decide)
    · omega
    · omega
  · intro x y z h1 h2
    rw [key] at *
    obtain ⟨s, h, l, t1, t2, t3⟩ := x
    obtain ⟨s', h', l', t4, t5, t6⟩ := y
    obtain ⟨s'', h'', l'', t7, t8, t9⟩ := z
    cases s <;> cases s' <;> cases s'' <;> simp at * <;> omega
  · intro x y z h1 h2
    rw [← Bool.not_eq_true, key] at *
    obtain ⟨s, h, l, t1, t2, t3⟩ := x
    obtain ⟨s', h', l', t4, t5, t6⟩ := y
    obtain ⟨s'', h'', l'', t7, t8, t9⟩ := z
    cases s <;> cases s' <;> cases s'' <;> simp at * <;> omega
theorem rgCmp_lays (blk off size : Nat) (w : World) : CmpLays Tryz.prog 131 #[] rgC 6 rgCmp blk off size w :=
  fun _ _ _ _ x y => joinedCmp_any x y _
theorem isAggRg (w : World) : (isAgg (Tryz.pdqRg_ren.t 24)).run Tryz.prog w = .ok true w := by kernel_rfl
theorem sizeOfRg (w : World) : (Go.sizeOf (Tryz.pdqRg_ren.t 24)).run Tryz.prog w = .ok 6 w := by kernel_rfl
/-- slices.SortFunc over ranges, by where they begin. -/
theorem rg_sort (L : List Rg) (base : Nat) (v : Value) (w : World) (h : rgOwn w base v L) (hn : L.length < 1000000) (h0 : 0 < L.length) :
    Calls Tryz.prog 130 #[v, .func (.func 131) #[] #[]] w fun e w' => e = .returned (.tuple #[]) ∧ ∃ M, M.Perm L ∧ M.Pairwise (fun x y => ltOf rgCmp y x = false) ∧ rgOwn w' base v M ∧ w.grownBy w' v.ownBlock := by
  rcases id h.2 with ⟨h1, h2⟩ | ⟨g, cap, cur, rfl, hb, hg, _⟩
  · omega
  · have hH := rw_holds rgC_len h
    have hlt := (h.lt g rfl).2
    have eg : ∀ args w, (callFunc 131 args).run Tryz.prog w = .ok (.enter 131 args) w := enters_of Tryz.func131 (by kernel_rfl) rfl
    have hlen : L.toArray.size = L.length := List.size_toArray ..
    have hlim : Lib.bitLen L.length < 4611686018427387904 := Nat.lt_of_le_of_lt (Lib.bitLen_le L.length 62 (by omega) (by omega)) (by omega)
    have hcon := AnyQ.pdqsortCmpFunc_all Tryz.pdqRg 6 isAggRg sizeOfRg rgC rgCmp 131 #[] rgCmp_swo g 0 cap L.toArray w eg (rgCmp_lays g 0 _ w) ⟨rgC_len, fun x v hv => rgC_one x v hv, hH, hlt⟩ (L.toArray.size + 1) 0 L.toArray.size (Lib.bitLen L.length) L.toArray w (by omega) rfl (SWK.start hH) (Nat.zero_le _) (Nat.le_refl _) (by rw [hlen]; omega) hlim (Or.inl rfl)
    rw [hlen] at hcon
    change Calls Tryz.prog 183 _ _ _ at hcon
    have hbl := Tryz.bits_Len (L.length : Int) w (by omega) (by omega)
    rw [Int.toNat_natCast] at hbl
    have wr : IntKind.u64.wrap (L.length : Int) = L.length := by simp [IntKind.wrap, IntKind.bits, IntKind.signed]; omega
    have hso := Go.Sort.pdq_sorts (ltOf rgCmp) rgCmp_swo L.toArray 0 L.length (Lib.bitLen L.length) true true (Nat.zero_le _) (Nat.le_of_eq hlen.symm) (Or.inl rfl)
    generalize Go.Sort.pdq (ltOf rgCmp) L.toArray 0 L.length (Lib.bitLen L.length) true true = d' at hcon hso
    obtain ⟨⟨hsz, -, hp⟩, hso⟩ := hso
    rw [hlen] at hsz
    clear hH
    go_enter Tryz.func130, Tryz.ntmps130
    go_wp2_with fail
    refine hbl.mono ?_
    rintro e w1 ⟨rfl, rfl⟩
    go_wp2_with fail
    refine hcon.mono ?_
    rintro e w2 ⟨rfl, n, os, rfl⟩
    go_wp2_with fail
    go_end0
    obtain ⟨o1, o2⟩ := rw_sorted rgC_len h d' hsz n os
    have hpl : d'.toList.Perm L := by
      have e1 : d'.extract 0 L.length = d' := by rw [← hsz]; simp
      have e2 : L.toArray.extract 0 L.length = L.toArray := by simp
      rw [e1, e2] at hp
      simpa using hp
    refine ⟨rfl, d'.toList, hpl, ?_, ?_, o2⟩
    · rw [List.pairwise_iff_getElem]
      intro i j hi hj hij
      simp only [Array.length_toList] at hi hj
      have := hso i j (Nat.zero_le _) hij (by omega)
      rw [getElem!_pos d' i hi, getElem!_pos d' j hj] at this
      simpa using this
    · have hl : d'.toList.length = L.length := by simpa using hsz
      rw [hl] at o1
      show World.ownsRow _ _ _ _ _ _ _
      rw [hl]
      exact o1
end Go.Proofs.YtajifionclpphaaGreatDoor

namespace Go.Proofs.YtajifionclpphaaGreatDoor
open Go.RowKit Go.Hw
def tchB (x y : Rg) : Bool := x.six == y.six && (endA x.six2 x.hi2 x.lo2 || decide (spanC y.six y.hi y.lo x.six2 (nxH x.hi2 x.lo2) (nxL x.lo2) ≤ 0))
theorem tchB_iff {x y : Rg} (hx : okR x) (hy : okR y) (hle : keyA (fiR x) ≤ keyA (fiR y)) : tchB x y = true ↔ (rgS y).1 ≤ (rgS x).2 := by
  have ha := fam_apart
  have hfx := (keyA_lt hx.l)
  have hfy := (keyA_lt hy.f)
  have hfx1 := (keyA_lt hx.f)
  have e2 : (laR x).six = x.six := hx.six
  unfold tchB rgS
  simp only [Bool.and_eq_true, Bool.or_eq_true, beq_iff_eq, decide_eq_true_eq]
  have hend : endA x.six2 x.hi2 x.lo2 = decide (keyA (laR x) + 1 = famE x.six) := by
    show endA (laR x).six (laR x).hi (laR x).lo = _
    rw [end_key hx.l, e2]
  by_cases hs : x.six = y.six
  · have hy2 : keyA (fiR y) < famE x.six := by rw [hs]; exact hfy.2
    cases he : endA x.six2 x.hi2 x.lo2
    · obtain ⟨n1, n2⟩ := next_key hx.l he
      have hsp := spanC_key hy.f n2
      have h0 : spanC y.six y.hi y.lo x.six2 (nxH x.hi2 x.lo2) (nxL x.lo2) ≤ 0 ↔ keyA (fiR y) ≤ keyA (laR x) + 1 := by
        have h1 := hsp.2.2
        have h2 : keyA ⟨(laR x).six, nxH (laR x).hi (laR x).lo, nxL (laR x).lo⟩ = keyA (laR x) + 1 := n1
        rw [h2] at h1
        have h3 : spanC (fiR y).six (fiR y).hi (fiR y).lo (laR x).six (nxH (laR x).hi (laR x).lo) (nxL (laR x).lo) = spanC y.six y.hi y.lo x.six2 (nxH x.hi2 x.lo2) (nxL x.lo2) := rfl
        dsimp only at h1
        rw [h3] at h1
        omega
      rw [h0]
      constructor
      · rintro ⟨_, h | h⟩
        · cases h
        · exact h
      · intro h; exact ⟨hs, .inr h⟩
    · rw [hend, decide_eq_true_eq] at he
      constructor
      · intro _; omega
      · intro _; exact ⟨hs, .inl rfl⟩
  · constructor
    · rintro ⟨h, _⟩; exact absurd h hs
    · intro h
      exfalso
      have f1 := (rgS_fam hx).2
      have f2 := (rgS_fam hy).2
      have g1 := (rgS_fam hx).1
      have g2 := (rgS_fam hy).1
      unfold famOk at g1 g2
      rw [f1] at g1
      rw [f2] at g2
      unfold sixS at f1 f2
      unfold rgS at f1 f2 g1 g2
      dsimp only at f1 f2 g1 g2
      cases hx6 : x.six <;> cases hy6 : y.six <;> rw [hx6, hy6] at hs <;> simp [hx6, hy6] at f1 f2 g1 g2 hs <;> omega
set_option maxRecDepth 100000 in
set_option maxHeartbeats 1000000 in
theorem touches_any (x y : Rg) (w : World) (hx : fineA (laR x)) :
    Calls Tryz.prog 132 #[.agg (rgA x), .agg (rgA y)] w fun e w' => e = .returned (.bool (tchB x y)) ∧ Below w.heap.size w w' := by
  obtain ⟨b0, b1⟩ := rg_box (w := w) x y
  have HB := Lib.hid (((Below.refl w.heap.size w).alloc (Nat.le_refl _) (.cells (rgA x) 43 (0, 0))).alloc (by simp) (.cells (rgA y) 43 (0, 0)))
  unfold rgA at b0 b1 HB ⊢
  have hnx := fun W => next_any' x.six2 x.hi2 x.lo2 W hx
  have hcm := fun W => spanCompare_any y.six y.hi y.lo x.six2 (nxH x.hi2 x.lo2) (nxL x.lo2) W
  obtain ⟨r, hr⟩ : ∃ r, tchB x y = r := ⟨_, rfl⟩
  have HR := Lib.hid hr
  unfold tchB at hr
  obtain ⟨⟨a0, a1, a2, a3, a4, a5⟩, -⟩ := res6r b0
  obtain ⟨⟨d0, d1, d2, d3, d4, d5⟩, -⟩ := res6r b1
  have HB0 := Lib.hid b0
  have HB1 := Lib.hid b1
  clear b0 b1 hx
  by_cases hs : x.six = y.six
  · have hsb : (x.six == y.six) = true := by simp [hs]
    rw [show (x.six == y.six) = true by simp [hs], Bool.true_and] at hr
    clear hs
    cases he : endA x.six2 x.hi2 x.lo2
    · rw [he, Bool.false_or] at hr
      rw [he] at hnx
      simp only [Bool.false_eq_true, if_false, Bool.not_false] at hnx
      generalize nxH x.hi2 x.lo2 = nh at *
      generalize nxL x.lo2 = nl at *
      generalize spanC y.six y.hi y.lo x.six2 nh nl = c at *
      go_enter Tryz.func132, Tryz.ntmps132
      go_wp2_with fail
      generalize World.alloc _ _ = W at *
      refine (hnx W).mono ?_
      rintro e W2 ⟨rfl, hb2⟩
      have HB2 := Lib.hid (HB.out.trans (hb2.mono HB.out.size))
      have k0 := (hb2.cell (p := ⟨w.heap.size + 1, 0, none⟩) (lt_of_block HB1.out)).trans d0
      have k1 := (hb2.cell (p := ⟨w.heap.size + 1, 1, none⟩) (lt_of_block HB1.out)).trans d1
      have k2 := (hb2.cell (p := ⟨w.heap.size + 1, 2, none⟩) (lt_of_block HB1.out)).trans d2
      have hl2 : w.heap.size + 1 < W2.heap.size := Nat.lt_of_lt_of_le (lt_of_block HB1.out) hb2.size
      clear a0 a1 a2 a3 a4 a5 d0 d1 d2 d3 d4 d5 hb2 HB HB0 HB1
      have HB3 := Lib.hid (HB2.out.alloc HB2.out.size (.cells #[.bool x.six2, .int .u64 nh, .int .u64 nl] 30 (0, 0)))
      have HN3 := Lib.hid (heap_alloc_new W2 (.cells #[.bool x.six2, .int .u64 nh, .int .u64 nl] 30 (0, 0)))
      go_wp2_with fail
      refine (hcm _).mono ?_
      rintro e W4 ⟨rfl, hb4⟩
      have HB4 := Lib.hid (HB3.out.trans (hb4.mono HB3.out.size))
      clear hb4
      go_wp2_with fail
      go_ret
      exact ⟨by rw [HR.out, ← hr]; rfl, HB4.out⟩
    · rw [he, Bool.true_or] at hr
      subst hr
      rw [he] at hnx
      simp only [if_true, Bool.not_true] at hnx
      go_enter Tryz.func132, Tryz.ntmps132
      go_wp2_with fail
      generalize World.alloc _ _ = W at *
      refine (hnx W).mono ?_
      rintro e W2 ⟨rfl, hb2⟩
      have HB2 := Lib.hid (HB.out.trans (hb2.mono HB.out.size))
      clear a0 a1 a2 a3 a4 a5 d0 d1 d2 d3 d4 d5 hb2 HB HB0 HB1
      go_wp2_with fail
      go_ret
      exact ⟨by rw [HR.out]; rfl, HB2.out.alloc HB2.out.size _⟩
  · have hsb : (x.six == y.six) = false := by simp [hs]
    rw [show (x.six == y.six) = false by simp [hs], Bool.false_and] at hr
    clear hs
    subst hr
    go_enter Tryz.func132, Tryz.ntmps132
    go_wp2_with fail
    go_ret
    exact ⟨by rw [HR.out]; rfl, HB.out⟩
end Go.Proofs.YtajifionclpphaaGreatDoor

namespace Go.Proofs.YtajifionclpphaaGreatDoor
open Go.RowKit Go.Hw
theorem ins0 (v f : Value) (w : World) : Calls Tryz.prog 245 #[v, .int .i64 0, .int .i64 0, f] w fun e w' => e = .returned (.tuple #[]) ∧ w' = w := by
  have hw1 : IntKind.i64.wrap 1 = 1 := by decide
  go_enter Tryz.func245, Tryz.ntmps245
  go_wp2_with fail
  go_loopw [8, 9] (fun v8 _ wr => v8 = .int .i64 1 ∧ wr = w) (fun _ _ _ => 0)
  case atStart => exact ⟨rfl, rfl⟩
  case round =>
    obtain ⟨rfl, rfl⟩ := hrel
    go_wp2_with fail
    go_end0
    exact ⟨rfl, rfl⟩
theorem pdq0 (v f : Value) (w : World) : Calls Tryz.prog 183 #[v, .int .i64 0, .int .i64 0, .int .i64 0, f] w fun e w' => e = .returned (.tuple #[]) ∧ w' = w := by
  have hi := ins0 v f w
  go_enter Tryz.func183, Tryz.ntmps183
  go_wp2_with fail
  go_loopw [1, 2, 3, 10, 11] (fun v1 v2 _ _ _ wr => v1 = .int .i64 0 ∧ v2 = .int .i64 0 ∧ wr = w) (fun _ _ _ _ _ _ => 0)
  case atStart => exact ⟨rfl, rfl, rfl⟩
  case round =>
    obtain ⟨rfl, rfl, rfl⟩ := hrel
    go_wp2_with fail
    refine hi.mono ?_
    rintro e w' ⟨rfl, rfl⟩
    go_wp2_with fail
    refine bodyPost_ret (results_none rfl _ _ _) rfl ?_
    exact ⟨rfl, rfl⟩
theorem rg_sort0 (A : Option Addr) (cap : Nat) (f : Value) (w : World) : Calls Tryz.prog 130 #[.slice A 0 cap, f] w fun e w' => e = .returned (.tuple #[]) ∧ w' = w := by
  have hp := pdq0 (.slice A 0 cap) f w
  have hbl := Tryz.bits_Len 0 w (by omega) (by omega)
  rw [show Lib.bitLen (0 : Int).toNat = 0 from by decide] at hbl
  go_enter Tryz.func130, Tryz.ntmps130
  go_wp2_with fail
  refine hbl.mono ?_
  rintro e w1 ⟨rfl, rfl⟩
  go_wp2_with fail
  refine hp.mono ?_
  rintro e w1 ⟨rfl, rfl⟩
  go_wp2_with fail
  go_end0
  exact ⟨rfl, rfl⟩
end Go.Proofs.YtajifionclpphaaGreatDoor
