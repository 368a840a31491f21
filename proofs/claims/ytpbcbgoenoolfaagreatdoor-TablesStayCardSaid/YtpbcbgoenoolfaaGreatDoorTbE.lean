/- The order of addresses, with what it lays: slices.SortFunc over addresses. slices.Compact over addresses, exact (from EnQ). addr.Differ at right tables. -/
import Derived.Test.YtpbcbgoenoolfaaGreatDoorTbS
import Derived.Test.YtpbcbgoenoolfaaGreatDoorAdR
import Derived.Test.YtpbcbgoenoolfaaGreatDoorShelg
import Derived.Test.YtpbcbgoenoolfaaGreatDoorEnQ
import Derived.Test.YtpbcbgoenoolfaaGreatDoorDrS
import Derived.BigQuiet
namespace Go.Proofs.YtpbcbgoenoolfaaGreatDoor
open Go.RowKit Go.Hw
open Go.Sort (grow grow_grow alloc_eq_grow SWO HoldsK putRowK flatK PermIn SortedIn)

theorem spanCompare_grown (s : Bool) (h l : Int) (s' : Bool) (h' l' : Int) (w : World) :
    Calls Tryz.prog 47 #[.agg #[.bool s, .int .u64 h, .int .u64 l], .agg #[.bool s', .int .u64 h', .int .u64 l']] w fun e w' => e = .returned (.int .i64 (spanC s h l s' h' l')) ∧ ∃ q os, w' = grow (w.drewN q) os := by
  have b0 : ((w.alloc (addrBox s h l)).alloc (addrBox s' h' l')).heap[w.heap.size]? = some (addrBox s h l) := (heap_alloc_old _ _ (by simp)).trans (heap_alloc_new w _)
  have b1 : ((w.alloc (addrBox s h l)).alloc (addrBox s' h' l')).heap[w.heap.size + 1]? = some (addrBox s' h' l') := by
    have := heap_alloc_new (w.alloc (addrBox s h l)) (addrBox s' h' l')
    simp only [Re_size] at this
    exact this
  obtain ⟨x0, x1, x2, -⟩ := res3 b0
  obtain ⟨x3, x4, x5, -⟩ := res3 b1
  have hsz : w.heap.size + 2 ≤ ((w.alloc (addrBox s h l)).alloc (addrBox s' h' l')).heap.size := by simp
  unfold addrBox at x0 x1 x2 x3 x4 x5 hsz
  clear b0 b1
  by_cases hs : s = s'
  · subst hs
    have HF : Hid (spanC s h l s h' l' = orOf [cmpI h h', cmpI l l']) := Lib.hid (by unfold spanC; rw [if_pos rfl])
    have e1 : (s != s) = false := by simp
    go_enter Tryz.func47, Tryz.ntmps47
    go_wp2_with fail
    generalize hW : World.alloc _ _ = W at x0 x1 x2 x3 x4 x5 hsz ⊢
    have HW := Lib.hid hW
    clear hW
    have hl0 : w.heap.size < W.heap.size := by omega
    have hl1 : w.heap.size + 1 < W.heap.size := by omega
    go_region_held3 (fun w' => w'.cell? ⟨w.heap.size, 0, none⟩ = some (.bool s) ∧ w'.cell? ⟨w.heap.size, 1, none⟩ = some (.int .u64 h) ∧ w'.cell? ⟨w.heap.size, 2, none⟩ = some (.int .u64 l) ∧ w'.cell? ⟨w.heap.size + 1, 0, none⟩ = some (.bool s) ∧ w'.cell? ⟨w.heap.size + 1, 1, none⟩ = some (.int .u64 h') ∧ w'.cell? ⟨w.heap.size + 1, 2, none⟩ = some (.int .u64 l'))
      (first | exact ⟨x0, x1, x2, x3, x4, x5⟩ | ((repeat' apply And.intro) <;> (first | (go_simp; done) | with_reducible assumption)))
      (first
        | (go_at_call 86; refine (cmpU_any _ _ _).mono ?_; rintro e W2 ⟨rfl, rfl⟩)
        | (go_at_call 72; refine (or_any W.heap.size [cmpI h h', cmpI l l'] _ (by exact heap_alloc_new W _) 2 2 rfl (by simp)).mono ?_; rintro e W2 ⟨rfl, rfl⟩))
    go_wp2_with fail
    go_ret
    refine ⟨ret_eq HF.out.symm, 1, ?_⟩
    rw [← HW.out, alloc_eq_grow, alloc_eq_grow, alloc_eq_grow, grow_grow, grow_grow]
    exact ⟨_, rfl⟩
  · cases s <;> cases s'
    · exact absurd rfl hs
    · have HF : Hid (spanC false h l true h' l' = -1) := Lib.hid rfl
      clear hs
      go_enter Tryz.func47, Tryz.ntmps47
      go_wp2_with fail
      go_ret
      refine ⟨ret_eq HF.out.symm, 0, ?_⟩
      rw [alloc_eq_grow, alloc_eq_grow, grow_grow]
      exact ⟨_, rfl⟩
    · have HF : Hid (spanC true h l false h' l' = 1) := Lib.hid rfl
      clear hs
      go_enter Tryz.func47, Tryz.ntmps47
      go_wp2_with fail
      go_ret
      refine ⟨ret_eq HF.out.symm, 0, ?_⟩
      rw [alloc_eq_grow, alloc_eq_grow, grow_grow]
      exact ⟨_, rfl⟩
    · exact absurd rfl hs

theorem addrCompare_grown (s : Bool) (h l : Int) (s' : Bool) (h' l' : Int) (w : World) :
    Calls Tryz.prog 24 #[.agg #[.bool s, .int .u64 h, .int .u64 l], .agg #[.bool s', .int .u64 h', .int .u64 l']] w fun e w' => e = .returned (.int .i64 (spanC s h l s' h' l')) ∧ ∃ q os, w' = grow (w.drewN q) os := by
  generalize hc : spanC s h l s' h' l' = c
  have HC := Lib.hid hc
  clear hc
  go_enter Tryz.func24, Tryz.ntmps24
  go_wp2_with fail
  generalize hW : World.alloc _ _ = W
  have HW := Lib.hid hW
  clear hW
  refine (spanCompare_grown s h l s' h' l' W).mono ?_
  rintro e W2 ⟨rfl, q, os, rfl⟩
  rw [HC.out]
  go_wp2_with fail
  go_ret
  refine ⟨rfl, q, ?_⟩
  rw [← HW.out, alloc_eq_grow, alloc_eq_grow, grow_grow]
  exact ⟨_, grow_grow (w.drewN q) _ _⟩

/-- The order of addresses is a strict weak one. -/
def adCmp (x y : Ad) : Int := spanC x.six x.hi x.lo y.six y.hi y.lo
def adLt (x y : Ad) : Prop := (x.six = false ∧ y.six = true) ∨ (x.six = y.six ∧ (x.hi < y.hi ∨ (x.hi = y.hi ∧ x.lo < y.lo)))
theorem adCmp_lt (x y : Ad) : ltOf adCmp x y = true ↔ adLt x y := by
  obtain ⟨s, h, l⟩ := x
  obtain ⟨s', h', l'⟩ := y
  unfold ltOf adCmp adLt spanC
  simp only [decide_eq_true_eq]
  by_cases hs : s = s'
  · subst hs
    simp only [if_true, true_and]
    unfold orOf cmpI
    by_cases h1 : h < h' <;> by_cases h2 : h' < h <;> by_cases h3 : l < l' <;> by_cases h4 : l' < l <;> simp [h1, h2, h3, h4, orOf] <;> omega
  · cases s <;> cases s' <;> simp_all
theorem adSwo : SWO (ltOf adCmp) where
  irrefl x := by
    rw [← Bool.not_eq_true, adCmp_lt]
    unfold adLt
    rintro (⟨h1, h2⟩ | ⟨_, h | ⟨_, h⟩⟩)
    · rw [h1] at h2; exact absurd h2 (by decide)
    · omega
    · omega
  trans x y z h1 h2 := by
    rw [adCmp_lt] at *
    unfold adLt at *
    obtain ⟨s, h, l⟩ := x
    obtain ⟨s', h', l'⟩ := y
    obtain ⟨s'', h'', l''⟩ := z
    cases s <;> cases s' <;> cases s'' <;> simp at * <;> omega
  ntrans x y z h1 h2 := by
    rw [← Bool.not_eq_true, adCmp_lt] at *
    unfold adLt at *
    obtain ⟨s, h, l⟩ := x
    obtain ⟨s', h', l'⟩ := y
    obtain ⟨s'', h'', l''⟩ := z
    cases s <;> cases s' <;> cases s'' <;> simp at * <;> omega

instance : Inhabited Ad := ⟨noAd⟩
theorem flat_rwC {α : Type} [Inhabited α] {c : α → List Value} {k : Nat} (hc : ∀ x, (c x).length = k) (d : Array α) : (flatK c k d).toList = rwC c d.toList := by
  apply List.ext_getElem?
  intro j
  by_cases hj : j < d.size * k
  · have hk : 0 < k := by rcases Nat.eq_zero_or_pos k with h | h; · subst h; simp at hj
                          · exact h
    have hi : j / k < d.size := Nat.div_lt_of_lt_mul (by rwa [Nat.mul_comm] at hj)
    have hm : j / k * k + j % k = j := by rw [Nat.mul_comm]; exact Nat.div_add_mod j k
    have h2 := rwC_at (d := default) hc d.toList (j / k) (j % k) (by simpa using hi) (Nat.mod_lt _ hk)
    rw [hm] at h2
    rw [h2]
    have h1 := Go.Sort.get_flatK c k d j hj
    have hsz : j < (flatK c k d).size := by rw [Go.Sort.size_flatK]; exact hj
    rw [getElem!_pos (flatK c k d) j hsz] at h1
    rw [Array.getElem?_toList, Array.getElem?_eq_getElem hsz, h1]
    have e1 : d[j / k]! = d.toList.getD (j / k) default := by
      rw [getElem!_pos d (j / k) hi, List.getD_eq_getElem?_getD, List.getElem?_eq_getElem (by simpa using hi)]
      simp
    rw [e1]
    have hl : j % k < (c (d.toList.getD (j / k) default)).length := by rw [hc]; exact Nat.mod_lt _ hk
    rw [getElem!_pos (c (d.toList.getD (j / k) default)) (j % k) hl, List.getElem?_eq_getElem hl]
  · rw [List.getElem?_eq_none (by rw [Array.length_toList, Go.Sort.size_flatK]; omega), List.getElem?_eq_none (by rw [rwC_length hc, Array.length_toList]; omega)]
/-- An own row holds its flat cells. -/
theorem rw_holds {α : Type} [Inhabited α] {c : α → List Value} {k : Nat} (hc : ∀ x, (c x).length = k) {w : World} {base g cap : Nat} {T : TypeId} {L : List α} (h : w.ownsRow base T k (.slice (some ⟨g, 0, none⟩) L.length cap) L.length (rwC c L)) : HoldsK c k w g 0 L.toArray := by
  intro j hj
  rw [Go.Sort.size_flatK] at hj
  refine ⟨?_, rw_froz h _⟩
  have hadd : ∀ i, (⟨g, 0, none⟩ : Addr).add i = ⟨g, 0 + i, none⟩ := fun i => by unfold Addr.add; split <;> simp_all
  have hcl := h.cells (g := g) rfl j
  rw [hadd] at hcl
  apply hcl
  have := flat_rwC hc L.toArray
  rw [List.toList_toArray] at this
  rw [← this, Array.getElem?_toList, getElem?_pos _ _ (by rw [Go.Sort.size_flatK]; exact hj), getElem!_pos _ _ (by rw [Go.Sort.size_flatK]; exact hj)]
  rfl
/-- A sorted row is an own row still. -/
theorem rw_sorted {α : Type} [Inhabited α] {c : α → List Value} {k : Nat} (hc : ∀ x, (c x).length = k) {w : World} {base g cap : Nat} {T : TypeId} {L : List α} (h : w.ownsRow base T k (.slice (some ⟨g, 0, none⟩) L.length cap) L.length (rwC c L)) (M : Array α) (hM : M.size = L.length) (n : Nat) (os : Array Obj) :
    (sortWorldK c k w g 0 n M os).ownsRow base T k (.slice (some ⟨g, 0, none⟩) M.toList.length cap) M.toList.length (rwC c M.toList) ∧ w.grownBy (sortWorldK c k w g 0 n M os) (some g) := by
  have hlt := (h.lt g rfl).2
  rw [Array.length_toList, hM]
  constructor
  · obtain ⟨hl, ⟨h', _⟩ | ⟨g', cap', cur, h', hb, hg, hnc, hcm, hcs, ht⟩⟩ := h
    · simp at h'
    · simp only [Value.slice.injEq, Option.some.injEq, Addr.mk.injEq, and_true, true_and] at h'
      obtain ⟨rfl, rfl⟩ := h'
      refine ⟨by rw [rwC_length hc, Array.length_toList, hM], .inr ⟨g, cap, Go.Sort.putCells id 0 (flatK c k M) cur, rfl, hb, ?_, hnc, hcm, by simpa [Go.Sort.putCells] using hcs, ?_⟩⟩
      · show ((w.heap.modify g (Go.Sort.onCells (Go.Sort.putCells id 0 (flatK c k M)))) ++ os)[g]? = _
        rw [Array.getElem?_append_left (by simpa using hlt), Array.getElem?_modify, if_pos rfl, hg]
        rfl
      · rw [← flat_rwC hc]
        have hle := Nat.mul_le_mul_right k hnc
        have hfs : (flatK c k M).size = L.length * k := by rw [Go.Sort.size_flatK, hM]
        apply List.ext_getElem?
        intro j
        by_cases hj : j < L.length * k
        · rw [List.getElem?_take, if_pos hj, Array.getElem?_toList, Array.getElem?_toList]
          rw [getElem?_pos (flatK c k M) _ (by rw [hfs]; exact hj)]
          have hjc : j < cur.size := by omega
          simp only [Go.Sort.putCells, Array.getElem?_mapIdx]
          rw [getElem?_pos cur _ hjc]
          simp only [Option.map_some]
          rw [if_pos ⟨Nat.zero_le _, by rw [hfs]; omega⟩, Nat.sub_zero, getElem!_pos _ _ (by rw [hfs]; exact hj)]
          rfl
        · rw [List.getElem?_eq_none (by rw [List.length_take]; omega), List.getElem?_eq_none (by rw [Array.length_toList, hfs]; omega)]
  · refine ⟨rfl, rfl, rfl, ?_, ?_⟩
    · show w.heap.size ≤ ((w.heap.modify g _) ++ os).size
      simp
    · intro j hj hne
      show ((w.heap.modify g _) ++ os)[j]? = _
      rw [Array.getElem?_append_left (by simpa using hj), Array.getElem?_modify, if_neg (by rintro rfl; exact hne rfl)]

theorem adCmp_lays (blk off size : Nat) (w : World) : CmpLays Tryz.prog 24 #[] adC 3 adCmp blk off size w :=
  fun _ _ _ _ x y => addrCompare_grown x.six x.hi x.lo y.six y.hi y.lo _
theorem isAggAd (w : World) : (isAgg (Tryz.sortAd_ren.t 24)).run Tryz.prog w = .ok true w := by kernel_rfl
theorem sizeOfAd (w : World) : (Go.sizeOf (Tryz.sortAd_ren.t 24)).run Tryz.prog w = .ok 3 w := by kernel_rfl
/-- slices.SortFunc over addresses, by addr.Compare: the same ones. -/
theorem ad_sort (L : List Ad) (base : Nat) (v : Value) (w : World) (h : adOwn w base v L) (hn : L.length < 1000000) (h0 : 0 < L.length) :
    Calls Tryz.prog 23 #[v, .func (.func 24) #[] #[]] w fun e w' => e = .returned (.tuple #[]) ∧ ∃ M, M.Perm L ∧ adOwn w' base v M ∧ w.grownBy w' v.ownBlock := by
  rcases id h.2 with ⟨h1, h2⟩ | ⟨g, cap, cur, rfl, hb, hg, _⟩
  · omega
  · have hH := rw_holds adC_len h
    have hlt := (h.lt g rfl).2
    have eg : ∀ args w, (callFunc 24 args).run Tryz.prog w = .ok (.enter 24 args) w := enters_of Tryz.func24 (by kernel_rfl) rfl
    have hcon := AnyQ.slices_SortFunc Tryz.sortAd 3 isAggAd sizeOfAd adC adC_len (fun x v hv => adC_one x v hv) adCmp adSwo 24 #[] g 0 cap L.toArray w eg (adCmp_lays g 0 _ w) hH hlt (by rw [List.size_toArray]; omega)
    rw [List.size_toArray] at hcon
    change Calls Tryz.prog 23 _ _ _ at hcon
    refine hcon.mono ?_
    rintro e w' ⟨rfl, d', n, os, ⟨hsz, _, hp⟩, _, rfl⟩
    have hps : d'.size = L.length := by rw [hsz, List.size_toArray]
    obtain ⟨o1, o2⟩ := rw_sorted adC_len h d' hps n os
    have hpl : d'.toList.Perm L := by
      have e1 : d'.extract 0 L.length = d' := by rw [← hps]; simp
      have e2 : L.toArray.extract 0 L.length = L.toArray := by simp
      rw [e1, e2] at hp
      simpa using hp
    refine ⟨rfl, d'.toList, hpl, ?_, o2⟩
    have hl : d'.toList.length = L.length := by simpa using hps
    rw [hl] at o1
    show World.ownsRow _ _ _ _ _ _ _
    rw [hl]
    exact o1
end Go.Proofs.YtpbcbgoenoolfaaGreatDoor

namespace Go.Proofs.YtpbcbgoenoolfaaGreatDoor
open Go.RowKit Go.Hw
def adEqB (x y : Ad) : Bool := x.six == y.six && (x.hi == y.hi && x.lo == y.lo)
theorem adEqB_iff {x y : Ad} : adEqB x y = true ↔ x = y := by
  obtain ⟨s, h, l⟩ := x
  obtain ⟨s', h', l'⟩ := y
  simp [adEqB]
def adSo (w : World) (g cap : Nat) (M : List Ad) (wr : World) : Prop := w.grownBy wr (some g) ∧ adOwn wr 0 (.slice (some ⟨g, 0, none⟩) M.length cap) M
theorem adSo.drewN {w wr : World} {g cap : Nat} {M : List Ad} (h : adSo w g cap M wr) (n : Nat) : adSo w g cap M (wr.drewN n) := ⟨⟨h.1.os, h.1.tape, h.1.output, h.1.size, h.1.block⟩, rw_same h.2 fun _ _ => rfl⟩
theorem adSo.drew {w wr : World} {g cap : Nat} {M : List Ad} (h : adSo w g cap M wr) : adSo w g cap M wr.drew := ⟨⟨h.1.os, h.1.tape, h.1.output, h.1.size, h.1.block⟩, rw_same h.2 fun _ _ => rfl⟩
theorem adSo.below {w wr wq : World} {g cap : Nat} {M : List Ad} (h : adSo w g cap M wr) (hb : Below wr.heap.size wr wq) : adSo w g cap M wq := ⟨h.1.andThen (grownB hb _) (fun _ h => .inr h), rw_same h.2 fun k hk => hb.block k (h.2.lt k hk).2⟩
theorem adSo.cells {w wr : World} {g cap : Nat} {M : List Ad} (h : adSo w g cap M wr) {i : Nat} (hi : i < M.length) {x : Ad} (hx : M.getD i noAd = x) : RwCells wr g (i * 3) (adC x) := by
  obtain ⟨g5, off, e1, _, hc⟩ := rw_at' (d := noAd) adC_len h.2 i hi
  injection e1 with e1
  simp only [Addr.mk.injEq, and_true] at e1
  obtain ⟨rfl, rfl⟩ := e1
  rwa [hx, Nat.zero_add] at hc
set_option maxRecDepth 100000 in
set_option maxHeartbeats 4000000 in
theorem ad_compact (gb cap : Nat) (L : List Ad) (w : World)
    (h : adOwn w 0 (.slice (some ⟨gb, 0, none⟩) L.length cap) L) (hl : L.length ≤ 1000000) :
    Calls Tryz.prog 25 #[.slice (some ⟨gb, 0, none⟩) L.length cap] w
      fun e w' => ∃ L', L' = dedT adEqB noAd L L.length ∧ e = .returned (.slice (some ⟨gb, 0, none⟩) L'.length cap) ∧ adSo w gb cap L' w' := by
  have H0 : Hid (adSo w gb cap L w) := Lib.hid ⟨World.grownBy.refl _ _, h⟩
  clear h
  by_cases h2 : L.length < 2
  · have d2 : decide ((L.length : Int) < 2) = true := by simp; omega
    go_enter Tryz.func25, Tryz.ntmps25
    go_wp2_with fail
    go_ret
    exact ⟨L, by rw [dedT_all _ (Nat.le_refl _) (fun j hj => by omega), List.take_length], rfl, H0.out⟩
  · have d2 : decide ((L.length : Int) < 2) = false := by simp; omega
    go_enter Tryz.func25, Tryz.ntmps25
    go_wp2_with fail
    go_loopw [3] (fun v5 wr => ∃ a : Nat, a + 1 ≤ L.length ∧ v5 = .int .i64 ((a : Int) + 1) ∧ (∀ t, t < a → adEqB (L.getD (t + 1) noAd) (L.getD t noAd) = false) ∧ adSo w gb cap L wr) (fun v5 _ => L.length - (intOf v5).toNat)
    case atStart => exact ⟨0, by omega, rfl, fun t ht => by omega, H0.out⟩
    case round =>
      obtain ⟨a, hk, rfl, hpre, hso⟩ := hrel
      have HPRE := Lib.hid hpre
      clear hpre
      by_cases hlt : a + 1 < L.length
      · have hdc : decide ((a : Int) + 1 < (L.length : Int)) = true := by simp; omega
        have hlt' : (a : Int) + 1 < (L.length : Int) := by omega
        have hlt2 : (a : Int) < (L.length : Int) := by omega
        have HSO := Lib.hid hso
        clear hso
        go_upto_region 6 with (fail)
        have hxm : L.getD (a + 1) noAd ∈ L := rw_mem hlt
        have hym : L.getD a noAd ∈ L := rw_mem (by omega)
        obtain ⟨x, hx⟩ : ∃ x, L.getD (a + 1) noAd = x := ⟨_, rfl⟩
        obtain ⟨y, hy⟩ : ∃ y, L.getD a noAd = y := ⟨_, rfl⟩
        have HCX := Lib.hid (HSO.out.cells hlt hx)
        have HCY := Lib.hid (HSO.out.cells (i := a) (by omega) hy)
        rw [hx] at hxm
        rw [hy] at hym
        have hgl : gb < wr.heap.size := rw_lt HSO.out.2 rfl
        have wa : IntKind.i64.wrap (a : Int) = (a : Int) := IntWalk.i64_in _ (by omega)
        have wa2 : IntKind.i64.wrap ((a : Int) + 1 - 1) = (a : Int) := by rw [show (a : Int) + 1 - 1 = a by omega]; exact wa
        have tn : ((a : Int) + 1).toNat = a + 1 := by omega
        have s4 : 0 ≤ (a : Int) + 1 := by omega
        have hlt4 : (a : Int) + 1 < (L.length : Int) := hlt'
        obtain ⟨cv, hcv⟩ : ∃ cv : Bool, adEqB x y = cv := ⟨_, rfl⟩
        have HCV := Lib.hid hcv
        have HXY : Hid (adEqB (L.getD (a + 1) noAd) (L.getD a noAd) = cv) := Lib.hid (by rw [hx, hy]; exact hcv)
        clear hx hy hxm hym hcv
        obtain ⟨x1, x2, x3⟩ := ad_cells HCX.out
        obtain ⟨y1, y2, y3⟩ := ad_cells HCY.out
        have hq := fun W => (run_eq_addr 9998 x.six y.six x.hi y.hi x.lo y.lo W).trans (show _ = Result.ok cv W from by rw [← HCV.out]; rfl)
        have hgd := guard_addr
        go_cut [25] from 16 to 25 (fun v25 wx => v25 = .bool cv ∧ Below wr.heap.size wr wx)
        case first J K2 hJ hK =>
          go_quiet (fail)
          refine hK _ _ (hJ _ _ ⟨_, _, _, _, _, _, _, _, _, _, ⟨rfl, ⟨rfl, rfl, rfl, Nat.le_refl _, fun _ _ => rfl⟩⟩, rfl⟩)
        case rest =>
        obtain ⟨rfl, hbc⟩ := hcut
        obtain ⟨W1, rfl⟩ : ∃ W1 : World, W1 = wc := ⟨_, rfl⟩
        have HS1 := Lib.hid (HSO.out.below hbc)
        clear hbc
        cases cv
        · have q1 : IntKind.i64.wrap ((a : Int) + 1 + 1) = (a : Int) + 1 + 1 := IntWalk.i64_in _ (by omega)
          go_wp2_with fail
          go_roundw
          case rel => exact ⟨a + 1, by omega, by go_num, fun t ht => (by
            by_cases e : t = a
            · rw [e]; exact HXY.out
            · exact HPRE.out t (by omega)), HS1.out⟩
          case measure => simp [intOf]; omega
        · have ncap : ¬ cap = a + 1 := by have := rw_cap HS1.out.2; omega
          have q0 : IntKind.i64.wrap ((a : Int) + 1) = (a : Int) + 1 := IntWalk.i64_in _ (by omega)
          go_upto_region 8 with (fail)
          go_wp2_with fail
          go_loopw [3, 5] (fun v5 v7 wq => ∃ (b j : Nat) (M : List Ad), M.length = L.length ∧ ((∀ z ∈ M, z ∈ L) ∧ M.take (a + 1 + b) = dedT adEqB noAd L (a + 1 + (j + 1)) ∧ ∀ k, a + 1 + j ≤ k → M.getD k noAd = L.getD k noAd) ∧ b ≤ j ∧ a + 1 + (j + 1) ≤ L.length ∧ v5 = .int .i64 ((a : Int) + 1 + b) ∧ v7 = .int .i64 ((j : Int) + 1) ∧ adSo w gb cap M wq) (fun _ v7 _ => L.length - (intOf v7).toNat)
          case atStart =>
            refine ⟨0, 0, L, rfl, ⟨fun _ h => h, ?_, fun _ _ => rfl⟩, Nat.le_refl _, by omega, by go_num, by go_num, HS1.out⟩
            rw [show a + 1 + (0 + 1) = a + 2 from rfl, dedT, if_pos HXY.out, List.append_nil, dedT_all (a + 1) (by omega) (fun t ht => HPRE.out t (by omega))]
          case round =>
            obtain ⟨b, j, M, hML, hMm, hbj, hj, rfl, rfl, hso⟩ := hrel
            have HSO2 := Lib.hid hso
            have HML := Lib.hid hML
            have HMX := Lib.hid hMm.2
            have HMm := Lib.hid hMm.1
            clear hso hML hMm
            by_cases hlt9 : a + 1 + (j + 1) < L.length
            · have hd9 : decide ((j : Int) + 1 < ((L.length - (a + 1) : Nat) : Int)) = true := by simp; omega
              go_upto_region 11 with (fail)
              have hxm := HMm.out _ (rw_mem (L := M) (d := noAd) (i := a + 1 + (j + 1)) (by rw [HML.out]; omega))
              have hym := HMm.out _ (rw_mem (L := M) (d := noAd) (i := a + 1 + j) (by rw [HML.out]; omega))
              obtain ⟨x, hx⟩ : ∃ x, M.getD (a + 1 + (j + 1)) noAd = x := ⟨_, rfl⟩
              obtain ⟨y, hy⟩ : ∃ y, M.getD (a + 1 + j) noAd = y := ⟨_, rfl⟩
              have HCX2 : Hid (RwCells wr gb ((a + 1) * 3 + (j + 1) * 3) (adC x)) := Lib.hid (by
                have := HSO2.out.cells (i := a + 1 + (j + 1)) (by rw [HML.out]; omega) hx
                rwa [Nat.add_mul (a + 1) (j + 1)] at this)
              have HCY2 : Hid (RwCells wr gb ((a + 1) * 3 + j * 3) (adC y)) := Lib.hid (by
                have := HSO2.out.cells (i := a + 1 + j) (by rw [HML.out]; omega) hy
                rwa [Nat.add_mul (a + 1) j] at this)
              rw [hx] at hxm
              rw [hy] at hym
              have HXL := Lib.hid hxm
              have hgl2 : gb < wr.heap.size := rw_lt HSO2.out.2 rfl
              have wj : IntKind.i64.wrap (j : Int) = (j : Int) := IntWalk.i64_in _ (by omega)
              have wj2 : IntKind.i64.wrap ((j : Int) + 1 - 1) = (j : Int) := by rw [show (j : Int) + 1 - 1 = j by omega]; exact wj
              have tj : ((j : Int) + 1).toNat = j + 1 := by omega
              have sj : 0 ≤ (j : Int) + 1 := by omega
              have lj : (j : Int) + 1 < ((L.length - (a + 1) : Nat) : Int) := by omega
              have lj2 : (j : Int) < ((L.length - (a + 1) : Nat) : Int) := by omega
              obtain ⟨cv, hcv⟩ : ∃ cv : Bool, (!adEqB x y) = cv := ⟨_, rfl⟩
              have HCV2 := Lib.hid hcv
              have HXY2 : Hid ((!adEqB (L.getD (a + 1 + j + 1) noAd) (L.getD (a + 1 + j) noAd)) = cv ∧ x = L.getD (a + 1 + j + 1) noAd) := Lib.hid (by
                have e1 := HMX.out.2 (a + 1 + (j + 1)) (by omega)
                have e2 := HMX.out.2 (a + 1 + j) (Nat.le_refl _)
                rw [hx] at e1
                rw [hy] at e2
                rw [show a + 1 + j + 1 = a + 1 + (j + 1) by omega, ← e1, ← e2]
                exact ⟨hcv, rfl⟩)
              clear hx hy hxm hym hcv
              obtain ⟨x4, x5, x6⟩ := ad_cells HCX2.out
              obtain ⟨y4, y5, y6⟩ := ad_cells HCY2.out
              have hq := fun W => (run_eq_addr 9998 x.six y.six x.hi y.hi x.lo y.lo W).trans (show _ = Result.ok (adEqB x y) W from rfl)
              have hgd := guard_addr
              go_cut [44] from 35 to 44 (fun v44 wx => v44 = .bool cv ∧ Below wr.heap.size wr wx)
              case first J3 K3 hJ3 hK3 =>
                go_quiet (fail)
                refine hK3 _ _ (hJ3 _ _ ⟨_, _, _, _, _, _, _, _, _, _, ⟨by rw [← HCV2.out], ⟨rfl, rfl, rfl, Nat.le_refl _, fun _ _ => rfl⟩⟩, rfl⟩)
              case rest =>
              obtain ⟨rfl, hbc⟩ := hcut
              obtain ⟨W2, rfl⟩ : ∃ W2 : World, W2 = wc := ⟨_, rfl⟩
              have HS2 := Lib.hid (HSO2.out.below hbc)
              have HCX3 := Lib.hid (HCX2.out.keep (fun p hp => World.cell?_of_block (w := wr) (hbc.block p.block (by rw [hp]; exact hgl2))))
              clear hbc
              have wj3 : IntKind.i64.wrap ((j : Int) + 1 + 1) = (j : Int) + 1 + 1 := IntWalk.i64_in _ (by omega)
              cases cv
              · go_wp2_with fail
                go_roundw
                case rel => exact ⟨b, j + 1, M, HML.out, ⟨HMm.out, by
                  rw [HMX.out.1, show a + 1 + (j + 1 + 1) = a + 1 + j + 2 by omega, show a + 1 + (j + 1) = a + 1 + j + 1 by omega, dedT, if_pos (by simpa using HXY2.out.1), List.append_nil], fun k hk => HMX.out.2 k (by omega)⟩, by omega, by omega, by go_num, by go_num, HS2.out⟩
                case measure => simp [intOf]; omega
              · have t5 : ((a : Int) + 1 + b).toNat = a + 1 + b := by omega
                have t6 : 0 ≤ (a : Int) + 1 + b := by omega
                have t8 : (a : Int) + 1 + b < (L.length : Int) := by omega
                have w8 : IntKind.i64.wrap ((a : Int) + 1 + b + 1) = (a : Int) + 1 + b + 1 := IntWalk.i64_in _ (by omega)
                have hso2 := HS2.out.2
                have hput := rw_put adC_len hso2 (a + 1 + b) x (by rw [HML.out]; omega)
                have hgs := rw_gsets (w := w) (g := gb) (adC x) ((a + 1 + b) * 3) W2 HS2.out.1
                have hxM : x ∈ L := HXL.out
                have HNW : Hid (adSo w gb cap (M.set (a + 1 + b) x) (W2.setCells gb ((a + 1 + b) * 3) (adC x))) := Lib.hid ⟨hgs, hput⟩
                have HSTC : Hid (∀ j', j' < (adC x).length → (W2.cell? ⟨gb, (a + 1 + b) * 3 + j', none⟩).isSome = true) := Lib.hid (fun j' hj' => rw_some hso2 (by rw [HML.out]; have : (adC x).length = 3 := rfl; omega))
                have HFZ : Hid (∀ j', W2.frozen? ⟨gb, j', none⟩ = false) := Lib.hid (fun j' => rw_froz hso2 j')
                clear hput hgs hso2
                go_upto_region 12 with (fail)
                first | refine load_stepR rfl HCX3.out (by kernel_rfl) rfl (by kernel_rfl) ?_ | (go_step; first | refine load_stepR rfl HCX3.out (by kernel_rfl) rfl (by kernel_rfl) ?_ | (go_step; first | refine load_stepR rfl HCX3.out (by kernel_rfl) rfl (by kernel_rfl) ?_ | (go_step; first | refine load_stepR rfl HCX3.out (by kernel_rfl) rfl (by kernel_rfl) ?_ | (go_step; first | refine load_stepR rfl HCX3.out (by kernel_rfl) rfl (by kernel_rfl) ?_ | (go_step; first | refine load_stepR rfl HCX3.out (by kernel_rfl) rfl (by kernel_rfl) ?_ | (go_step; first | refine load_stepR rfl HCX3.out (by kernel_rfl) rfl (by kernel_rfl) ?_ | (go_step; first | refine load_stepR rfl HCX3.out (by kernel_rfl) rfl (by kernel_rfl) ?_ | (go_step; first | refine load_stepR rfl HCX3.out (by kernel_rfl) rfl (by kernel_rfl) ?_ | (go_step; first | refine load_stepR rfl HCX3.out (by kernel_rfl) rfl (by kernel_rfl) ?_ | (go_step; first | refine load_stepR rfl HCX3.out (by kernel_rfl) rfl (by kernel_rfl) ?_ | (go_step; first | refine load_stepR rfl HCX3.out (by kernel_rfl) rfl (by kernel_rfl) ?_ | (go_step; first | refine load_stepR rfl HCX3.out (by kernel_rfl) rfl (by kernel_rfl) ?_ | (go_step; first | refine load_stepR rfl HCX3.out (by kernel_rfl) rfl (by kernel_rfl) ?_ | (go_step; first | refine load_stepR rfl HCX3.out (by kernel_rfl) rfl (by kernel_rfl) ?_ | (go_step; first | refine load_stepR rfl HCX3.out (by kernel_rfl) rfl (by kernel_rfl) ?_ | (go_step; first | refine load_stepR rfl HCX3.out (by kernel_rfl) rfl (by kernel_rfl) ?_ | (go_step; first | refine load_stepR rfl HCX3.out (by kernel_rfl) rfl (by kernel_rfl) ?_ | (go_step; first | refine load_stepR rfl HCX3.out (by kernel_rfl) rfl (by kernel_rfl) ?_ | (go_step; first | refine load_stepR rfl HCX3.out (by kernel_rfl) rfl (by kernel_rfl) ?_ | (go_step; first | refine load_stepR rfl HCX3.out (by kernel_rfl) rfl (by kernel_rfl) ?_ | (go_step; first | refine load_stepR rfl HCX3.out (by kernel_rfl) rfl (by kernel_rfl) ?_ | (go_step; first | refine load_stepR rfl HCX3.out (by kernel_rfl) rfl (by kernel_rfl) ?_ | (go_step; first | refine load_stepR rfl HCX3.out (by kernel_rfl) rfl (by kernel_rfl) ?_ | (go_step; first | refine load_stepR rfl HCX3.out (by kernel_rfl) rfl (by kernel_rfl) ?_ | (go_step; first | refine load_stepR rfl HCX3.out (by kernel_rfl) rfl (by kernel_rfl) ?_ | (go_step; refine load_stepR rfl HCX3.out (by kernel_rfl) rfl (by kernel_rfl) ?_))))))))))))))))))))))))))
                first | refine store_stepR (vs := adC x) rfl rfl HSTC.out HFZ.out rfl (by kernel_rfl) (adC_one x) ?_ | (go_step; first | refine store_stepR (vs := adC x) rfl rfl HSTC.out HFZ.out rfl (by kernel_rfl) (adC_one x) ?_ | (go_step; first | refine store_stepR (vs := adC x) rfl rfl HSTC.out HFZ.out rfl (by kernel_rfl) (adC_one x) ?_ | (go_step; first | refine store_stepR (vs := adC x) rfl rfl HSTC.out HFZ.out rfl (by kernel_rfl) (adC_one x) ?_ | (go_step; first | refine store_stepR (vs := adC x) rfl rfl HSTC.out HFZ.out rfl (by kernel_rfl) (adC_one x) ?_ | (go_step; first | refine store_stepR (vs := adC x) rfl rfl HSTC.out HFZ.out rfl (by kernel_rfl) (adC_one x) ?_ | (go_step; first | refine store_stepR (vs := adC x) rfl rfl HSTC.out HFZ.out rfl (by kernel_rfl) (adC_one x) ?_ | (go_step; first | refine store_stepR (vs := adC x) rfl rfl HSTC.out HFZ.out rfl (by kernel_rfl) (adC_one x) ?_ | (go_step; first | refine store_stepR (vs := adC x) rfl rfl HSTC.out HFZ.out rfl (by kernel_rfl) (adC_one x) ?_ | (go_step; first | refine store_stepR (vs := adC x) rfl rfl HSTC.out HFZ.out rfl (by kernel_rfl) (adC_one x) ?_ | (go_step; first | refine store_stepR (vs := adC x) rfl rfl HSTC.out HFZ.out rfl (by kernel_rfl) (adC_one x) ?_ | (go_step; first | refine store_stepR (vs := adC x) rfl rfl HSTC.out HFZ.out rfl (by kernel_rfl) (adC_one x) ?_ | (go_step; first | refine store_stepR (vs := adC x) rfl rfl HSTC.out HFZ.out rfl (by kernel_rfl) (adC_one x) ?_ | (go_step; first | refine store_stepR (vs := adC x) rfl rfl HSTC.out HFZ.out rfl (by kernel_rfl) (adC_one x) ?_ | (go_step; first | refine store_stepR (vs := adC x) rfl rfl HSTC.out HFZ.out rfl (by kernel_rfl) (adC_one x) ?_ | (go_step; first | refine store_stepR (vs := adC x) rfl rfl HSTC.out HFZ.out rfl (by kernel_rfl) (adC_one x) ?_ | (go_step; first | refine store_stepR (vs := adC x) rfl rfl HSTC.out HFZ.out rfl (by kernel_rfl) (adC_one x) ?_ | (go_step; first | refine store_stepR (vs := adC x) rfl rfl HSTC.out HFZ.out rfl (by kernel_rfl) (adC_one x) ?_ | (go_step; first | refine store_stepR (vs := adC x) rfl rfl HSTC.out HFZ.out rfl (by kernel_rfl) (adC_one x) ?_ | (go_step; first | refine store_stepR (vs := adC x) rfl rfl HSTC.out HFZ.out rfl (by kernel_rfl) (adC_one x) ?_ | (go_step; refine store_stepR (vs := adC x) rfl rfl HSTC.out HFZ.out rfl (by kernel_rfl) (adC_one x) ?_))))))))))))))))))))
                generalize World.setCells _ _ _ _ = WN at HNW ⊢
                go_wp2_with fail
                go_roundw
                case rel => exact ⟨b + 1, j + 1, M.set (a + 1 + b) x, by rw [List.length_set]; exact HML.out, ⟨fun z hz => (List.mem_or_eq_of_mem_set hz).elim (fun h => HMm.out z h) (fun h => h ▸ HXL.out), by
                  rw [show a + 1 + (j + 1 + 1) = a + 1 + j + 2 by omega, dedT, if_neg (by simpa using HXY2.out.1), show a + 1 + j + 1 = a + 1 + (j + 1) by omega, ← HMX.out.1, show a + 1 + (b + 1) = a + 1 + b + 1 by omega, List.take_succ_eq_append_getElem (by rw [List.length_set, HML.out]; omega), List.take_set_of_le (Nat.le_refl _), List.getElem_set_self, show a + 1 + (j + 1) = a + 1 + j + 1 by omega, HXY2.out.2], fun k hk => (by
                  rw [List.getD_eq_getElem?_getD, List.getElem?_set_ne (by omega), ← List.getD_eq_getElem?_getD]
                  exact HMX.out.2 k (by omega))⟩, by omega, by omega, by go_num, by go_num, HNW.out⟩
                case measure => simp [intOf]; omega
            · have hd9 : decide ((j : Int) + 1 < ((L.length - (a + 1) : Nat) : Int)) = false := by simp; omega
              have hkl : a + 1 + b < L.length := by omega
              have ncap2 : ¬ cap = a + 1 + b := by have := rw_cap HSO2.out.2; rw [HML.out] at this; omega
              have ncap3 : a + 1 + b ≤ cap := by have := rw_cap HSO2.out.2; rw [HML.out] at this; omega
              have t5 : ((a : Int) + 1 + b).toNat = a + 1 + b := by omega
              have t6 : 0 ≤ (a : Int) + 1 + b := by omega
              have t7 : (a : Int) + 1 + b ≤ (cap : Int) := by omega
              have t8 : (a : Int) + 1 + b ≤ (L.length : Int) := by omega
              have hcl := fun ty => ad_clear wr ty gb ((a + 1 + b) * 3) (L.length - (a + 1 + b)) (cap - (a + 1 + b)) (by omega) (fun t ht => rw_some HSO2.out.2 (by rw [HML.out]; omega)) (fun t _ => rw_froz HSO2.out.2 _)
              have hsc := rw_setCells (Builtin.zeroCells adZ (L.length - (a + 1 + b))).toList ((a + 1 + b) * 3) wr _ (rw_cut HSO2.out.2 (k := a + 1 + b) (by rw [HML.out]; omega))
              have hl9 : (M.take (a + 1 + b)).length = a + 1 + b := by rw [List.length_take, HML.out]; omega
              rw [rwC_take adC_len, rwSets_far _ _ _ (Nat.le_of_eq ((rwC_length adC_len _).trans (by rw [hl9])))] at hsc
              have hsg := rw_gsets (w := wr) (g := gb) (Builtin.zeroCells adZ (L.length - (a + 1 + b))).toList ((a + 1 + b) * 3) wr (World.grownBy.refl wr _)
              have HSC := Lib.hid hsc
              have HSG := Lib.hid hsg
              have HL9 := Lib.hid hl9
              clear hsc hsg hl9
              go_upto_region 14 with (fail)
              go_wp2_with fail
              go_ret
              exact ⟨M.take (a + 1 + b), by rw [HMX.out.1, show a + 1 + (j + 1) = L.length by omega], by rw [HL9.out]; rfl, HSO2.out.1.andThen HSG.out (fun _ h => .inr h), by unfold adOwn; rw [HL9.out]; exact HSC.out⟩
      · have hdc : decide ((a : Int) + 1 < (L.length : Int)) = false := by simp; omega
        have HSO := Lib.hid hso
        clear hso
        go_wp2_with fail
        go_ret
        exact ⟨L, by rw [dedT_all _ (Nat.le_refl _) (fun t ht => HPRE.out t (by omega)), List.take_length], rfl, HSO.out⟩
end Go.Proofs.YtpbcbgoenoolfaaGreatDoor

namespace Go.Proofs.YtpbcbgoenoolfaaGreatDoor
open Go.RowKit Go.Hw
theorem heap_setI {w : World} {b : Nat} {cs : Array Value} {t : TypeId} {l} (h : w.heap[b]? = some (.cells cs t l)) (i : Nat) (v : Value) : (w.setCell ⟨b, i, none⟩ v).heap[b]? = some (.cells (cs.setIfInBounds i v) t l) := by
  simp [World.setCell, Array.getElem?_modify, h]
theorem put3 {B0 b : Nat} {w V : World} {t : TypeId} {l} {z0 z1 z2 : Value} (v0 v1 v2 : Value) (hb : Below B0 w V) (hB : B0 ≤ b) (hz : V.heap[b]? = some (.cells #[z0, z1, z2] t l)) :
    Below B0 w (((V.setCell ⟨b, 0, none⟩ v0).setCell ⟨b, 1, none⟩ v1).setCell ⟨b, 2, none⟩ v2) ∧ (((V.setCell ⟨b, 0, none⟩ v0).setCell ⟨b, 1, none⟩ v1).setCell ⟨b, 2, none⟩ v2).heap[b]? = some (.cells #[v0, v1, v2] t l) := by
  constructor
  · iterate 3 refine Below.setCell ?_ hB _
    exact hb
  · have h := heap_setI (heap_setI (heap_setI hz 0 v0) 1 v1) 2 v2
    simpa using h
/-- The result's block stands. -/
structure LzI (w : World) (o : Obj) (W : World) : Prop where
  below : Below w.heap.size w W
  blk : W.heap[w.heap.size]? = some o
theorem LzI.start (w : World) (o : Obj) : LzI w o (w.alloc o) := ⟨(Below.refl _ _).alloc (Nat.le_refl _) _, heap_alloc_new _ _⟩
theorem LzI.call {w W W' : World} {o : Obj} (h : LzI w o W) (hb : Below W.heap.size W W') : LzI w o W' :=
  ⟨h.below.trans (hb.mono h.below.size), (hb.block _ (lt_of_block h.blk)).trans h.blk⟩
theorem LzI.grown {w W W' : World} {o : Obj} {row : Option Nat} (h : LzI w o W) (hg : W.grownBy W' row) (hr : ∀ k, row = some k → w.heap.size < k) : LzI w o W' :=
  ⟨h.below.grown hg h.below.size (fun k hk => Nat.le_of_lt (hr k hk)), (hg.block _ (lt_of_block h.blk) (fun e => Nat.lt_irrefl _ (hr _ e.symm))).trans h.blk⟩
theorem LzI.lt {w W : World} {o : Obj} (h : LzI w o W) : w.heap.size < W.heap.size := lt_of_block h.blk
theorem idxT0 (v0 v1 : Value) (w : World) : (Instr.index 58 (.agg #[v0, v1]) (.int .i64 0)).run Tryz.prog w = .ok v0 w := by kernel_rfl
theorem idxT1 (v0 v1 : Value) (w : World) : (Instr.index 58 (.agg #[v0, v1]) (.int .i64 1)).run Tryz.prog w = .ok v1 w := by kernel_rfl
/-- What a table says at an address. -/
def atE (L : List En) (x : Ad) : ByteArray := toE (bestE (hasE x.six x.hi x.lo) L)
theorem edgE_fine {L : List En} (ht : TblOk L) : ∀ x ∈ edgE L, AddrFine x.six x.hi x.lo := by
  intro x hx
  unfold edgE at hx
  rcases List.mem_append.1 hx with h | h
  · simp only [List.mem_cons, List.not_mem_nil, or_false] at h
    rcases h with rfl | rfl
    · exact ⟨by decide, by decide, fun _ => by decide⟩
    · exact ⟨by decide, by decide, fun e => by cases e⟩
  · obtain ⟨e, he, hx⟩ := List.mem_flatMap.1 h
    have hr := ht.right e he
    unfold edE at hx
    rcases List.mem_cons.1 hx with rfl | hx
    · exact hr.1
    · obtain ⟨m, hm, hm2, hn, hfl⟩ := last_num hr
      have hLE : lastE e = ⟨e.six, fil e.hi (m - 64), fil e.lo (min 64 m)⟩ := by unfold lastE; rw [show (lenA e.six - e.bits).toNat = m by omega]
      rw [hLE] at hx
      cases hq : endA e.six (fil e.hi (m - 64)) (fil e.lo (min 64 m))
      · rw [if_neg (by simp [hq])] at hx
        simp only [List.mem_cons, List.not_mem_nil, or_false] at hx
        rw [hx]
        exact (nx_num hfl hq).2
      · rw [if_pos (by simp [hq])] at hx
        simp at hx
theorem edgE_len2 (L : List En) : 2 ≤ (edgE L).length := by unfold edgE; simp
set_option maxRecDepth 100000 in
set_option maxHeartbeats 4000000 in
theorem differ_right (A B : Option Addr) (ca cb : Nat) (T U : List En) (w : World) (hT : enAt w A T) (hU : enAt w B U) (tT : TblOk T) (tU : TblOk U) :
    Calls Tryz.prog 7 #[.slice A T.length ca, .slice B U.length cb] w fun e w' => ∃ (r : Ad) (is : Bool), e = .returned (.tuple #[.agg #[.bool r.six, .int .u64 r.hi, .int .u64 r.lo], .bool is, .int .i64 0]) ∧ Below w.heap.size w w' ∧
      (is = true → AddrFine r.six r.hi r.lo ∧ ¬ (atE T r).toList = (atE U r).toList) ∧ (is = false → ∀ x ∈ edgE T ++ edgE U, (atE T x).toList = (atE U x).toList) := by
  obtain ⟨i0, hi0, hz0, hz1, hz2⟩ := info_parts ad_info
  have HTT := Lib.hid tT
  have HTU := Lib.hid tU
  have HAT := Lib.hid hT
  have HAU := Lib.hid hU
  have HZ := Lib.hid (LzI.start w (addrBox false 0 0))
  unfold addrBox at HZ
  clear hT hU tT tU
  go_enter Tryz.func7, Tryz.ntmps7
  go_wp2_with fail
  generalize World.alloc w _ = W at HZ ⊢
  go_loopw [8, 9, 16] (fun _ _ v16 wr => ∃ k : Nat, k ≤ 2 ∧ v16 = .int .i64 k ∧ LzI w (.cells #[.bool false, .int .u64 0, .int .u64 0] 30 (0, 0)) wr) (fun _ _ v16 _ => 2 - (intOf v16).toNat)
  case atStart => exact ⟨0, Nat.zero_le _, rfl, HZ.out⟩
  case round =>
    obtain ⟨k, hk, rfl, hz⟩ := hrel
    have HZ := Lib.hid hz
    clear hz
    have hcase : k = 0 ∨ k = 1 ∨ k = 2 := by omega
    rcases hcase with rfl | rfl | rfl
    · have hix := idxT0 (.slice A T.length ca) (.slice B U.length cb)
      go_wp2_with fail
      refine (checkTable_right A ca T wr (HAT.out.below HZ.out.below) HTT.out).mono ?_
      rintro e w1 ⟨rfl, hb1⟩
      have HZ1 := Lib.hid (HZ.out.call hb1)
      clear hb1
      go_wp2_with fail
      exact ⟨⟨1, by omega, by simp, HZ1.out⟩, by simp [intOf]⟩
    · have hix := idxT1 (.slice A T.length ca) (.slice B U.length cb)
      go_wp2_with fail
      refine (checkTable_right B cb U wr (HAU.out.below HZ.out.below) HTU.out).mono ?_
      rintro e w1 ⟨rfl, hb1⟩
      have HZ1 := Lib.hid (HZ.out.call hb1)
      clear hb1
      go_wp2_with fail
      exact ⟨⟨2, by omega, by simp, HZ1.out⟩, by simp [intOf]⟩
    · go_wp2_with fail
      refine (edges_right A ca T wr (HAT.out.below HZ.out.below) HTT.out).mono ?_
      rintro e w1 ⟨v1, rfl, ho1, hb1⟩
      have HZ1 := Lib.hid (HZ.out.call hb1)
      have HO1 := Lib.hid ho1
      have hws := HZ.out.lt
      have hw1 := hb1.size
      clear ho1 hb1
      go_wp2_with fail
      refine (edges_right B cb U w1 (HAU.out.below HZ1.out.below) HTU.out).mono ?_
      rintro e w2 ⟨v2, rfl, ho2, hb2⟩
      have HZ2 := Lib.hid (HZ1.out.call hb2)
      have HO2 := Lib.hid (own_belowT HO1.out hb2 (Nat.le_refl _))
      have hl1 := edgE_len T
      have hl2 := edgE_len U
      have hl3 := edgE_len2 U
      have hl4 := HTT.out.len
      have hl5 := HTU.out.len
      have hw2 := hb2.size
      rcases id ho2.2 with ⟨h1, h2⟩ | ⟨g2, cap2, cur2, rfl, hbg2, hg2, hx2⟩
      · omega
      have hcl2 := ho2.cells (g := g2) rfl
      have HCL := Lib.hid hcl2
      clear ho2 hb2 hcl2 hg2 hbg2 hx2 cur2
      go_wp2_with (at_builtin; refine wpList_append_own _ rfl (.tmp 27) (.tmp 29) 59 rfl wr.heap.size 30 i0 (.agg #[.bool false, .int .u64 0, .int .u64 0]) 3 24 Tryz.underlying59 hi0 hz0 hz1 hz2 rfl (by decide) _ _ _ rfl HO2.out ⟨g2, 0, none⟩ (edgE U).length cap2 (rwC adC (edgE U)) rfl (rwC_length adC_len _) HCL.out (ads_one _) (by unfold maxLen; first | omega | (simp; omega)) (by first | omega | (simp; omega)) (by first | omega | (simp; omega) | simp) ?_)
      intro v3 w3 ho3 hg3 _
      have HO3 : Hid (adOwn w3 wr.heap.size v3 (edgE T ++ edgE U)) := Lib.hid (own_asT ho3 (by simp) (by simp [rwC]))
      have HZ3 := Lib.hid (HZ2.out.grown hg3 (fun k hk => by have := (World.ownsRow.lt HO2.out k hk).1; omega))
      clear ho3 hg3
      have HLE : Hid ((edgE T ++ edgE U).length ≤ 2004 ∧ 2 ≤ (edgE T ++ edgE U).length) := Lib.hid (by rw [List.length_append]; omega)
      have hFE : ∀ x ∈ edgE T ++ edgE U, AddrFine x.six x.hi x.lo := fun x hx => (List.mem_append.1 hx).elim (edgE_fine HTT.out x) (edgE_fine HTU.out x)
      have HFE := Lib.hid hFE
      clear hFE hl1 hl2 hl3 hl4 hl5 HCL HO1 HO2
      obtain ⟨E, hE⟩ : ∃ E, edgE T ++ edgE U = E := ⟨_, rfl⟩
      rw [hE] at HO3 HLE HFE
      have HE := Lib.hid hE
      clear hE
      go_wp2_with fail
      refine (ad_sort E wr.heap.size v3 w3 HO3.out (by have := HLE.out; omega) (by have := HLE.out; omega)).mono ?_
      rintro e w4 ⟨rfl, M, hperm, ho4, hg4⟩
      have HZ4 := Lib.hid (HZ3.out.grown hg4 (fun k hk => by have := (World.ownsRow.lt HO3.out k hk).1; omega))
      have hml := hperm.length_eq
      have HP := Lib.hid hperm
      rcases id ho4.2 with ⟨h1, h2⟩ | ⟨g4, cap4, cur4, rfl, hbg4, hg4', hx4⟩
      · exact absurd HLE.out.2 (by omega)
      have ho4' : adOwn w4 0 (.slice (some ⟨g4, 0, none⟩) M.length cap4) M := by
        obtain ⟨q1, q2⟩ := ho4
        refine ⟨q1, ?_⟩
        rcases q2 with h | ⟨g, cap, cur, e1, e2, e3⟩
        · exact .inl h
        · exact .inr ⟨g, cap, cur, e1, Nat.zero_le _, e3⟩
      have HO4 := Lib.hid ho4'
      have HG4 : Hid (w.heap.size < g4) := Lib.hid (by omega)
      clear ho4 ho4' hg4 hg4' hx4 hperm hml hbg4 cur4 HO3
      go_wp2_with fail
      refine (ad_compact g4 cap4 M w4 HO4.out (by have := HLE.out; have := HP.out.length_eq; omega)).mono ?_
      rintro e w5 ⟨L', hL', rfl, hso5⟩
      have HZ5 := Lib.hid (HZ4.out.grown hso5.1 (fun k hk => by cases hk; exact HG4.out))
      have HMM : Hid ((∀ x ∈ L', x ∈ E) ∧ ∀ x ∈ E, x ∈ L') := Lib.hid (by
        constructor
        · intro x hx
          rw [hL'] at hx
          obtain ⟨j, hj, rfl⟩ := dedT_mem _ (Nat.le_refl _) x hx
          exact HP.out.mem_iff.1 (rw_mem hj)
        · intro x hx
          obtain ⟨y, hy, hxy⟩ := dedT_keeps (c := adEqB) (d := noAd) (fun x => adEqB_iff.2 rfl) (fun x y z h1 h2 => adEqB_iff.2 ((adEqB_iff.1 h1).trans (adEqB_iff.1 h2))) (HP.out.mem_iff.2 hx)
          rw [hL']
          rwa [adEqB_iff.1 hxy])
      have HLN : Hid (L'.length ≤ 2004) := Lib.hid (by
        have := dedT_len adEqB noAd M M.length
        have := HP.out.length_eq
        have := HLE.out
        rw [hL']
        omega)
      have HA5 : Hid (adAt w5 (some ⟨g4, 0, none⟩) L') := Lib.hid (rw_at' adC_len hso5.2)
      clear hL' hso5 HO4
      go_wp2_with fail
      go_loopw [12, 36] (fun _ v36 wq => ∃ k : Nat, k ≤ L'.length ∧ v36 = .int .i64 k ∧ LzI w (.cells #[.bool false, .int .u64 0, .int .u64 0] 30 (0, 0)) wq ∧ adAt wq (some ⟨g4, 0, none⟩) L' ∧ ∀ j, j < k → (atE T (L'.getD j noAd)).toList = (atE U (L'.getD j noAd)).toList) (fun _ v36 _ => L'.length - (intOf v36).toNat)
      case atStart => exact ⟨0, Nat.zero_le _, rfl, HZ5.out, HA5.out, fun j hj => absurd hj (Nat.not_lt_zero _)⟩
      case round =>
        obtain ⟨k, hk, rfl, hz, ha, hag⟩ := hrel
        have HZ6 := Lib.hid hz
        have HA6 := Lib.hid ha
        have HAG := Lib.hid hag
        have hln := HLN.out
        clear hz hag HZ HZ1 HZ2 HZ3 HZ4 HZ5 HA5
        by_cases hlt : k < L'.length
        · obtain ⟨g5, off, hA, hgB, hcc⟩ := ha k hlt
          injection hA with hA
          simp only [Addr.mk.injEq, and_true] at hA
          obtain ⟨rfl, rfl⟩ := hA
          rw [Nat.zero_add] at hcc
          obtain ⟨c0, c1, c2⟩ := ad_cells hcc
          have hd : decide ((k : Int) < (L'.length : Int)) = true := by simp; omega
          have HXM := rw_mem (d := noAd) hlt
          obtain ⟨x, hx⟩ : ∃ x, L'.getD k noAd = x := ⟨_, rfl⟩
          rw [hx] at c0 c1 c2 HXM
          have HX := Lib.hid hx
          clear hx hcc ha
          have HNX := Lib.hid (heap_alloc_new wr (addrBox x.six x.hi x.lo))
          have HZ7 := Lib.hid (HZ6.out.call ((Below.refl _ _).alloc (Nat.le_refl _) (addrBox x.six x.hi x.lo)))
          have HA7 := Lib.hid (HA6.out.below ((Below.refl _ _).alloc (Nat.le_refl _) (addrBox x.six x.hi x.lo)))
          unfold addrBox at HNX HZ7 HA7
          go_upto_region 13 with (fail)
          generalize World.alloc wr _ = W7 at HNX HZ7 HA7 ⊢
          generalize wr.heap.size = nb at *
          have hnb := lt_of_block HNX.out
          obtain ⟨m0, m1, m2, -⟩ := res3 HNX.out
          have hlT := fun W (hb : Below W7.heap.size W7 W) => lookup_any A ca T x.six x.hi x.lo W (HAT.out.below (HZ7.out.below.trans (hb.mono HZ7.out.below.size))) HTT.out.right (by have := HTT.out.len; omega) (HFE.out x (HMM.out.1 x HXM)).1 (HFE.out x (HMM.out.1 x HXM)).2.1
          have hlU := fun W (hb : Below W7.heap.size W7 W) => lookup_any B cb U x.six x.hi x.lo W (HAU.out.below (HZ7.out.below.trans (hb.mono HZ7.out.below.size))) HTU.out.right (by have := HTU.out.len; omega) (HFE.out x (HMM.out.1 x HXM)).1 (HFE.out x (HMM.out.1 x HXM)).2.1
          obtain ⟨tT, htT⟩ : ∃ tT, atE T x = tT := ⟨_, rfl⟩
          obtain ⟨tU, htU⟩ : ∃ tU, atE U x = tU := ⟨_, rfl⟩
          have HT1 := Lib.hid htT
          have HU1 := Lib.hid htU
          unfold atE at htT htU
          rw [htT] at hlT
          rw [htU] at hlU
          have HLT := Lib.hid hlT
          have HLU := Lib.hid hlU
          clear hlT hlU htT htU
          go_cut [46] from 40 to 46 (fun v46 wx => v46 = .bool (!(tT.toList == tU.toList)) ∧ Below W7.heap.size W7 wx)
          case first J K2 hJ hK =>
            refine wp_region_exact 6 (fun f' => ⟨#[.slice A T.length ca, .slice B U.length cb, undef, undef, .pointer (some ⟨w.heap.size, 0, none⟩), u5, u6, undef, u8, u9, .slice (some ⟨g4, 0, none⟩) M.length cap4, undef, .pointer (some ⟨nb, 0, none⟩), .slice A T.length ca, .slice B U.length cb, .agg #[.slice A T.length ca, .slice B U.length cb], .int .i64 2, .bool false, u18, u19, u20, u21, u22, u23, u24, u25, .slice A T.length ca, v1, .slice B U.length cb, .slice (some ⟨g2, 0, none⟩) (edgE U).length cap2, .slice (some ⟨g4, 0, none⟩) M.length cap4, .slice (some ⟨g4, 0, none⟩) M.length cap4, .tuple #[], .slice (some ⟨g4, 0, none⟩) M.length cap4, .slice (some ⟨g4, 0, none⟩) L'.length cap4, .int .i64 L'.length, .int .i64 k, .bool true, .pointer (some ⟨g4, k * 3, none⟩), .agg #[.bool x.six, .int .u64 x.hi, .int .u64 x.lo], f' 0, f' 1, f' 2, f' 3, f' 4, f' 5, u46, u47, u48, undef], []⟩) (fun i => match i with | 0 => .slice A T.length ca | 1 => .agg #[.bool x.six, .int .u64 x.hi, .int .u64 x.lo] | 2 => .string tT | 3 => .slice B U.length cb | 4 => .agg #[.bool x.six, .int .u64 x.hi, .int .u64 x.lo] | 5 => .string tU | _ => undef) (fun lb' w' => Hid (Below W7.heap.size W7 w')) (fun i => match i with | 0 => u40 | 1 => u41 | 2 => u42 | 3 => u43 | 4 => u44 | 5 => u45 | _ => undef) 10 (show Tryz.prog.follows .mixedOrders = true from by kernel_rfl) (by kernel_rfl) ?_ ?_ (Lib.hid (Below.refl _ _).drew)
            · intro i op hi ho lb' f' w' hl hS hd
              have n0 := (hS.out.cell (p := ⟨nb, 0, none⟩) hnb).trans m0
              have n1 := (hS.out.cell (p := ⟨nb, 1, none⟩) hnb).trans m1
              have n2 := (hS.out.cell (p := ⟨nb, 2, none⟩) hnb).trans m2
              have hcase : i = 0 ∨ i = 1 ∨ i = 2 ∨ i = 3 ∨ i = 4 ∨ i = 5 := by omega
              rcases hcase with rfl | rfl | rfl | rfl | rfl | rfl <;> (replace ho := Option.some.inj ho; subst ho)
              · refine OpStep.of rfl ?_
                unfold Oper.wp
                go_simp
                first | exact ⟨by first | (simp [upd]; done) | (simp [upd]; omega), hS⟩ | (simp [upd]; done) | (simp [upd]; omega)
              · refine OpStep.of rfl ?_
                unfold Oper.wp
                go_simp
                first | exact ⟨by first | (simp [upd]; done) | (simp [upd]; omega), hS⟩ | (simp [upd]; done) | (simp [upd]; omega)
              · have e0 : f' 0 = .slice A T.length ca := (hd ⟨0, .data⟩ (by simp) rfl).2
                have e1 : f' 1 = .agg #[.bool x.six, .int .u64 x.hi, .int .u64 x.lo] := (hd ⟨1, .data⟩ (by simp) rfl).2
                refine OpStep.of rfl ?_
                unfold Oper.wp
                go_simp
                go_at_call 26
                refine (HLT.out w' hS.out).mono ?_
                rintro e w9 ⟨rfl, hb9⟩
                exact ⟨by simp [upd, e0, e1], Lib.hid (hS.out.trans (hb9.mono hS.out.size))⟩
              · refine OpStep.of rfl ?_
                unfold Oper.wp
                go_simp
                first | exact ⟨by first | (simp [upd]; done) | (simp [upd]; omega), hS⟩ | (simp [upd]; done) | (simp [upd]; omega)
              · refine OpStep.of rfl ?_
                unfold Oper.wp
                go_simp
                first | exact ⟨by first | (simp [upd]; done) | (simp [upd]; omega), hS⟩ | (simp [upd]; done) | (simp [upd]; omega)
              · have e3 : f' 3 = .slice B U.length cb := (hd ⟨3, .data⟩ (by simp) rfl).2
                have e4 : f' 4 = .agg #[.bool x.six, .int .u64 x.hi, .int .u64 x.lo] := (hd ⟨4, .data⟩ (by simp) rfl).2
                refine OpStep.of rfl ?_
                unfold Oper.wp
                go_simp
                go_at_call 26
                refine (HLU.out w' hS.out).mono ?_
                rintro e w9 ⟨rfl, hb9⟩
                exact ⟨by simp [upd, e3, e4], Lib.hid (hS.out.trans (hb9.mono hS.out.size))⟩
            · intro op ho lb' f' w' hd hS
              have e2 : f' 2 = .string tT := (hd 2 (by omega)).2
              have e5 : f' 5 = .string tU := (hd 5 (by omega)).2
              replace ho := Option.some.inj ho
              subst ho
              refine ⟨rfl, ?_⟩
              unfold Oper.wp
              go_simp
              first | (go_step; go_meet) | go_meet | skip
              exact ⟨rfl, hS.out⟩
          case rest =>
          obtain ⟨rfl, hbc⟩ := hcut
          obtain ⟨W8, rfl⟩ : ∃ W8 : World, W8 = wc := ⟨_, rfl⟩
          have HZ8 := Lib.hid (HZ7.out.call hbc)
          have HA8 := Lib.hid (HA7.out.below hbc)
          have n0 := (hbc.cell (p := ⟨nb, 0, none⟩) hnb).trans m0
          have n1 := (hbc.cell (p := ⟨nb, 1, none⟩) hnb).trans m1
          have n2 := (hbc.cell (p := ⟨nb, 2, none⟩) hnb).trans m2
          have hFX := Lib.hid (HFE.out x (HMM.out.1 x HXM))
          clear m0 m1 m2 hbc HZ7 HA7
          by_cases hq : tT.toList = tU.toList
          · have hqb : (!(tT.toList == tU.toList)) = false := by simp [hq]
            rw [hqb]
            go_wp2_with fail
            refine ⟨⟨k + 1, by omega, by simp, HZ8.out, HA8.out, fun j hj => ?_⟩, by simp [intOf]; omega⟩
            by_cases hjk : j = k
            · rw [hjk, HX.out, HT1.out, HU1.out]; exact hq
            · exact HAG.out j (by omega)
          · have hqb : (!(tT.toList == tU.toList)) = true := by simp [hq]
            rw [hqb]
            obtain ⟨z0, z1, z2, g0, g1, g2⟩ := res3 HZ8.out.blk
            go_wp2_with fail
            generalize hW : World.setCell _ _ _ = W99
            obtain ⟨hst, hr⟩ := hW ▸ put3 (.bool x.six) (.int .u64 x.hi) (.int .u64 x.lo) HZ8.out.below (Nat.le_refl _) HZ8.out.blk
            obtain ⟨y0, y1, y2, -⟩ := res3 hr
            refine bodyPost_ret (v := .tuple #[.agg #[.bool x.six, .int .u64 x.hi, .int .u64 x.lo], .bool true, .int .i64 0]) (by simp [results, Tryz.results7, go_sem, y0, y1, y2]) rfl ⟨x, true, rfl, hst, fun _ => ⟨hFX.out, by rw [HT1.out, HU1.out]; exact hq⟩, fun h => by cases h⟩
        · have hkl : k = L'.length := by omega
          subst hkl
          obtain ⟨z0, z1, z2, g0, g1, g2⟩ := res3 HZ6.out.blk
          clear ha
          go_wp2_with fail
          generalize hW : World.setCell _ _ _ = W99
          obtain ⟨hst, hr⟩ := hW ▸ put3 (.bool false) (.int .u64 0) (.int .u64 0) HZ6.out.below (Nat.le_refl _) HZ6.out.blk
          obtain ⟨y0, y1, y2, -⟩ := res3 hr
          refine bodyPost_ret (v := .tuple #[.agg #[.bool false, .int .u64 0, .int .u64 0], .bool false, .int .i64 0]) (by simp [results, Tryz.results7, go_sem, y0, y1, y2]) rfl ⟨noAd, false, rfl, hst, fun h => (by cases h), fun _ y hy => ?_⟩
          rw [HE.out] at hy
          have hy := HMM.out.2 y hy
          obtain ⟨j, hj, rfl⟩ := List.getElem_of_mem hy
          have := HAG.out j hj
          rwa [List.getD_eq_getElem?_getD, List.getElem?_eq_getElem hj] at this
end Go.Proofs.YtpbcbgoenoolfaaGreatDoor
