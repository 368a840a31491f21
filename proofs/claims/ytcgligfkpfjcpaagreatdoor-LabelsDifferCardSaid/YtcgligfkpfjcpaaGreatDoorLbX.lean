/- name.Call's two orders. -/
import Derived.Test.YtcgligfkpfjcpaaGreatDoorLbW
import Derived.Test.YtcgligfkpfjcpaaGreatDoorLbC
import Derived.Test.YtcgligfkpfjcpaaGreatDoorCmpI
import Derived.Test.YtcgligfkpfjcpaaGreatDoorLbP
import Derived.Test.YtcgligfkpfjcpaaGreatDoorRwS
namespace Go.Proofs.YtcgligfkpfjcpaaGreatDoor
open Go.RowKit Go.Hw Go.Shelf

/-- By the moment of joining; by the node. -/
def cJ (x y : Wi) : Int := cmpI x.joined y.joined
def cN (x y : Cd) : Int := Lib.compareBytes x.node.data.toList y.node.data.toList
set_option maxRecDepth 100000 in
set_option maxHeartbeats 400000 in
theorem cJ_calls (x y : Wi) (W : World) : Calls Tryz.prog 26 #[.agg #[.string x.node, .string x.name, .int .i64 x.joined], .agg #[.string y.node, .string y.name, .int .i64 y.joined]] W
    fun en w' => en = .returned (.int .i64 (cJ x y)) ∧ Below W.heap.size W w' := by
  obtain ⟨xn, xm, xj⟩ := x
  obtain ⟨yn, ym, yj⟩ := y
  go_enter Tryz.func26, Tryz.ntmps26
  go_wp2_with fail
  refine (cmpI_any _ _ _).mono ?_
  rintro e w1 ⟨rfl, rfl⟩
  go_wp2_with fail
  go_ret
  exact ⟨rfl, ((Below.refl W.heap.size W).alloc (Nat.le_refl _) _).alloc (by simp) _⟩
set_option maxRecDepth 100000 in
set_option maxHeartbeats 400000 in
theorem cN_calls (x y : Cd) (W : World) : Calls Tryz.prog 30 #[.agg #[.string x.node, .string x.label], .agg #[.string y.node, .string y.label]] W
    fun en w' => en = .returned (.int .i64 (cN x y)) ∧ Below W.heap.size W w' := by
  obtain ⟨xn, xl⟩ := x
  obtain ⟨yn, yl⟩ := y
  go_enter Tryz.func30, Tryz.ntmps30
  go_wp2_with fail
  refine (Tryz.strings_Compare _ _ _).mono ?_
  rintro e w1 ⟨rfl, rfl⟩
  go_wp2_with fail
  go_ret
  exact ⟨rfl, ((Below.refl W.heap.size W).alloc (Nat.le_refl _) _).alloc (by simp) _⟩
/-- The names, one for each wish, in the order of joining. -/
def callRaw : List Cd → List Wi → List Cd
  | out, [] => out
  | out, x :: xs => callRaw (out ++ [⟨x.node, toB (uniqL (out.map fun c => c.label.data.toList) (labelL x.name.data.toList))⟩]) xs
def callL (ws : List Wi) : List Cd := isortL (cdLt cN) (callRaw [] (isortL (wsLt cJ) ws))
theorem callRaw_append (out : List Cd) (xs ys : List Wi) : callRaw out (xs ++ ys) = callRaw (callRaw out xs) ys := by
  induction xs generalizing out with
  | nil => rfl
  | cons x xs ih => exact ih _
theorem callRaw_length (out : List Cd) (xs : List Wi) : (callRaw out xs).length = out.length + xs.length := by
  induction xs generalizing out with
  | nil => rfl
  | cons x xs ih => rw [callRaw, ih]; simp; omega
theorem toB_toList' (l : List UInt8) : (toB l).data.toList = l := by unfold toB; simp
/-- The labels: plain, and no two alike. -/
def Fine (l : List Cd) : Prop := (l.map fun c => c.label.data.toList).Nodup ∧ ∀ c ∈ l, Plain c.label.data.toList
theorem callRaw_fine (out : List Cd) (xs : List Wi) (h : Fine out) (hl : out.length + xs.length ≤ 8) : Fine (callRaw out xs) := by
  induction xs generalizing out with
  | nil => exact h
  | cons x xs ih =>
    simp only [List.length_cons] at hl
    have hf := uniqL_free (taken := out.map fun c => c.label.data.toList) (base := labelL x.name.data.toList) (by simp; omega) (labelL_plain _)
    refine ih _ ⟨?_, ?_⟩ (by simp; omega)
    · rw [List.map_append, List.nodup_append]
      refine ⟨h.1, by simp, ?_⟩
      intro a ha b hb
      simp only [List.map_cons, List.map_nil, List.mem_singleton, toB_toList'] at hb
      subst hb
      intro hq
      exact hf.1 (hq ▸ ha)
    · intro c hc
      rcases List.mem_append.1 hc with hc | hc
      · exact h.2 c hc
      · rw [List.mem_singleton] at hc
        subst hc
        rw [toB_toList']
        exact hf.2
theorem callRaw_nodes (out : List Cd) (xs : List Wi) : (callRaw out xs).map (·.node) = out.map (·.node) ++ xs.map (·.node) := by
  induction xs generalizing out with
  | nil => simp [callRaw]
  | cons x xs ih => rw [callRaw, ih]; simp
/-- A sorted row is a row of the same things. -/
theorem insR_perm {α : Type} (lt : α → α → Bool) (x : α) (L : List α) : List.Perm (insR lt x L) (x :: L) := by
  induction L with
  | nil => exact List.Perm.refl _
  | cons y L ih =>
    unfold insR
    split
    · exact (List.Perm.cons y ih).trans (List.Perm.swap x y L)
    · exact List.Perm.refl _
theorem isortL_perm {α : Type} (lt : α → α → Bool) (L : List α) : List.Perm (isortL lt L) L := by
  have : ∀ n (L : List α), L.length = n → List.Perm (isortL lt L) L := by
    intro n
    induction n with
    | zero =>
      intro L hL
      obtain rfl : L = [] := List.eq_nil_of_length_eq_zero hL
      exact List.Perm.refl _
    | succ n ih =>
      intro L hL
      obtain ⟨M, x, rfl⟩ : ∃ M x, L = M ++ [x] := ⟨L.dropLast, L.getLast (by intro h; simp [h] at hL), (List.dropLast_concat_getLast _).symm⟩
      rw [isortL_snoc]
      refine (List.reverse_perm _).trans ((insR_perm lt x _).trans ?_)
      refine (List.Perm.cons x ((List.reverse_perm _).trans (ih M (by simpa using hL)))).trans ?_
      exact (List.perm_append_singleton x M).symm
  exact this _ L rfl
theorem Fine.perm {a b : List Cd} (h : Fine b) (hp : List.Perm a b) : Fine a :=
  ⟨(hp.map _).nodup_iff.2 h.1, fun c hc => h.2 c (hp.mem_iff.1 hc)⟩
theorem callL_fine (ws : List Wi) (hl : ws.length ≤ 8) : Fine (callL ws) :=
  (callRaw_fine [] _ ⟨List.nodup_nil, fun c hc => by cases hc⟩ (by rw [isortL_length]; simpa using hl)).perm (isortL_perm _ _)
theorem callL_length (ws : List Wi) : (callL ws).length = ws.length := by
  unfold callL
  rw [isortL_length, callRaw_length, isortL_length]
  simp
/-- The one that joined last, and whose node is the last, changes nothing. -/
theorem callL_snoc (ws : List Wi) (z : Wi) (hj : ∀ x ∈ ws, x.joined ≤ z.joined) (hn : ∀ x ∈ ws, ¬ Lib.compareBytes z.node.data.toList x.node.data.toList < 0) :
    ∃ y, callL (ws ++ [z]) = callL ws ++ [y] := by
  have h1 : isortL (wsLt cJ) (ws ++ [z]) = isortL (wsLt cJ) ws ++ [z] := by
    refine isortL_last fun y hy => ?_
    have := hj y hy
    unfold wsLt cJ cmpI
    rw [if_neg (by omega)]
    split <;> simp
  unfold callL
  rw [h1, callRaw_append]
  refine ⟨(⟨z.node, toB (uniqL ((callRaw [] (isortL (wsLt cJ) ws)).map fun c => c.label.data.toList) (labelL z.name.data.toList))⟩ : Cd), ?_⟩
  refine isortL_last fun y hy => ?_
  have hm : y.node ∈ (callRaw [] (isortL (wsLt cJ) ws)).map (·.node) := List.mem_map_of_mem hy
  rw [callRaw_nodes] at hm
  simp only [List.map_nil, List.nil_append, List.mem_map] at hm
  obtain ⟨x, hx, hxe⟩ := hm
  have := hn x (isortL_mem.1 hx)
  unfold cdLt cN
  rw [← hxe]
  simpa using this
end Go.Proofs.YtcgligfkpfjcpaaGreatDoor
