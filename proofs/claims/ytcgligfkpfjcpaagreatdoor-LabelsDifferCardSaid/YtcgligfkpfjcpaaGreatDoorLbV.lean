/- LabelsDiffer: plain words for the law. -/
import Derived.Test.YtcgligfkpfjcpaaGreatDoorLbS
import Derived.Test.YtcgligfkpfjcpaaGreatDoorLbE
import Derived.Test.YtcgligfkpfjcpaaGreatDoorLbF
namespace Go.Proofs.YtcgligfkpfjcpaaGreatDoor
open Go.RowKit Go.Hw Go.Shelf

theorem rwAt_prefix {α : Type} {c : α → List Value} {n : Nat} {d : α} {w : World} {A : Option Addr} {L M : List α} (h : RwAt c n d w A (L ++ M)) : RwAt c n d w A L := fun i hi => by
  have := h i (by simp; omega)
  rw [List.getD_eq_getElem?_getD, List.getElem?_append_left hi, ← List.getD_eq_getElem?_getD] at this
  exact this
theorem rwAt_take {α : Type} {c : α → List Value} {n : Nat} {d : α} {w : World} {A : Option Addr} {L : List α} (h : RwAt c n d w A L) (k : Nat) : RwAt c n d w A (L.take k) :=
  rwAt_prefix (M := L.drop k) (by rw [List.take_append_drop]; exact h)
theorem good_snoc {ws : List Wi} {z : Wi} (h : GoodW ws) (hk : isKey z.node = true) (hl : ∀ x ∈ ws, leB z.node x.node = false) (hs : z.name.size ≤ 200) (hm : isMom z.joined = true) : GoodW (ws ++ [z]) := fun i hi => by
  simp only [List.length_append, List.length_singleton] at hi
  have gl : ∀ j, j < ws.length → (ws ++ [z]).getD j noWi = ws.getD j noWi := fun j hj => by
    rw [List.getD_eq_getElem?_getD, List.getElem?_append_left hj, ← List.getD_eq_getElem?_getD]
  by_cases hlt : i < ws.length
  · have g := h i hlt
    unfold GoodAt at g ⊢
    rw [gl i hlt, gl (i - 1) (by omega)]
    exact g
  · have e : i = ws.length := by omega
    subst e
    have gz : (ws ++ [z]).getD ws.length noWi = z := by simp
    unfold GoodAt
    rw [gz]
    refine ⟨hk, fun hp => ?_, hs, hm⟩
    rw [gl _ (by omega)]
    exact hl _ (rw_mem (by omega))
theorem zz_key : isKey zzB = true := by decide +kernel
theorem fine_apart {L : List Cd} (h : Fine L) {k : Nat} (hk : k < L.length) : (L.take k).any (fun y => y.label.toList == (L.getD k noCd).label.toList) = false := by
  rw [List.any_eq_false]
  intro y hy hq
  obtain ⟨i, hi, rfl⟩ := List.getElem_of_mem hy
  have hik : i < k := by simp at hi; omega
  have hn := h.1
  have e : (L.map fun c => c.label.data.toList)[i]'(by simp; omega) = (L.map fun c => c.label.data.toList)[k]'(by simpa using hk) := by
    simp only [List.getElem_map]
    rw [List.getD_eq_getElem?_getD, List.getElem?_eq_getElem hk] at hq
    simpa [ByteArray.toList_eq] using hq
  have := (List.getElem_inj hn).1 e
  omega
theorem nil_of_own {w : World} {base : Nat} {A : Option Addr} {cap : Nat} {L : List Wi} (h : wsOwn w base (.slice A L.length cap) L) : A = none → L = [] := fun e => by
  subst e
  rcases h.2 with ⟨_, h2⟩ | ⟨g, cp, cur, e, _⟩
  · exact List.length_eq_zero_iff.1 h2
  · injection e with e; cases e
end Go.Proofs.YtcgligfkpfjcpaaGreatDoor
