/- Stream.Pick. -/
import Derived.Test.YtcmfkheohhfpiaaGreatDoorStr
namespace Go.Proofs.YtcmfkheohhfpiaaGreatDoor
open Go.RowKit Go.Hw

/-- The cells of a literal slice lie in a block of their own. -/
theorem pick_any (b : Nat) (A : Option Addr) (cap : Nat) (l : List Int) (at_ : Int) (w : World) (h : Str w b A cap l at_) (hh : at_ < 1099511627776)
    (g : Nat) (vs : List Int) (hg : w.heap[g]? = some (.cells (vs.map (Value.int .i64)).toArray 3 (0, 0))) (hgb : g ≠ b) (hv : vs ≠ []) (hl : vs.length ≤ 1000000) (n c : Nat) (hn : n = vs.length) :
    Calls Tryz.prog 96 #[.pointer (some ⟨b, 0, none⟩), .slice (some ⟨g, 0, none⟩) n c] w fun e w' => e = .returned (.int .i64 (vs.getD (drawOf l at_ vs.length).toNat 0)) ∧ Str w' b A cap l (at_ + 1) ∧ w.grownBy w' (some b) := by
  subst hn
  have hp : 0 < vs.length := List.length_pos_iff.2 hv
  have d1 := draw_low l at_ vs.length (by omega)
  have d2 := draw_high l at_ vs.length (by omega)
  go_enter Tryz.func96, Tryz.ntmps96
  go_wp2_with fail
  refine (next_any b A cap l at_ _ _ h (by omega) (by omega) hh).mono ?_
  rintro e w' ⟨rfl, hs, hgr⟩
  have hc : w'.cell? ⟨g, (drawOf l at_ vs.length).toNat, none⟩ = some (.int .i64 (vs.getD (drawOf l at_ vs.length).toNat 0)) := by
    have hb : w'.heap[g]? = w.heap[g]? := hgr.block g (Array.getElem?_eq_some_iff.1 hg).1 (by intro e; injection e with e; exact hgb e)
    rw [World.cell?_of_block (w := w) hb]
    have hk : (drawOf l at_ vs.length).toNat < vs.length := by omega
    simp [World.cell?, hg, List.getElem?_eq_getElem hk]
  generalize hx : vs.getD (drawOf l at_ vs.length).toNat 0 = x at *
  have HX := Lib.hid hx
  generalize drawOf l at_ vs.length = d at hc d1 d2 ⊢
  clear h hg hx
  go_wp2_with fail
  go_ret
  exact ⟨ret_eq HX.out.symm, hs, hgr⟩
end Go.Proofs.YtcmfkheohhfpiaaGreatDoor
