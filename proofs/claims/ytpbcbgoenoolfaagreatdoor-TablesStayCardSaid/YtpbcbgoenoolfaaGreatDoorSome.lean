/- Stream.Some. -/
import Derived.Test.YtpbcbgoenoolfaaGreatDoorStr
namespace Go.Proofs.YtpbcbgoenoolfaaGreatDoor
open Go.RowKit Go.Hw

theorem some_any (b : Nat) (A : Option Addr) (cap : Nat) (l : List Int) (at_ : Int) (w : World) (h : Str w b A cap l at_) (hh : at_ < 1099511627776)
    (g : Nat) (vs : List ByteArray) (hg : w.heap[g]? = some (.cells (vs.map Value.string).toArray 9 (0, 0))) (hgb : g ≠ b) (hv : vs ≠ []) (hl : vs.length ≤ 1000000) (n c : Nat) (hn : n = vs.length) :
    Calls Tryz.prog 13 #[.pointer (some ⟨b, 0, none⟩), .slice (some ⟨g, 0, none⟩) n c] w fun e w' => e = .returned (.string (vs.getD (drawOf l at_ vs.length).toNat ByteArray.empty)) ∧ Str w' b A cap l (at_ + 1) ∧ w.grownBy w' (some b) := by
  subst hn
  have hp : 0 < vs.length := List.length_pos_iff.2 hv
  have d1 := draw_low l at_ vs.length (by omega)
  have d2 := draw_high l at_ vs.length (by omega)
  go_enter Tryz.func13, Tryz.ntmps13
  go_wp2_with fail
  refine (next_any b A cap l at_ _ _ h (by omega) (by omega) hh).mono ?_
  rintro e w' ⟨rfl, hs, hgr⟩
  have hc : w'.cell? ⟨g, (drawOf l at_ vs.length).toNat, none⟩ = some (.string (vs.getD (drawOf l at_ vs.length).toNat ByteArray.empty)) := by
    have hb : w'.heap[g]? = w.heap[g]? := hgr.block g (Array.getElem?_eq_some_iff.1 hg).1 (by intro e; injection e with e; exact hgb e)
    rw [World.cell?_of_block (w := w) hb]
    have hk : (drawOf l at_ vs.length).toNat < vs.length := by omega
    simp [World.cell?, hg, List.getElem?_eq_getElem hk]
  generalize hx : vs.getD (drawOf l at_ vs.length).toNat ByteArray.empty = x at *
  have HX := Lib.hid hx
  generalize drawOf l at_ vs.length = d at hc d1 d2 ⊢
  clear h hg hx
  go_wp2_with fail
  go_ret
  exact ⟨ret_str HX.out.symm, hs, hgr⟩

end Go.Proofs.YtpbcbgoenoolfaaGreatDoor
