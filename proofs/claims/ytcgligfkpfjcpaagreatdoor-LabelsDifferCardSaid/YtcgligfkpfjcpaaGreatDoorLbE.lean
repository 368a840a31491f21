/- slices.Equal of Called, at rows alike; LabelsDiffer's closure. -/
import Derived.Test.YtcgligfkpfjcpaaGreatDoorLbZ
namespace Go.Proofs.YtcgligfkpfjcpaaGreatDoor
open Go.RowKit Go.Hw Go.Shelf

theorem entersD : ∀ args w, (callFunc 13 args).run Tryz.prog w = .ok (.enter 13 args) w := enters_of Tryz.func13 (by kernel_rfl) rfl
set_option maxRecDepth 100000 in
set_option maxHeartbeats 400000 in
theorem diff_calls (y x : Cd) (g : Nat) (W : World) (hg : W.heap[g]? = some (.cells #[.string x.node, .string x.label] 40 (0, 0))) :
    Calls Tryz.prog 13 #[.agg #[.string y.node, .string y.label], .pointer (some ⟨g, 0, none⟩)] W
    fun en w' => en = .returned (.bool (y.label.toList == x.label.toList)) ∧ Below W.heap.size W w' := by
  obtain ⟨yn, yl⟩ := y
  obtain ⟨⟨c0, c1⟩, -⟩ := res2 hg
  have hlt := lt_of_block hg
  clear hg
  go_enter Tryz.func13, Tryz.ntmps13
  go_wp2_with fail
  go_ret
  exact ⟨rfl, (Below.refl W.heap.size W).alloc (Nat.le_refl _) _⟩
set_option maxRecDepth 100000 in
set_option maxHeartbeats 1000000 in
theorem equal_same (A B : Option Addr) (ca cb : Nat) (L : List Cd) (w : World) (hA : cdAt w A L) (hB : cdAt w B L) (hl : L.length ≤ 1000000) :
    Calls Tryz.prog 10 #[.slice A L.length ca, .slice B L.length cb] w fun e w' => e = .returned (.bool true) ∧ Below w.heap.size w w' := by
  go_enter Tryz.func10, Tryz.ntmps10
  go_wp2_with fail
  go_loopw [13] (fun v wr => ∃ k : Nat, k ≤ L.length ∧ v = .int .i64 k ∧ Below w.heap.size w wr) (fun v _ => L.length - (intOf v).toNat)
  case atStart => exact ⟨0, Nat.zero_le _, rfl, Below.refl _ _⟩
  case round =>
    obtain ⟨k, hk, rfl, hb⟩ := hrel
    by_cases hlt : k < L.length
    · obtain ⟨g, off, rfl, hgB, hcc⟩ := (hA.below hb) k hlt
      obtain ⟨g2, off2, rfl, hgB2, hcc2⟩ := (hB.below hb) k hlt
      obtain ⟨c0, c1⟩ := cd_cells hcc
      obtain ⟨d0, d1⟩ := cd_cells hcc2
      generalize L.getD k noCd = x at *
      have HB := Lib.hid hb
      have hd : decide ((k : Int) < (L.length : Int)) = true := by simp; omega
      clear hcc hcc2 hb hA hB
      go_wp2_with fail
      go_quiet (fail)
      go_wp2_with fail
      go_roundw
      case rel => exact ⟨k + 1, by omega, by go_num, below_drewN HB.out _⟩
      case measure => simp [intOf]; omega
    · have : k = L.length := by omega
      subst this
      go_wp2_with fail
      go_ret
      exact ⟨rfl, hb⟩
end Go.Proofs.YtcgligfkpfjcpaaGreatDoor
