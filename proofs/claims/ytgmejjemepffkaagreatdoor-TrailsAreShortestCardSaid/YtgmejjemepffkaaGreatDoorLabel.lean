/- name.Label at the string that ready() asks. -/
import Derived.Test.YtgmejjemepffkaaGreatDoorKey
import Derived.Deep.AppendLies
namespace Go.Proofs.YtgmejjemepffkaaGreatDoor
open Go.RowKit Go.Hw

theorem Tryz.infoByte : (Tryz.prog.info? 5).map (fun i => (i.zero, i.size, i.bytes)) = some (some (.int .u8 0), 1, 1) := by kernel_rfl

set_option maxRecDepth 100000 in
set_option maxHeartbeats 1000000 in
theorem label_ready (w : World) :
    Calls Tryz.prog 21 #[.string ⟨#[65, 32, 98]⟩] w fun e w' => e = .returned (.string ⟨#[97, 45, 98]⟩) ∧ Below w.heap.size w w' := by
  obtain ⟨i0, hi0, hz0, hz1, hz2⟩ := info_parts Tryz.infoByte
  have b0 : ((⟨#[65, 32, 98]⟩ : ByteArray)[0]).toNat = 65 := rfl
  have b1 : ((⟨#[65, 32, 98]⟩ : ByteArray)[1]).toNat = 32 := rfl
  have b2 : ((⟨#[65, 32, 98]⟩ : ByteArray)[2]).toNat = 98 := rfl
  go_enter Tryz.func21, Tryz.ntmps21
  go_wp2_with fail
  refine wp_loop_rounds 4 ?_
  rw [rounds_succ]
  go_wp2_with (first | (at_builtin; refine wpList_append_lies _ rfl (.tmp 26) (.tmp 28) 75 rfl w.heap.size 5 i0 (.int .u8 0) 1 1 Tryz.underlying75 hi0 hz0 hz1 hz2 rfl (by decide) (.slice none 0 0) 0 [] rfl (World.ownsRow_nil _ _ _ _) ⟨w.heap.size, 0, none⟩ 1 1 [.int .u8 97] rfl rfl ?c1 ?c2 (by omega) ?c3 ?c4 ?c5 _ rfl ?_) | (go_at_call 37; go_in))
  case c1 => exact cell_one_new _ _ _
  case c2 => simp [Value.oneCell']
  case c3 => decide
  case c4 => decide
  case c5 => simp
  intro g1 k1 w1 ho1 hg1 hat1 hl1
  have hb1 : Below w.heap.size w w1 := ((Below.refl _ _).alloc (Nat.le_refl _) _).grown hg1 (by simp) (fun j hj => by simp [Value.ownBlock] at hj)
  have hc1 : w1.cell? ⟨g1, 0, none⟩ = some (.int .u8 97) := by
    have := ho1.cells (g := g1) rfl 0 _ rfl
    simpa [Addr.add] using this
  have hs1 := hb1.size
  clear hg1 hat1
  go_wp2_with fail
  rw [rounds_succ]
  go_wp2_with (first | (at_builtin; refine wpList_append_lies _ rfl (.tmp 43) (.tmp 44) 75 rfl w.heap.size 5 i0 (.int .u8 0) 1 1 Tryz.underlying75 hi0 hz0 hz1 hz2 rfl (by decide) (.slice (some ⟨g1, 0, none⟩) 1 k1) 1 [.int .u8 97] rfl (ho1.alloc _) ⟨w1.heap.size, 0, none⟩ 1 1 [.int .u8 45] rfl rfl ?d1 ?d2 (by omega) ?d3 ?d4 ?d5 _ rfl ?_) | (go_at_call 37; go_in))
  case d1 => exact cell_one_new _ _ _
  case d2 => simp [Value.oneCell']
  case d3 => decide
  case d4 => decide
  case d5 => simp; omega
  intro g2 k2 w2 ho2 hg2 hat2 hl2
  have hb2 : Below w.heap.size w w2 := (hb1.alloc hb1.size _).grown hg2 (by simp; omega) (fun j hj => (ho1.lt j hj).1)
  have hc20 : w2.cell? ⟨g2, 0, none⟩ = some (.int .u8 97) := by
    have := ho2.cells (g := g2) rfl 0 _ rfl
    simpa [Addr.add] using this
  have hc21 : w2.cell? ⟨g2, 1, none⟩ = some (.int .u8 45) := by
    have := ho2.cells (g := g2) rfl 1 _ rfl
    simpa [Addr.add] using this
  have hs2 := hb2.size
  clear hg2 hat2 hc1 ho1 hb1 hs1 hl1
  go_wp2_with fail
  rw [rounds_succ]
  go_wp2_with (first | (at_builtin; refine wpList_append_lies _ rfl (.tmp 26) (.tmp 28) 75 rfl w.heap.size 5 i0 (.int .u8 0) 1 1 Tryz.underlying75 hi0 hz0 hz1 hz2 rfl (by decide) (.slice (some ⟨g2, 0, none⟩) 2 k2) 2 [.int .u8 97, .int .u8 45] rfl (ho2.alloc _) ⟨w2.heap.size, 0, none⟩ 1 1 [.int .u8 98] rfl rfl ?e1 ?e2 (by omega) ?e3 ?e4 ?e5 _ rfl ?_) | (go_at_call 37; go_in))
  case e1 => exact cell_one_new _ _ _
  case e2 => simp [Value.oneCell']
  case e3 => decide
  case e4 => decide
  case e5 => simp; omega
  intro g3 k3 w3 ho3 hg3 hat3 hl3
  have hb3 : Below w.heap.size w w3 := (hb2.alloc hb2.size _).grown hg3 (by simp; omega) (fun j hj => (ho2.lt j hj).1)
  have hc30 : w3.cell? ⟨g3, 0, none⟩ = some (.int .u8 97) := by
    have := ho3.cells (g := g3) rfl 0 _ rfl
    simpa [Addr.add] using this
  have hc31 : w3.cell? ⟨g3, 1, none⟩ = some (.int .u8 45) := by
    have := ho3.cells (g := g3) rfl 1 _ rfl
    simpa [Addr.add] using this
  have hc32 : w3.cell? ⟨g3, 2, none⟩ = some (.int .u8 98) := by
    have := ho3.cells (g := g3) rfl 2 _ rfl
    simpa [Addr.add] using this
  have hs3 := hb3.size
  have hk3 : 3 ≤ k3 := by
    rcases ho3.2 with ⟨h, _⟩ | ⟨g, cap, cur, h1, h2, h3, h4, _⟩
    · cases h
    · injection h1 with _ _ h1
      omega
  clear hg3 hat3 hc20 hc21 ho2 hb2 hs2 hl2
  go_wp2_with fail
  rw [rounds_succ]
  have hcv : (convert 75 9 (.slice (some ⟨g3, 0, none⟩) 3 k3)).run Tryz.prog w3 = .ok (.string ⟨#[97, 45, 98]⟩) w3 := run_convert_bytes_back (P := Tryz.prog) w3 75 9 5 ⟨g3, 0, none⟩ k3 [97, 45, 98] Tryz.underlying75 Tryz.underlying5 Tryz.underlying9 (by
    intro j hj
    have : j = 0 ∨ j = 1 ∨ j = 2 := by simp at hj; omega
    rcases this with rfl | rfl | rfl
    · exact hc30
    · exact hc31
    · exact hc32)
  have hmin : (min (3 : Int) 63).toNat = 3 := by decide
  go_wp2_with fail
  refine (Tryz.strings_Trim_one ⟨#[97, 45, 98]⟩ 45 (by decide) _ (by decide)).mono ?_
  rintro e w4 ⟨rfl, hw4⟩
  have htr : (⟨(Lib.trimB (⟨#[97, 45, 98]⟩ : ByteArray).data.toList 45).toArray⟩ : ByteArray) = ⟨#[97, 45, 98]⟩ := by decide
  rw [htr]
  clear htr
  have hb4 : Below w.heap.size w w4 := by
    rcases hw4 with rfl | rfl
    · exact hb3
    · exact hb3.drew
  clear hw4
  go_wp2_with fail
  go_ret
  exact ⟨rfl, hb4⟩
end Go.Proofs.YtgmejjemepffkaaGreatDoor
