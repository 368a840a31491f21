/- LabelsDiffer: the walk. -/
import Derived.Test.YtcgligfkpfjcpaaGreatDoorLbV
import Derived.Test.YtcgligfkpfjcpaaGreatDoorReady
namespace Go.Proofs.YtcgligfkpfjcpaaGreatDoor
open Go.RowKit Go.Hw Go.Shelf

theorem zn_ok : ∀ n ∈ ([⟨#[98, 111, 120]⟩, ⟨#[109, 121, 32, 109, 97, 99]⟩] : List ByteArray), n.size ≤ 200 := by decide
set_option maxRecDepth 100000 in
set_option maxHeartbeats 1000000 in
theorem labelsDiffer_any (A : Option Addr) (cap : Nat) (l : List Int) (w : World) (hA : ∀ i, i < l.length → ∃ g off, A = some ⟨g, off, none⟩ ∧ g < w.heap.size ∧ w.cell? ⟨g, off + i, none⟩ = some (.int .i64 (l.getD i 0)))
    (hfits : ∀ i, -9223372036854775808 ≤ l.getD i 0 ∧ l.getD i 0 ≤ 9223372036854775807) (hlong : l.length ≤ 17592186044416) :
    Calls Tryz.prog 3 #[.slice A l.length cap] w fun e w' => e = .returned (.bool true) ∧ Below w.heap.size w w' := by
  have hs0 : Str (w.alloc (.cells #[.slice A l.length cap, .int .i64 0] 25)) w.heap.size A cap l 0 := {
    cell := heap_alloc_new w _
    ints := fun i hi => by
      obtain ⟨g, off, h1, h2, h3⟩ := hA i hi
      exact ⟨g, off, h1, h2, by rw [World.cell?_alloc_lt _ _ _ h2]; exact h3⟩
    fits := hfits
    long := hlong
    low := by omega
    high := by omega }
  have hB0 : Below w.heap.size w (w.alloc (.cells #[.slice A l.length cap, .int .i64 0] 25)) := (Below.refl _ _).alloc (Nat.le_refl _) _
  obtain ⟨i0, hi0, hz0, hz1, hz2⟩ := info_parts ws_info
  have HS := Lib.hid hs0
  have HB := Lib.hid hB0
  clear hs0 hB0 hA hfits
  go_enter Tryz.func3, Tryz.ntmps3
  go_wp2_with fail
  generalize hW : World.alloc _ _ = W1 at HS HB ⊢
  clear hW
  have hlt1 := HS.out.lt
  refine (wishes_any w.heap.size A cap l 0 W1 HS.out (by omega)).mono ?_
  rintro e W2 ⟨v, ws, rfl, hl5, x, hx0, hx1, ho2, hok, hs2, hg2⟩
  obtain ⟨A2, cap2, rfl, hA2⟩ := rw_at (d := noWi) wsC_len ho2
  have hnil2 := nil_of_own ho2
  have HB2 := Lib.hid (HB.out.grown hg2 HB.out.size (fun j e => by injection e with e; omega))
  have HOK := Lib.hid hok
  have hne2 : ∀ a, A2 = some a → some a.block ≠ some w.heap.size := fun a ha e => by
    injection e with e
    have := (ho2.lt a.block (by rw [ha]; rfl)).1
    omega
  have hnode : ∀ y ∈ ws, y.node.size ≤ maxLen := fun y hy => by have := (hok y hy).node.2.2; unfold maxLen; omega
  have hwf := WishesFault_iff A2 cap2 ws W2 hA2 (by omega) hnode
  have HNE2 := Lib.hid hne2
  have HNIL2 := Lib.hid hnil2
  clear HS HB hg2 ho2 hok hne2 hnil2
  go_wp2_with fail
  refine hwf.mono ?_
  rintro e W3 ⟨c, rfl, hc, hb3⟩
  clear hwf
  have HB3 := Lib.hid (HB2.out.trans (hb3.mono HB2.out.size))
  by_cases hc0 : c = 0
  · subst hc0
    have hg := hc.1 rfl
    have hA3 := hA2.below hb3
    have hs3 := hs2.grown (grownB hb3 none) (fun k e => by cases e)
    have hw3 : w.heap.size < W3.heap.size := hs3.lt
    have hjo : ∀ y ∈ ws, y.joined ≤ 9 := fun y hy => by
      obtain ⟨i, hi, rfl⟩ := List.getElem_of_mem hy
      have hm := (hg i hi).2.2.2
      rw [List.getD_eq_getElem?_getD, List.getElem?_eq_getElem hi] at hm
      rcases (HOK.out _ hy).moment with h | h
      · exact h
      · rw [show isMom (ws[i]).joined = true from hm] at h; cases h
    have hcall := call_any A2 cap2 ws W3 hA3 HNIL2.out (by omega) hnode hg
    have HG := Lib.hid hg
    have HJO := Lib.hid hjo
    have HA3 := Lib.hid hA3
    clear hc hb3 hA2 hA3 hs2 hg hjo
    go_wp2_with fail
    refine hcall.mono ?_
    rintro e W4 ⟨va, rfl, hoa, hb4⟩
    have HB4 := Lib.hid (HB3.out.trans (hb4.mono HB3.out.size))
    have hA4 := HA3.out.below hb4
    have hs4 := hs3.grown (grownB hb4 none) (fun k e => by cases e)
    have hLl := callL_length ws
    generalize hLa : callL ws = La at *
    obtain ⟨Aa, ca, rfl, hAa⟩ := rw_at (d := noCd) cdC_len hoa
    rw [hLl]
    have HOA := Lib.hid hoa
    have HAA := Lib.hid hAa
    have HLL := Lib.hid hLl
    have HLA := Lib.hid hLa
    have hcl := ws_clone A2 cap2 ws W4 hA4 HNIL2.out (by omega)
    clear hcall hb4 hA4 hs3 hoa hAa hLl hLa
    go_wp2_with fail
    refine hcl.mono ?_
    rintro e W5 ⟨v5, rfl, ho5, hb5⟩
    obtain ⟨A5, cap5, rfl, -⟩ := rw_at (d := noWi) wsC_len ho5
    have HB5 := Lib.hid (HB4.out.trans (hb5.mono HB4.out.size))
    have hsz5 := hb5.size
    have hs5 := hs4.grown (grownB hb5 none) (fun k e => by cases e)
    have hAA5 := HAA.out.below hb5
    have hbl : w.heap.size < W4.heap.size := hs4.lt
    have hnb5 : (Value.slice A5 ws.length cap5).ownBlock ≠ some w.heap.size := fun c => by have := (ho5.lt _ c).1; omega
    have hlow5 := fun j (hj : (Value.slice A5 ws.length cap5).ownBlock = some j) => (ho5.lt j hj).1
    have hneA : ∀ a, Aa = some a → some a.block ≠ some w.heap.size ∧ a.block < W4.heap.size := fun a ha => by
      subst ha
      have := HOA.out.lt a.block rfl
      have := HB3.out.size
      have := hlt1
      have := HB2.out.size
      have hWW := hw3
      exact ⟨fun e => by injection e with e; omega, by omega⟩
    have HO5 := Lib.hid ho5
    have HAA5 := Lib.hid hAA5
    have HNEA := Lib.hid hneA
    clear hcl hb5 ho5 hAA5 hs4 hneA
    go_wp2_with fail
    have hsome := some_any w.heap.size A cap l x _ (hs5.alloc (.cells (([⟨#[98, 111, 120]⟩, ⟨#[109, 121, 32, 109, 97, 99]⟩] : List ByteArray).map Value.string).toArray 9 (0, 0))) (by omega) _ [⟨#[98, 111, 120]⟩, ⟨#[109, 121, 32, 109, 97, 99]⟩] (by rw [heap_alloc_new]) (by have := hs5.lt; omega) (by simp) (by simp) 2 2 rfl
    have hnm : (([⟨#[98, 111, 120]⟩, ⟨#[109, 121, 32, 109, 97, 99]⟩] : List ByteArray).getD (drawOf l x ((2 : Nat) : Int)).toNat ByteArray.empty).size ≤ 200 := getD_all (P := fun n : ByteArray => n.size ≤ 200) zn_ok (by decide) _
    refine hsome.mono ?_
    rintro e W6 ⟨rfl, hs6, hg6⟩
    clear hsome
    have hg6' := grown_alloc_then hg6
    have ho6 := HO5.out.kept hg6' (.inr hnb5)
    have hAA6 := HAA5.out.grown hg6' (fun a ha => (HNEA.out a ha).1)
    have HB6 := Lib.hid (HB5.out.grown hg6' HB5.out.size (fun j e => by injection e with e; omega))
    have hsz6 := hg6'.size
    have HAA6 := Lib.hid hAA6
    rw [show ([⟨#[98, 111, 120]⟩, ⟨#[109, 121, 32, 109, 97, 99]⟩] : List ByteArray).length = 2 from rfl]
    generalize ([⟨#[98, 111, 120]⟩, ⟨#[109, 121, 32, 109, 97, 99]⟩] : List ByteArray).getD (drawOf l x ((2 : Nat) : Int)).toNat ByteArray.empty = nm at *
    have hs45 := HO5.out
    have h45 : W4.heap.size ≤ W6.heap.size := Nat.le_trans hsz5 hsz6
    clear hg6 hg6' hs5 hAA6 hs6 hs45
    go_wp2_with (at_builtin; refine wpList_append_own _ rfl (.tmp 27) (.tmp 32) 26 rfl W4.heap.size 36 i0 (.agg #[.string ⟨#[]⟩, .string ⟨#[]⟩, .int .i64 0]) 3 40 Tryz.underlying26 hi0 hz0 hz1 hz2 rfl (by decide) _ _ _ rfl (World.ownsRow.alloc ho6 _) ⟨W6.heap.size, 0, none⟩ 1 1 [.string zzB, .string nm, .int .i64 9] rfl rfl ?d1 ?d2 ?d3 ?d4 ?d5 ?_)
    case d1 => exact cells_newL W6 [.string zzB, .string nm, .int .i64 9] _
    case d2 => simp [Value.oneCell']
    case d3 => unfold maxLen; omega
    case d4 => omega
    case d5 => simp; omega
    intro v7 W7 ho7 hg7 _
    have ho7' : wsOwn W7 W4.heap.size v7 (ws ++ [⟨zzB, nm, 9⟩]) := by
      unfold wsOwn
      rw [List.length_append, show rwC wsC (ws ++ [⟨zzB, nm, 9⟩]) = rwC wsC ws ++ [.string zzB, .string nm, .int .i64 9] by simp [rwC, wsC]]
      exact ho7
    obtain ⟨A7, cap7, rfl, hA7⟩ := rw_at (d := noWi) wsC_len ho7'
    have HB7 := Lib.hid ((HB6.out.alloc HB6.out.size (.cells #[.string zzB, .string nm, .int .i64 9] 36)).grown hg7 (by have := HB6.out.size; simp; omega) (fun j hj => by have := hlow5 j hj; omega))
    have hAA7 := (HAA6.out.below ((Below.refl _ _).alloc (Nat.le_refl _) (.cells #[.string zzB, .string nm, .int .i64 9] 36))).grown hg7 (fun a ha e => by have := hlow5 _ e.symm; have := (HNEA.out a ha).2; omega)
    have hg7w : GoodW (ws ++ [⟨zzB, nm, 9⟩]) := good_snoc HG.out zz_key (fun y hy => (HOK.out y hy).node.1) hnm (show isMom 9 = true by decide)
    have hn7 : ∀ y ∈ ws ++ [(⟨zzB, nm, 9⟩ : Wi)], y.node.size ≤ maxLen := fun y hy => by
      rcases List.mem_append.1 hy with h | h
      · exact hnode y h
      · rw [List.mem_singleton.1 h]; exact (show zzB.size ≤ maxLen by decide)
    have hcall := call_any A7 cap7 _ W7 hA7 (nil_of_own ho7') (by simp; omega) hn7 hg7w
    have hfine := callL_fine (ws ++ [⟨zzB, nm, 9⟩]) (by simp; omega)
    have hlen := callL_length (ws ++ [⟨zzB, nm, 9⟩])
    obtain ⟨yz, hyz⟩ := callL_snoc ws ⟨zzB, nm, 9⟩ HJO.out (fun y hy => (HOK.out y hy).node.2.1)
    rw [HLA.out] at hyz
    have HAA7 := Lib.hid hAA7
    generalize hLb : callL (ws ++ [⟨zzB, nm, 9⟩]) = Lb at *
    have HFINE := Lib.hid hfine
    have HYZ := Lib.hid hyz
    have HLEN := Lib.hid hlen
    clear ho7 ho7' hg7 hA7 hg7w hn7 ho6 hAA7 hfine hyz hlen hLb hlow5
    have hl7 : (ws ++ [(⟨zzB, nm, 9⟩ : Wi)]).length = ws.length + 1 := by simp
    rw [hl7] at hcall ⊢
    clear hl7
    go_wp2_with fail
    refine hcall.mono ?_
    rintro e W8 ⟨vb, rfl, hob, hb8⟩
    obtain ⟨Ab, cb, rfl, hAb⟩ := rw_at (d := noCd) cdC_len hob
    have hLbl : Lb.length = ws.length + 1 := by rw [HLEN.out]; simp
    obtain ⟨gb, rfl⟩ : ∃ g, Ab = some ⟨g, 0, none⟩ := by
      rcases hob.2 with ⟨e, _⟩ | ⟨g, cp, cur, e, _⟩
      · injection e with _ e _; omega
      · injection e with e _ _; exact ⟨g, e⟩
    have hcapb := rw_cap hob
    rw [hLbl] at hcapb ⊢
    have hAA8 := HAA7.out.below hb8
    have heq := equal_same Aa (some ⟨gb, 0, none⟩) ca cb La W8 hAA8 (rwAt_prefix (M := [yz]) (by rw [← HYZ.out]; exact hAb)) (by rw [HLL.out]; omega)
    rw [HLL.out] at heq
    have HB8 := Lib.hid (HB7.out.trans (hb8.mono HB7.out.size))
    have HAB := Lib.hid hAb
    have HLBL := Lib.hid hLbl
    clear hcall hb8 hob hAb hAA8 hLbl
    go_wp2_with fail
    refine heq.mono ?_
    rintro e W9 ⟨rfl, hb9⟩
    have HB9 := Lib.hid (HB8.out.trans (hb9.mono HB8.out.size))
    have HAB9 := Lib.hid (HAB.out.below hb9)
    clear heq hb9
    go_wp2_with fail
    go_loopw [69] (fun v wr => ∃ k : Nat, k ≤ ws.length + 1 ∧ v = .int .i64 k ∧ Below W9.heap.size W9 wr) (fun v _ => ws.length + 1 - (intOf v).toNat)
    case atStart => exact ⟨0, by omega, rfl, Below.refl _ _⟩
    case round =>
      obtain ⟨k, hk, rfl, hb⟩ := hrel
      have hAr := HAB9.out.below hb
      have HBR := Lib.hid hb
      by_cases hlt : k < ws.length + 1
      · obtain ⟨g', off', e', hgB, hcc⟩ := hAr k (by rw [HLBL.out]; exact hlt)
        injection e' with e'
        injection e' with e1 e2
        subst e1 e2
        obtain ⟨c0, c1⟩ := cd_cells hcc
        rw [Nat.zero_add] at c0 c1
        have hap := fine_apart HFINE.out (k := k) (by rw [HLBL.out]; exact hlt)
        have hpl : Plain (Lb.getD k noCd).label.data.toList := HFINE.out.2 _ (rw_mem (by rw [HLBL.out]; exact hlt))
        have hAt := rwAt_take hAr k
        have hTl : (Lb.take k).length = k := by rw [List.length_take, HLBL.out]; omega
        generalize Lb.getD k noCd = xk at *
        have hd : decide ((k : Int) < (ws.length : Int) + 1) = true := by simp; omega
        have hlf := labelForm_plain xk.label hpl (wr.alloc (.cells #[.string xk.node, .string xk.label] 40 (0, 0)))
        have hbox := heap_alloc_new wr (.cells #[.string xk.node, .string xk.label] 40 (0, 0))
        have HBA := Lib.hid (HBR.out.alloc HBR.out.size (.cells #[.string xk.node, .string xk.label] 40 (0, 0)))
        have hAt1 := hAt.below ((Below.refl _ wr).alloc (Nat.le_refl _) (.cells #[.string xk.node, .string xk.label] 40 (0, 0)))
        have HBOX := Lib.hid hbox
        have HAT1 := Lib.hid hAt1
        have HAP := Lib.hid hap
        have HTL := Lib.hid hTl
        have hkc : (k : Int) ≤ (cb : Int) := by omega
        clear hb hAr hcc hap hpl hAt hTl hbox hAt1
        go_wp2_with fail
        refine hlf.mono ?_
        rintro e W10 ⟨rfl, hb10⟩
        have hbx := (hb10.block _ (lt_of_block HBOX.out)).trans HBOX.out
        have hany := cd_any (some ⟨gb, 0, none⟩) cb (Lb.take k) 13 #[.pointer (some ⟨wr.heap.size, 0, none⟩)] (fun y => y.label.toList == xk.label.toList) W10 entersD (HAT1.out.below hb10) (by rw [HTL.out]; omega)
          (fun W e _ hbW => diff_calls e xk wr.heap.size W ((hbW.block _ (lt_of_block hbx)).trans hbx))
        rw [HTL.out, HAP.out] at hany
        have HB10 := Lib.hid (HBA.out.trans (hb10.mono HBA.out.size))
        clear hlf hb10 hbx c0 c1
        go_wp2_with fail
        refine hany.mono ?_
        rintro e W11 ⟨rfl, hb11⟩
        have HB11 := Lib.hid (HB10.out.trans (hb11.mono HB10.out.size))
        clear hany hb11
        go_wp2_with fail
        go_roundw
        case rel => exact ⟨k + 1, by omega, by go_num, HB11.out⟩
        case measure => simp [intOf]; omega
      · have hkk : k = ws.length + 1 := by omega
        subst hkk
        have hd : decide (((ws.length + 1 : Nat) : Int) < (ws.length : Int) + 1) = false := by simp
        clear hb hAr
        go_wp2_with fail
        refine Calls.mono (ready_true _) ?_
        rintro _ W12 ⟨rfl, hb12⟩
        have HB12 := Lib.hid (HB9.out.trans ((HBR.out.trans (hb12.mono HBR.out.size)).mono HB9.out.size))
        clear hb12
        go_wp2_with fail
        go_ret
        exact ⟨rfl, HB12.out⟩
  · have hcn : (c != 0) = true := by simpa using hc0
    clear hc hb3 hs2
    go_wp2_with fail
    refine Calls.mono (ready_true _) ?_
    rintro _ W9 ⟨rfl, hb9⟩
    have HB9 := Lib.hid (HB3.out.trans (hb9.mono HB3.out.size))
    clear hb9
    go_wp2_with fail
    go_ret
    exact ⟨rfl, HB9.out⟩
end Go.Proofs.YtcgligfkpfjcpaaGreatDoor
