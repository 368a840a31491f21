/- addr.Parse at any string, addr.Text, addr.PrefixText at what is right, addr.ParsePrefix at the text of a right prefix. -/
import Derived.Test.YtcicednopgpjfaaGreatDoorAxK
import Derived.Test.YtcicednopgpjfaaGreatDoorDrS
namespace Go.Proofs.YtcicednopgpjfaaGreatDoor
open Go.RowKit Go.Hw Go.Shelf
theorem toB_ne {x : List UInt8} {s : ByteArray} (h : x ≠ s.data.toList) : ((toB x).toList == s.toList) = false := by
  rw [ByteArray.toList_eq, ByteArray.toList_eq, toB_data]
  simpa using h
set_option maxRecDepth 100000 in
set_option maxHeartbeats 1000000 in
theorem parse_any (s : ByteArray) (w : World) (V : NmVars w) (hs : s.size ≤ 100000) :
    Calls Tryz.prog 7 #[.string s] w fun e w' => e = .returned (.tuple #[looseA (parseF s.data.toList), .int .i64 (looseE (parseF s.data.toList))]) ∧ Below w.heap.size w w' := by
  have hlo := fun o => loose_any s (w.alloc o) (V.below ((Below.refl _ _).alloc (Nat.le_refl _) o) (Nat.le_refl _)) hs
  have HV := Lib.hid V
  obtain ⟨r, hr⟩ : ∃ r, looseF s.data.toList = r := ⟨_, rfl⟩
  rw [hr] at hlo
  rcases r with _ | ⟨b, hi, lo⟩
  · have HR : Hid (parseF s.data.toList = none) := Lib.hid (by unfold parseF; rw [hr])
    clear hr V
    simp only [looseA, looseE] at hlo
    go_enter Tryz.func7, Tryz.ntmps7
    go_wp2_with fail
    refine (hlo _).mono ?_
    rintro e w1 ⟨rfl, hb1⟩
    have HZ := Lib.hid ((LzI.start w _).call hb1)
    have hbx := HZ.out.blk
    have HX := Lib.hid hbx
    obtain ⟨z0, z1, z2, g0, g1, g2⟩ := res3 hbx
    have hlt := lt_of_block hbx
    clear hbx hb1 hlo
    go_wp2_with fail
    generalize hW : World.alloc _ _ = W99
    obtain ⟨hst, hr⟩ := put3 (.bool false) (.int .u64 0) (.int .u64 0) HZ.out.below (Nat.le_refl _) HX.out
    have hst' : Below w.heap.size w W99 := by rw [← hW]; exact hst.alloc hst.size _
    have hr' : W99.heap[w.heap.size]? = some (addrBox false 0 0) := by rw [← hW]; exact (heap_alloc_old _ _ (lt_of_block hr)).trans hr
    obtain ⟨y0, y1, y2, -⟩ := res3 hr'
    refine bodyPost_ret (v := .tuple #[.agg #[.bool false, .int .u64 0, .int .u64 0], .int .i64 9]) (by simp [results, Tryz.results7, go_sem, y0, y1, y2]) rfl ⟨by rw [HR.out]; rfl, hst'⟩
  · have hok := looseF_ok hr
    have HOK := Lib.hid hok
    by_cases hc : textA b hi lo = s.data.toList
    · have HR : Hid (parseF s.data.toList = some (b, hi, lo)) := Lib.hid (by unfold parseF; rw [hr]; exact if_pos hc)
      have HS : Hid (toB (textA b hi lo) = s) := Lib.hid (by rw [hc]; exact toB_of s)
      clear hr V hc hok
      simp only [looseA, looseE] at hlo
      go_enter Tryz.func7, Tryz.ntmps7
      go_wp2_with fail
      refine (hlo _).mono ?_
      rintro e w1 ⟨rfl, hb1⟩
      have HZ := Lib.hid ((LzI.start w _).call hb1)
      clear hb1 hlo
      go_wp2_with fail
      generalize hW : World.alloc _ _ = W2
      have HZ2 : Hid (LzI w _ W2) := Lib.hid (hW ▸ HZ.out.call ((Below.refl w1.heap.size w1).alloc (Nat.le_refl _) _))
      have hx2 : W2.heap[w1.heap.size]? = some (addrBox b hi lo) := by rw [← hW]; exact heap_alloc_new _ _
      clear hW HZ
      refine (textOf_any b hi lo HOK.out W2 (HV.out.below HZ2.out.below (Nat.le_refl _))).mono ?_
      rintro e w3 ⟨rfl, hb3⟩
      rw [HS.out]
      have HZ3 := Lib.hid (HZ2.out.call hb3)
      have hx3 := (hb3.block _ (lt_of_block hx2)).trans hx2
      obtain ⟨x0, x1, x2, -⟩ := res3 hx3
      have hbx := HZ3.out.blk
      obtain ⟨z0, z1, z2, g0, g1, g2⟩ := res3 hbx
      have hlt := lt_of_block hbx
      clear hbx hb3 hx2 hx3 HZ2
      go_wp2_with fail
      generalize hW : World.setCell _ _ _ = W99
      obtain ⟨hst, hr⟩ := hW ▸ put3 (.bool b) (.int .u64 hi) (.int .u64 lo) HZ3.out.below (Nat.le_refl _) HZ3.out.blk
      obtain ⟨y0, y1, y2, -⟩ := res3 hr
      refine bodyPost_ret (v := .tuple #[.agg #[.bool b, .int .u64 hi, .int .u64 lo], .int .i64 0]) (by simp [results, Tryz.results7, go_sem, y0, y1, y2]) rfl ⟨by rw [HR.out]; rfl, hst⟩
    · have HR : Hid (parseF s.data.toList = none) := Lib.hid (by unfold parseF; rw [hr]; exact if_neg hc)
      have hne := toB_ne hc
      clear hr V hc hok
      simp only [looseA, looseE] at hlo
      go_enter Tryz.func7, Tryz.ntmps7
      go_wp2_with fail
      refine (hlo _).mono ?_
      rintro e w1 ⟨rfl, hb1⟩
      have HZ := Lib.hid ((LzI.start w _).call hb1)
      clear hb1 hlo
      go_wp2_with fail
      generalize hW : World.alloc _ _ = W2
      have HZ2 : Hid (LzI w _ W2) := Lib.hid (hW ▸ HZ.out.call ((Below.refl w1.heap.size w1).alloc (Nat.le_refl _) _))
      clear hW HZ
      refine (textOf_any b hi lo HOK.out W2 (HV.out.below HZ2.out.below (Nat.le_refl _))).mono ?_
      rintro e w3 ⟨rfl, hb3⟩
      generalize toB (textA b hi lo) = tt at *
      have HZ3 := Lib.hid (HZ2.out.call hb3)
      have hbx := HZ3.out.blk
      obtain ⟨z0, z1, z2, g0, g1, g2⟩ := res3 hbx
      have hlt := lt_of_block hbx
      clear hbx hb3 HZ2
      go_wp2_with fail
      generalize hW : World.setCell _ _ _ = W99
      obtain ⟨hst, hr⟩ := hW ▸ put3 (.bool false) (.int .u64 0) (.int .u64 0) HZ3.out.below (Nat.le_refl _) HZ3.out.blk
      obtain ⟨y0, y1, y2, -⟩ := res3 hr
      refine bodyPost_ret (v := .tuple #[.agg #[.bool false, .int .u64 0, .int .u64 0], .int .i64 9]) (by simp [results, Tryz.results7, go_sem, y0, y1, y2]) rfl ⟨by rw [HR.out]; rfl, hst⟩
set_option maxRecDepth 100000 in
theorem text_any (six : Bool) (hi lo : Nat) (h : AdOk six hi lo) (w : World) (V : NmVars w) :
    Calls Tryz.prog 6 #[.agg #[.bool six, .int .u64 hi, .int .u64 lo]] w fun e w' => e = .returned (.tuple #[.string (toB (textA six hi lo)), .int .i64 0]) ∧ Below w.heap.size w w' := by
  have hB : Below w.heap.size w (w.alloc (addrBox six hi lo)) := (Below.refl _ _).alloc (Nat.le_refl _) _
  have hx := heap_alloc_new w (addrBox six hi lo)
  have HB := Lib.hid hB
  have HX := Lib.hid hx
  have HV := Lib.hid V
  have hc : addrCode six hi lo = 0 := by
    unfold addrCode
    rw [if_neg]
    rintro ⟨h1, h2⟩
    have := h.2.2 h1
    omega
  have HC := Lib.hid hc
  have hch := fun W => checkAddr_any six hi lo W (Int.natCast_nonneg hi)
  rw [hc] at hch
  obtain ⟨x0, x1, x2, -⟩ := res3 hx
  unfold addrBox at x0 x1 x2
  clear hB hx V hc
  go_enter Tryz.func6, Tryz.ntmps6
  go_wp2_with fail
  refine (hch _).mono ?_
  rintro e w1 ⟨rfl, hb1⟩
  have hx1 := (hb1.block _ (lt_of_block HX.out)).trans HX.out
  have HB1 := Lib.hid (HB.out.trans (hb1.mono HB.out.size))
  clear x0 x1 x2 hch hb1 HB HX
  obtain ⟨x0, x1, x2, -⟩ := res3 hx1
  clear hx1
  go_wp2_with fail
  refine (textOf_any six hi lo h w1 (HV.out.below HB1.out (Nat.le_refl _))).mono ?_
  rintro e w2 ⟨rfl, hb2⟩
  have HB2 := Lib.hid (HB1.out.trans (hb2.mono HB1.out.size))
  clear hb2
  go_wp2_with fail
  go_ret2
  exact ⟨rfl, HB2.out⟩
/-- The text of a prefix. -/
def textP (six : Bool) (hi lo bits_ : Nat) : List UInt8 := textA six hi lo ++ 47 :: Lib.decDigits bits_
theorem right_ok {six : Bool} {hi lo bits_ : Nat} (h : PfRight six hi lo bits_) : AdOk six hi lo := by
  obtain ⟨⟨h1, h2, h3⟩, -⟩ := h
  exact ⟨by omega, by omega, fun e => by have := h3 e; omega⟩
theorem right_bits {six : Bool} {hi lo bits_ : Nat} (h : PfRight six hi lo bits_) : bits_ < 129 := by
  obtain ⟨-, -, m, hm, -, -⟩ := h
  unfold lenA at hm
  cases six <;> simp at hm <;> omega
theorem textA_len (six : Bool) (hi lo : Nat) : (textA six hi lo).length ≤ 100 := by
  cases six
  · have := join_le 46 3 _ (four_words lo)
    rw [four_len] at this
    show (Lib.join (fourL lo) [46]).length ≤ 100
    omega
  · have h8 := six_words8 hi lo
    have hw := six_words hi lo
    show (textG (sixG hi lo)).length ≤ 100
    unfold textG
    split
    · have := join_le 58 4 _ hw
      rw [List.length_map, h8] at this
      omega
    · have h1 := join_le 58 4 (((sixG hi lo).map hexL).take (zeroF (sixG hi lo)).1) (fun x hx => hw x (List.mem_of_mem_take hx))
      have h2 := join_le 58 4 (((sixG hi lo).map hexL).drop ((zeroF (sixG hi lo)).1 + (zeroF (sixG hi lo)).2)) (fun x hx => hw x (List.mem_of_mem_drop hx))
      rw [List.length_take, List.length_map, h8] at h1
      rw [List.length_drop, List.length_map, h8] at h2
      rw [List.length_append, List.length_append]
      simp only [List.length_cons, List.length_nil]
      omega
set_option maxRecDepth 100000 in
set_option maxHeartbeats 1000000 in
theorem prefixTextIn_any (six : Bool) (hi lo bits_ : Nat) (h : AdOk six hi lo) (hb : bits_ < 129) (w : World) (V : NmVars w) :
    Calls Tryz.prog 24 #[.agg #[.bool six, .int .u64 hi, .int .u64 lo, .int .i64 bits_]] w fun e w' => e = .returned (.string (toB (textP six hi lo bits_))) ∧ Below w.heap.size w w' := by
  have hB : Below w.heap.size w (w.alloc (pfBox six hi lo bits_)) := (Below.refl _ _).alloc (Nat.le_refl _) _
  have hx := heap_alloc_new w (pfBox six hi lo bits_)
  have HB := Lib.hid hB
  have HX := Lib.hid hx
  have HV := Lib.hid V
  have hta := textA_len six hi lo
  have htx := fun W VW => textOf_any six hi lo h W VW
  have hit : ∀ W, NmVars W → Calls Tryz.prog 49 #[.int .i64 bits_] W fun e w' => e = .returned (.string (toB (Lib.decDigits bits_))) ∧ Below W.heap.size W w' := fun W VW => by
    have h := Tryz.strconv_Itoa bits_ (by omega) (by omega) W VW.tab
    rw [Lib.itoa_nonneg] at h
    exact h.mono fun e w' ⟨h1, n, os, h2⟩ => ⟨h1, h2 ▸ Lib.below_grow W.heap.size W (Nat.le_refl _) n os⟩
  have hdl := (bits_small ⟨bits_, hb⟩).2.2
  simp only at hdl
  have HQ1 : Hid (toB (textA six hi lo) ++ ⟨#[47]⟩ = toB (textA six hi lo ++ [47])) := Lib.hid (toB_app _ [47])
  have HQ2 : Hid (toB (textA six hi lo ++ [47]) ++ toB (Lib.decDigits bits_) = toB (textP six hi lo bits_)) := Lib.hid (by rw [toB_app]; simp [textP])
  generalize textP six hi lo bits_ = T at *
  generalize textA six hi lo = TA at *
  generalize Lib.decDigits bits_ = TD at *
  have z1 : (toB TA).size ≤ 100 := by show TA.toArray.size ≤ 100; simpa using hta
  have z2 : (toB TD).size ≤ 3 := by show TD.toArray.size ≤ 3; simpa using hdl
  have z3 : (toB (TA ++ [47])).size ≤ 101 := by show (TA ++ [47]).toArray.size ≤ 101; simp; omega
  obtain ⟨⟨x0, x1, x2, x3⟩, -⟩ := res4 hx
  unfold pfBox at x0 x1 x2 x3
  clear hB hx V hta hdl h hb
  go_enter Tryz.func24, Tryz.ntmps24
  go_upto_region 1 with (fail)
  generalize hW : World.alloc _ _ = W at x0 x1 x2 x3 ⊢
  have HBW : Hid (Below w.heap.size w W) := Lib.hid (by rw [← hW]; exact HB.out)
  have hl0 : w.heap.size < W.heap.size := by rw [← hW]; exact lt_of_block HX.out
  have y1 : ¬ 9223372036854775807 < (toB TA).size + 1 := by omega
  have y2 : ¬ 9223372036854775807 < (toB TA ++ ⟨#[47]⟩).size + (toB TD).size := by rw [HQ1.out]; omega
  have y3 : ¬ 9223372036854775807 < (toB TA).size + 1 + (toB TD).size := by omega
  clear hW HB HX
  go_region_held3 (fun w' => w'.cell? ⟨w.heap.size, 0, none⟩ = some (.bool six) ∧ w'.cell? ⟨w.heap.size, 1, none⟩ = some (.int .u64 hi) ∧ w'.cell? ⟨w.heap.size, 2, none⟩ = some (.int .u64 lo) ∧ w'.cell? ⟨w.heap.size, 3, none⟩ = some (.int .i64 bits_))
    (first | exact ⟨x0, x1, x2, x3⟩ | ((repeat' apply And.intro) <;> (first | (go_simp; done) | with_reducible assumption)))
    (first
      | (go_at_call 18; refine (htx _ (by first | exact HV.out.below HBW.out (Nat.le_refl _) | exact HV.out.below HBW.out.drew (Nat.le_refl _))).mono ?_; rintro e W1 ⟨rfl, hb1⟩; have x0 : W1.cell? ⟨w.heap.size, 0, none⟩ = some (.bool six) := (hb1.cell (p := ⟨w.heap.size, 0, none⟩) (by first | (simp; done) | (simp; omega) | omega)).trans (by first | assumption | (go_simp; done)); have x1 : W1.cell? ⟨w.heap.size, 1, none⟩ = some (.int .u64 hi) := (hb1.cell (p := ⟨w.heap.size, 1, none⟩) (by first | (simp; done) | (simp; omega) | omega)).trans (by first | assumption | (go_simp; done)); have x2 : W1.cell? ⟨w.heap.size, 2, none⟩ = some (.int .u64 lo) := (hb1.cell (p := ⟨w.heap.size, 2, none⟩) (by first | (simp; done) | (simp; omega) | omega)).trans (by first | assumption | (go_simp; done)); have x3 : W1.cell? ⟨w.heap.size, 3, none⟩ = some (.int .i64 bits_) := (hb1.cell (p := ⟨w.heap.size, 3, none⟩) (by first | (simp; done) | (simp; omega) | omega)).trans (by first | assumption | (go_simp; done)); have hl1 : w.heap.size < W1.heap.size := (by have := hb1.size; (try simp at this); omega); have HBW : Hid (Below w.heap.size w W1) := (by first | exact Lib.hid (HBW.out.trans (hb1.mono (by omega))) | exact Lib.hid (HBW.out.drew.trans (hb1.mono (show w.heap.size ≤ W.heap.size by omega)))))
      | (go_at_call 49; refine (hit _ (by first | exact HV.out.below HBW.out (Nat.le_refl _) | exact HV.out.below HBW.out.drew (Nat.le_refl _))).mono ?_; rintro e W2 ⟨rfl, hb2⟩; have x0 : W2.cell? ⟨w.heap.size, 0, none⟩ = some (.bool six) := (hb2.cell (p := ⟨w.heap.size, 0, none⟩) (by first | (simp; done) | (simp; omega) | omega)).trans (by first | assumption | (go_simp; done)); have x1 : W2.cell? ⟨w.heap.size, 1, none⟩ = some (.int .u64 hi) := (hb2.cell (p := ⟨w.heap.size, 1, none⟩) (by first | (simp; done) | (simp; omega) | omega)).trans (by first | assumption | (go_simp; done)); have x2 : W2.cell? ⟨w.heap.size, 2, none⟩ = some (.int .u64 lo) := (hb2.cell (p := ⟨w.heap.size, 2, none⟩) (by first | (simp; done) | (simp; omega) | omega)).trans (by first | assumption | (go_simp; done)); have x3 : W2.cell? ⟨w.heap.size, 3, none⟩ = some (.int .i64 bits_) := (hb2.cell (p := ⟨w.heap.size, 3, none⟩) (by first | (simp; done) | (simp; omega) | omega)).trans (by first | assumption | (go_simp; done)); have hl2 : w.heap.size < W2.heap.size := (by have := hb2.size; (try simp at this); omega); have HBW : Hid (Below w.heap.size w W2) := (by first | exact Lib.hid (HBW.out.trans (hb2.mono (by omega))) | exact Lib.hid (HBW.out.drew.trans (hb2.mono (show w.heap.size ≤ W1.heap.size by omega))))))
  rw [HQ1.out, HQ2.out]
  go_wp2_with fail
  go_ret
  exact ⟨rfl, HBW.out⟩
set_option maxRecDepth 100000 in
theorem prefixText_any (six : Bool) (hi lo bits_ : Nat) (h : PfRight six hi lo bits_) (w : World) (V : NmVars w) :
    Calls Tryz.prog 9 #[.agg #[.bool six, .int .u64 hi, .int .u64 lo, .int .i64 bits_]] w fun e w' => e = .returned (.tuple #[.string (toB (textP six hi lo bits_)), .int .i64 0]) ∧ Below w.heap.size w w' := by
  have hB : Below w.heap.size w (w.alloc (pfBox six hi lo bits_)) := (Below.refl _ _).alloc (Nat.le_refl _) _
  have hx := heap_alloc_new w (pfBox six hi lo bits_)
  have HB := Lib.hid hB
  have HX := Lib.hid hx
  have HV := Lib.hid V
  have hch := fun W => checkPrefix_any six hi lo bits_ W h.1.1 h.1.2.1
  rw [pfS_right h] at hch
  have hok := right_ok h
  have hbt := right_bits h
  obtain ⟨⟨x0, x1, x2, x3⟩, -⟩ := res4 hx
  unfold pfBox at x0 x1 x2 x3
  clear hB hx V h
  go_enter Tryz.func9, Tryz.ntmps9
  go_wp2_with fail
  refine (hch _).mono ?_
  rintro e w1 ⟨rfl, hb1⟩
  have hx1 := (hb1.block _ (lt_of_block HX.out)).trans HX.out
  have HB1 := Lib.hid (HB.out.trans (hb1.mono HB.out.size))
  clear x0 x1 x2 x3 hch hb1 HB HX
  obtain ⟨⟨x0, x1, x2, x3⟩, -⟩ := res4 hx1
  clear hx1
  go_wp2_with fail
  refine (prefixTextIn_any six hi lo bits_ hok hbt w1 (HV.out.below HB1.out (Nat.le_refl _))).mono ?_
  rintro e w2 ⟨rfl, hb2⟩
  have HB2 := Lib.hid (HB1.out.trans (hb2.mono HB1.out.size))
  clear hb2
  go_wp2_with fail
  go_ret2
  exact ⟨rfl, HB2.out⟩
theorem put4 {B0 b : Nat} {w V : World} {t : TypeId} {l} {z0 z1 z2 z3 : Value} (v0 v1 v2 v3 : Value) (hb : Below B0 w V) (hB : B0 ≤ b) (hz : V.heap[b]? = some (.cells #[z0, z1, z2, z3] t l)) :
    Below B0 w ((((V.setCell ⟨b, 0, none⟩ v0).setCell ⟨b, 1, none⟩ v1).setCell ⟨b, 2, none⟩ v2).setCell ⟨b, 3, none⟩ v3) ∧ ((((V.setCell ⟨b, 0, none⟩ v0).setCell ⟨b, 1, none⟩ v1).setCell ⟨b, 2, none⟩ v2).setCell ⟨b, 3, none⟩ v3).heap[b]? = some (.cells #[v0, v1, v2, v3] t l) :=
  ⟨by
    iterate 4 refine Below.setCell ?_ hB _
    exact hb, by
    have h := heap_setI (heap_setI (heap_setI (heap_setI hz 0 v0) 1 v1) 2 v2) 3 v3
    simpa using h⟩
set_option maxRecDepth 100000 in
set_option maxHeartbeats 2000000 in
theorem parsePrefix_right (six : Bool) (hi lo bits_ : Nat) (h : PfRight six hi lo bits_) (w : World) (V : NmVars w) :
    Calls Tryz.prog 10 #[.string (toB (textP six hi lo bits_))] w fun e w' => e = .returned (.tuple #[.agg #[.bool six, .int .u64 hi, .int .u64 lo, .int .i64 bits_], .int .i64 0]) ∧ Below w.heap.size w w' := by
  have hok := right_ok h
  have hbt := right_bits h
  have hta := textA_len six hi lo
  obtain ⟨n1, n2, n3⟩ := bits_small ⟨bits_, hbt⟩
  have hch := fun W => checkPrefix_any six hi lo bits_ W h.1.1 h.1.2.1
  rw [pfS_right h] at hch
  have hsz : (toB (textP six hi lo bits_)).size ≤ 104 := by
    show (textA six hi lo ++ 47 :: Lib.decDigits bits_).toArray.size ≤ 104
    simp
    simp at n3
    omega
  have VA : ∀ o, NmVars (w.alloc o) := fun o => V.below ((Below.refl _ _).alloc (Nat.le_refl _) o) (Nat.le_refl _)
  have hcu : ∀ o : Obj, Calls Tryz.prog 21 #[.string (toB (textP six hi lo bits_)), .string ⟨#[47]⟩] (w.alloc o) fun e w' => e = .returned (.tuple #[.string (toB (textA six hi lo)), .string (toB (Lib.decDigits bits_)), .bool true]) ∧ ∃ n, w' = (w.alloc o).drewN n := fun o => by
    obtain ⟨m, hm⟩ := (VA o).mx
    have := Tryz.strings_Cut (toB (textP six hi lo bits_)) ⟨#[47]⟩ m (w.alloc o) (by omega) hm
    rw [show (⟨#[47]⟩ : ByteArray).data.toList = [47] from rfl, toB_data, show Lib.cut (textP six hi lo bits_) [47] = _ from cut_slash _ _ (textA_free six hi lo)] at this
    exact this
  have hpa := fun W (VW : NmVars W) => parse_any (toB (textA six hi lo)) W VW (by show (textA six hi lo).toArray.size ≤ 100000; simp; omega)
  rw [toB_data, parseF_text2 hok] at hpa
  have hnu : ∀ W, Calls Tryz.prog 25 #[.string (toB (Lib.decDigits bits_)), .int .i64 3] W fun e w' => e = .returned (.tuple #[.int .i64 bits_, .bool true]) ∧ Below W.heap.size W w' := fun W => by
    have h := number_any (toB (Lib.decDigits bits_)) 3 (by omega) (by show (Lib.decDigits bits_).toArray.size ≤ 100000; simp; simp at n3; omega) W
    rw [toB_data, n1, n2] at h
    exact h
  generalize toB (textP six hi lo bits_) = T at *
  generalize toB (textA six hi lo) = TA at *
  generalize toB (Lib.decDigits bits_) = TD at *
  have HV := Lib.hid V
  simp only [looseA, looseE] at hpa
  clear VA V h hok hbt hta n1 n2 n3 hsz
  go_enter Tryz.func10, Tryz.ntmps10
  go_wp2_with fail
  refine (hcu _).mono ?_
  rintro e w1 ⟨rfl, n, hw1⟩
  have HZ1 := Lib.hid ((LzI.start w _).call (W' := w1) (by rw [hw1]; exact below_drewN (Below.refl _ _) n))
  clear hcu hw1
  go_wp2_with fail
  refine (hpa w1 (HV.out.below HZ1.out.below (Nat.le_refl _))).mono ?_
  rintro e w2 ⟨rfl, hb2⟩
  have HZ2 := Lib.hid (HZ1.out.call hb2)
  clear hb2
  go_wp2_with fail
  refine (hnu _).mono ?_
  rintro e w3 ⟨rfl, hb3⟩
  have hx2 := heap_alloc_new w2 (addrBox six hi lo)
  have hz2 := HZ2.out.call ((Below.refl w2.heap.size w2).alloc (Nat.le_refl _) (addrBox six hi lo))
  have hz3 := hz2.call hb3
  have hx3 := (hb3.block _ (lt_of_block hx2)).trans hx2
  have HZ3 := Lib.hid hz3
  obtain ⟨a0, a1, a2, -⟩ := res3 hx3
  clear hx2 hz2 hz3 hx3 hb3 hnu hpa
  go_wp2_with fail
  have hx4 := heap_alloc_new w3 (pfBox six hi lo bits_)
  have HZ4 := Lib.hid (HZ3.out.call ((Below.refl w3.heap.size w3).alloc (Nat.le_refl _) (pfBox six hi lo bits_)))
  have HX4 := Lib.hid hx4
  refine (hch _).mono ?_
  rintro e w5 ⟨rfl, hb5⟩
  have HZ5 := Lib.hid (HZ4.out.call hb5)
  have hx5 := (hb5.block _ (lt_of_block HX4.out)).trans HX4.out
  obtain ⟨⟨c0, c1, c2, c3⟩, -⟩ := res4 hx5
  obtain ⟨⟨z0, z1, z2, z3⟩, g0, g1, g2, g3⟩ := res4 HZ5.out.blk
  have hlt := lt_of_block HZ5.out.blk
  clear hx4 HX4 HZ4 hb5 hx5 a0 a1 a2
  go_wp2_with fail
  generalize hW : World.setCell _ _ _ = W99
  obtain ⟨hst, hr⟩ := hW ▸ put4 (.bool six) (.int .u64 hi) (.int .u64 lo) (.int .i64 bits_) HZ5.out.below (Nat.le_refl _) HZ5.out.blk
  obtain ⟨⟨y0, y1, y2, y3⟩, -⟩ := res4 hr
  refine bodyPost_ret (v := .tuple #[.agg #[.bool six, .int .u64 hi, .int .u64 lo, .int .i64 bits_], .int .i64 0]) (by simp [results, Tryz.results10, go_sem, y0, y1, y2, y3]) rfl ⟨rfl, hst⟩
end Go.Proofs.YtcicednopgpjfaaGreatDoor
