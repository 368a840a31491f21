/- route.Used. -/
import Derived.Test.YtdkgmmngoojamaaGreatDoorPaG
import Derived.Deep.RegionHeld3
import Derived.Deep.Cut
namespace Go.Proofs.YtdkgmmngoojamaaGreatDoor
open Go.RowKit Go.Hw Go.Shelf

theorem gainFault_any (gain : Int) (w : World) (h : 0 ≤ gain ∧ gain ≤ 1000000) : Calls Tryz.prog 76 #[.int .i64 gain] w fun e w' => e = .returned (.int .i64 0) ∧ w = w' := by
  have hin : (decide (gain < (0 : Int)) || decide (1000000 < gain)) = false := by simp; omega
  go_enter Tryz.func76, Tryz.ntmps76
  go_wp2_with fail
  refine (outside_any _ _ _ _).mono ?_
  rintro e w3 ⟨rfl, rfl⟩
  rw [hin]
  go_wp2_with fail
  go_ret
  exact ⟨rfl, rfl⟩

theorem cells_new_at (W : World) (n : Nat) (hn : n = W.heap.size) (cs : List Value) (T : TypeId) : ∀ j u, cs[j]? = some u → (W.alloc (.cells cs.toArray T)).cell? ((⟨n, 0, none⟩ : Addr).add j) = some u := by
  subst hn
  exact cells_new W cs T
theorem drew_grown' {w w' : World} {r : Option Nat} (h : w.drew.grownBy w' r) : w.grownBy w' r := ⟨h.os, h.tape, h.output, h.size, h.block⟩
def smpV (s : Smp) : Value := .agg #[.int .i64 s.at_, .string s.path, .int .i64 s.ms]
theorem Tryz.infoInt : (Tryz.prog.info? 3).map (fun i => (i.zero, i.size, i.bytes)) = some (some (.int .i64 0), 1, 8) := by kernel_rfl
theorem grown_below {w w1 w2 : World} {row : Option Nat} {B : Nat} (h : w.grownBy w1 row) (hb : Below B w1 w2) (hB : w.heap.size ≤ B) : w.grownBy w2 row :=
  ⟨hb.os.trans h.os, hb.tape.trans h.tape, hb.output.trans h.output, Nat.le_trans h.size hb.size, fun i hi hn => (hb.block i (by omega)).trans (h.block i hi hn)⟩
theorem below_of_grown {w w0 w1 : World} {K : Nat} (hb : Below w.heap.size w w0) (h : w0.grownBy w1 (some K)) (hK : w.heap.size ≤ K) : Below w.heap.size w w1 :=
  hb.grown h hb.size (fun j hj => by injection hj with hj; omega)
/-- Numbers in memory, below block B. -/
def IntsAt (w : World) (B : Nat) (A : Option Addr) (ts : List Int) : Prop := ∀ j, j < ts.length → ∃ g, A = some ⟨g, 0, none⟩ ∧ g < B ∧ w.cell? ⟨g, j, none⟩ = some (.int .i64 (ts.getD j 0))
theorem ints_at {w : World} {base : Nat} {v : Value} {zs : List Int} (h : IntsOwn w base v zs) : ∃ A cap, v = .slice A zs.length cap ∧ IntsAt w w.heap.size A zs ∧ ∀ g, A = some ⟨g, 0, none⟩ → v.ownBlock = some g := by
  obtain ⟨A, cap, rfl, hc⟩ := own_reads h
  refine ⟨A, cap, rfl, fun j hj => ?_, fun g hg => by rw [hg]; rfl⟩
  obtain ⟨g, h1, h2, h3⟩ := hc j (.int .i64 (zs.getD j 0)) (by rw [List.getElem?_map, List.getD_eq_getElem?_getD, List.getElem?_eq_getElem hj]; rfl)
  exact ⟨g, h1, h2, h3⟩
/-- The moment ahead of place j. -/
def prevT (ts : List Int) (j : Nat) : Int := if j = 0 then -1 else ts.getD (j - 1) 0
/-- Ahead of the round of place j. -/
def UsedI (Wc : World) (K : Nat) (xs : List Smp) (gain fresh : Int) (ts : List Int) (j : Nat) (v14 v15 v16 : Value) (wr : World) : Prop :=
  ∃ (i : Nat) (now : ByteArray) (out : List Tn) (km : List (ByteArray × Smp)) (sv : Value), sv = v14 ∧ v15 = .string now ∧ v16 = .int .i64 i ∧ i ≤ xs.length ∧ Wc.grownBy wr (some K) ∧ MapIs wr K smpV km ∧ (∀ p, get km p = lastP (xs.take i) p) ∧
    (∀ q, q < i → (xs.getD q noSmp).at_ ≤ prevT ts j) ∧ TnsOwn wr Wc.heap.size sv out ∧ Used xs gain fresh (prevT ts j) now out ∧ out.length ≤ j
/-- While samples are laid into the map. -/
def KnowI (Wc : World) (K : Nat) (xs : List Smp) (t : Int) (v14 : Value) (out : List Tn) (v16 : Value) (wr : World) : Prop :=
  ∃ (i : Nat) (km : List (ByteArray × Smp)), v16 = .int .i64 i ∧ i ≤ xs.length ∧ Wc.grownBy wr (some K) ∧ MapIs wr K smpV km ∧ (∀ p, get km p = lastP (xs.take i) p) ∧ (∀ q, q < i → (xs.getD q noSmp).at_ ≤ t) ∧ TnsOwn wr Wc.heap.size v14 out
/-- While good ones are picked. -/
def GoodI (wx : World) (K : Nat) (km : List (ByteArray × Smp)) (fresh t : Int) (c : Nat) (wi : World) : Prop :=
  ∃ (seen : List ByteArray) (gm : List (ByteArray × Int)), IterIs wi (wx.heap.size + 1) K smpV km seen c ∧ MapIs wi wx.heap.size (Value.int .i64) gm ∧ (∀ p, get gm p = if isIn seen p = true then goodOf fresh t (get km p) else none) ∧ Below wx.heap.size wx wi
/-- What Used hands back. -/
def UsedOut (w : World) (xs : List Smp) (gain fresh : Int) (e : Ending) (w' : World) : Prop :=
  ∃ v out, e = .returned (.tuple #[v, .int .i64 0]) ∧ TnsOwn w' w.heap.size v out ∧ Kept xs gain fresh out ∧ Below w.heap.size w w' ∧ out.length ≤ 4000
/-- Samples that are right. -/
structure SmpFine (xs : List Smp) : Prop where
  rises : SmpRises xs
  time : ∀ i, i < xs.length → 0 ≤ (xs.getD i noSmp).at_ ∧ (xs.getD i noSmp).at_ < 345686400
  path : ∀ i, i < xs.length → (xs.getD i noSmp).path.size ≠ 0
  ms : ∀ i, i < xs.length → -1 ≤ (xs.getD i noSmp).ms ∧ (xs.getD i noSmp).ms ≤ 1000000
theorem orOf_two {a b : Int} (h : ¬ 0 ≤ orOf [a, b]) : a < 0 ∨ (a = 0 ∧ b < 0) := by
  unfold orOf at h
  split at h
  · rename_i h0
    unfold orOf at h
    split at h
    · rename_i h1; unfold orOf at h; omega
    · omega
  · omega
theorem cmpI_le {a b : Int} (h : cmpI a b < 0 ∨ cmpI a b = 0) : a ≤ b := by
  unfold cmpI at h
  split at h
  · omega
  · split at h
    · omega
    · omega
theorem smp_fine {xs : List Smp} (h : smpFault xs = 0) (hl : xs.length ≤ 2000) : SmpFine xs := by
  have hp := fun i (hi : i < xs.length) => smp_of (smp_parts h hl hi)
  refine ⟨fun i hi => ?_, fun i hi => ?_, fun i hi => ?_, fun i hi => (hp i hi).2.2.1⟩
  · have h1 := (hp (i + 1) hi).2.2.2 (by omega)
    rw [Nat.add_sub_cancel] at h1
    have := orOf_two h1
    exact cmpI_le (by omega)
  · have := (hp i hi).1
    unfold isMom at this
    simp only [Bool.and_eq_true, decide_eq_true_eq] at this
    omega
  · have := (hp i hi).2.1
    unfold isKey at this
    simp only [Bool.and_eq_true, decide_eq_true_eq] at this
    omega
theorem smp_mem {xs : List Smp} {s : Smp} (h : s ∈ xs) : ∃ i, i < xs.length ∧ xs.getD i noSmp = s := by
  obtain ⟨i, hi, e⟩ := List.getElem_of_mem h
  exact ⟨i, hi, by rw [List.getD_eq_getElem?_getD, List.getElem?_eq_getElem hi]; simpa using e⟩
theorem pairwise_get {ts : List Int} (h : ts.Pairwise (· < ·)) {j : Nat} (hj : j + 1 < ts.length) : ts.getD j 0 < ts.getD (j + 1) 0 := by
  rw [List.getD_eq_getElem?_getD, List.getD_eq_getElem?_getD, List.getElem?_eq_getElem (by omega), List.getElem?_eq_getElem hj]
  exact List.pairwise_iff_getElem.1 h j (j + 1) (by omega) hj (by omega)
theorem prev_lt {ts : List Int} (h : ts.Pairwise (· < ·)) (h0 : ∀ t ∈ ts, 0 ≤ t ∧ t < 345686400) {j : Nat} (hj : j < ts.length) : prevT ts j < ts.getD j 0 ∧ (0 ≤ ts.getD j 0 ∧ ts.getD j 0 < 345686400) ∧ prevT ts (j + 1) = ts.getD j 0 := by
  have hm : ts.getD j 0 ∈ ts := by rw [List.getD_eq_getElem?_getD, List.getElem?_eq_getElem hj]; exact List.getElem_mem hj
  have hb := h0 _ hm
  refine ⟨?_, hb, ?_⟩
  · unfold prevT
    split
    · omega
    · have := pairwise_get h (j := j - 1) (by omega)
      rwa [show j - 1 + 1 = j from by omega] at this
  · unfold prevT
    rw [if_neg (by omega)]
    simp
theorem begins_length (l : List Tn) (t : Int) (r : ByteArray) : (beginsP l t r).length ≤ l.length + 1 := by
  unfold beginsP
  split
  · split <;> simp
  · rename_i y hy
    have : l ≠ [] := by rintro rfl; simp at hy
    have := List.length_pos_iff.2 this
    split
    · split
      · omega
      · dsimp only
        split <;> split <;> simp <;> omega
    · split <;> simp

theorem lastOf_mem (xs : List Smp) (p : ByteArray) (t : Int) (s : Smp) : lastOf xs p t = some s → s ∈ xs ∧ s.path = p := by
  unfold lastOf
  suffices ∀ o, xs.foldl (fun o y => if y.path = p ∧ y.at_ ≤ t then some y else o) o = some s → (s ∈ xs ∧ s.path = p) ∨ o = some s by
    intro h
    rcases this none h with h | h
    · exact h
    · cases h
  induction xs with
  | nil => intro o h; exact .inr h
  | cons y ys ih =>
    intro o h
    rw [List.foldl_cons] at h
    rcases ih _ h with ⟨h1, h2⟩ | h1
    · exact .inl ⟨List.mem_cons_of_mem _ h1, h2⟩
    · split at h1
      · rename_i hp
        injection h1 with h1
        subst h1
        exact .inl ⟨by simp, hp.1⟩
      · exact .inr h1
theorem good_key {xs : List Smp} (hf : SmpFine xs) {fresh t n : Int} {p : ByteArray} (h : goodAt xs fresh t p = some n) : p.size ≠ 0 ∧ (0 ≤ n ∧ n ≤ 1000000) := by
  unfold goodAt goodOf at h
  split at h
  · cases h
  · rename_i y hy
    obtain ⟨h1, h2⟩ := lastOf_mem xs p t y hy
    obtain ⟨i, hi, rfl⟩ := smp_mem h1
    split at h
    · rename_i h3
      injection h with h
      have := hf.ms i hi
      exact ⟨h2 ▸ hf.path i hi, by omega⟩
    · cases h
theorem good_of {xs : List Smp} {fresh t : Int} {km : List (ByteArray × Smp)} {gm : List (ByteArray × Int)} {seen : List ByteArray} (h1 : ∀ p, get km p = lastOf xs p t) (h2 : ∀ p, get gm p = if isIn seen p = true then goodOf fresh t (get km p) else none)
    (h3 : ∀ q ∈ km, q.1 ∈ seen) : get gm = goodAt xs fresh t := by
  funext p
  rw [h2 p]
  unfold goodAt
  rw [← h1 p]
  by_cases hs : isIn seen p = true
  · rw [if_pos hs]
  · rw [if_neg hs]
    have : get km p = none := get_none.2 fun q hq e => hs (isIn_iff.2 (e ▸ h3 q hq))
    rw [this]; rfl
theorem good_more {fresh t : Int} {km : List (ByteArray × Smp)} {gm gm' : List (ByteArray × Int)} {seen : List ByteArray} {u : ByteArray} (h : ∀ p, get gm p = if isIn seen p = true then goodOf fresh t (get km p) else none)
    (hu : get gm' u = goodOf fresh t (get km u)) (ho : ∀ p, p ≠ u → get gm' p = get gm p) : ∀ p, get gm' p = if isIn (u :: seen) p = true then goodOf fresh t (get km p) else none := by
  intro p
  rw [isIn_cons]
  by_cases e : p = u
  · subst e
    rw [hu]; simp
  · rw [ho p e, h p]
    simp [Ne.symm e]
theorem lastP_put {xs : List Smp} {i : Nat} (hi : i < xs.length) {km : List (ByteArray × Smp)} (h : ∀ p, get km p = lastP (xs.take i) p) : ∀ p, get (Hw.put km (xs.getD i noSmp).path (xs.getD i noSmp)) p = lastP (xs.take (i + 1)) p := by
  intro p
  rw [get_put, take_getD hi, lastP_snoc, h p]
  by_cases e : p = (xs.getD i noSmp).path
  · rw [if_pos e, if_pos e.symm]
  · rw [if_neg e, if_neg (Ne.symm e)]

set_option maxRecDepth 100000 in
set_option maxHeartbeats 4000000 in
theorem used_any (A : Option Addr) (cap : Nat) (xs : List Smp) (gain fresh : Int) (w : World) (h : SmsAt w w.heap.size A xs) (hl : xs.length ≤ 2000) (hss : ∀ i, (xs.getD i noSmp).path.size ≤ maxLen) (hf : smpFault xs = 0) (hg : 0 ≤ gain ∧ gain ≤ 1000000) (hfr : 1 ≤ fresh ∧ fresh ≤ 1000) :
    Calls Tryz.prog 36 #[.slice A xs.length cap, .int .i64 gain, .int .i64 fresh] w fun e w' => UsedOut w xs gain fresh e w' := by
  have hmm := @run_makeMap Tryz.prog
  obtain ⟨i0, hi, hz0, hz1, hz2⟩ := info_parts Tryz.infoInt
  have hfine := smp_fine hf hl
  have hcheck := checkSamples_any A cap xs w h hl hss hf
  have HFINE := Lib.hid hfine
  have H := Lib.hid h
  have hin : (decide (fresh < (1 : Int)) || decide (345686400 < fresh)) = false := by simp; omega
  clear h hss hf hfine
  go_enter Tryz.func36, Tryz.ntmps36
  go_wp2_with fail
  refine hcheck.mono ?_
  rintro e w1 ⟨rfl, hb1⟩
  have HB1 := Lib.hid hb1
  clear hcheck hb1
  go_wp2_with fail
  refine (gainFault_any gain _ hg).mono ?_
  rintro e w1 ⟨rfl, rfl⟩
  go_wp2_with fail
  refine (outside_any _ _ _ _).mono ?_
  rintro e w1 ⟨rfl, rfl⟩
  rw [hin]
  clear hin
  go_wp2_with fail
  go_loopw [10, 36] (fun v i wr => ∃ (k : Nat) (ms : List Int) (sv : Value), sv = v ∧ k ≤ xs.length ∧ i = .int .i64 k ∧ IntsOwn wr w.heap.size sv ms ∧ ms.length ≤ 2 * k ∧ (∀ t ∈ ms, 0 ≤ t ∧ t < 345686400) ∧ Below w.heap.size w wr) (fun _ i _ => xs.length - (intOf i).toNat)
  case atStart => exact ⟨0, [], _, rfl, by omega, rfl, World.ownsRow_nil _ _ _ _, by simp, by simp, HB1.out⟩
  case round =>
    obtain ⟨k, ms, sv, rfl, hk, rfl, ho, hml, hmt, hb⟩ := hrel
    have HM := Lib.hid hmt
    clear hmt
    by_cases hlt : k < xs.length
    · obtain ⟨g, off, rfl, hgb, c0, c1, c2⟩ := (H.out.below hb) k hlt
      have hat := HFINE.out.time k hlt
      generalize xs.getD k noSmp = x at *
      obtain ⟨xa, xp, xm⟩ := x
      simp only at c0 c1 c2 hat
      have x0 : (wr.alloc (.cells #[.int .i64 xa, .string xp, .int .i64 xm] 93)).cell? ⟨wr.heap.size, 0, none⟩ = some (.int .i64 xa) := by simp only [World.cell?, heap_alloc_new]; rfl
      have hlw : wr.heap.size < (wr.alloc (.cells #[.int .i64 xa, .string xp, .int .i64 xm] 93)).heap.size := by simp
      have hnb : sv.ownBlock ≠ some wr.heap.size := fun e => by have := (World.ownsRow.lt ho _ e).2; omega
      have hwr := hb.size
      have hb2 := hb.alloc hb.size (.cells #[.int .i64 xa, .string xp, .int .i64 xm] 93)
      have ho2 := World.ownsRow.alloc ho (.cells #[.int .i64 xa, .string xp, .int .i64 xm] 93)
      have HO2 := Lib.hid ho2
      have HB2 := Lib.hid hb2
      have HX0 := Lib.hid x0
      clear ho hb ho2 hb2 x0
      go_wp2_with (at_builtin; refine wpList_append_own _ rfl (.tmp 40) (.tmp 43) 22 rfl w.heap.size 3 i0 (.int .i64 0) 1 8 Tryz.underlying22 hi hz0 hz1 hz2 rfl (by decide) _ _ _ rfl (World.ownsRow.alloc HO2.out _) ⟨wr.heap.size + 1, 0, none⟩ 1 1 [.int .i64 xa] rfl rfl ?c1 ?c2 ?c3 ?c4 ?c5 ?_)
      case c1 => exact cells_new_at (wr.alloc (.cells #[.int .i64 xa, .string xp, .int .i64 xm] 93)) _ (by simp) [.int .i64 xa] _
      case c2 => simp [Value.oneCell']
      case c3 => unfold maxLen; omega
      case c4 => omega
      case c5 => have := HB2.out.size; simp at this ⊢; omega
      intro v1 w2 ho3 hg3 _
      have ho4 : IntsOwn w2 w.heap.size v1 (ms ++ [xa]) := own_cast ho3 (by simp) (by simp)
      have x1 : w2.cell? ⟨wr.heap.size, 0, none⟩ = some (.int .i64 xa) := (hg3.cell_far _ (by simp; omega) (Ne.symm hnb)).trans ((World.cell?_alloc_lt _ _ ⟨wr.heap.size, 0, none⟩ hlw).trans HX0.out)
      have hb4 : Below w.heap.size w w2 := ((HB2.out.alloc HB2.out.size _).grown hg3 (HB2.out.alloc HB2.out.size _).size (fun j hj => (World.ownsRow.lt HO2.out j hj).1))
      have hm4 : Hid (∀ t ∈ ms ++ [xa], 0 ≤ t ∧ t < 345686400) := Lib.hid fun t ht => by
        rcases List.mem_append.1 ht with ht | ht
        · exact HM.out t ht
        · simp only [List.mem_singleton] at ht
          rw [ht]; exact hat
      have HO4 := Lib.hid ho4
      have HB4 := Lib.hid hb4
      clear ho3 hg3 ho4 hb4 HO2 HB2 HX0 hnb
      by_cases hend : xa + fresh < 345686400
      · have hm5 : Hid (∀ t ∈ (ms ++ [xa]) ++ [xa + fresh], 0 ≤ t ∧ t < 345686400) := Lib.hid fun t ht => by
          rcases List.mem_append.1 ht with ht | ht
          · exact hm4.out t ht
          · simp only [List.mem_singleton] at ht
            rw [ht]; omega
        go_wp2_with (at_builtin; refine wpList_append_own _ rfl (.tmp 50) (.tmp 55) 22 rfl w.heap.size 3 i0 (.int .i64 0) 1 8 Tryz.underlying22 hi hz0 hz1 hz2 rfl (by decide) _ _ _ rfl (World.ownsRow.alloc HO4.out _) ⟨w2.heap.size, 0, none⟩ 1 1 [.int .i64 (xa + fresh)] rfl rfl ?d1 ?d2 ?d3 ?d4 ?d5 ?_)
        case d1 => exact cells_new w2 [.int .i64 (xa + fresh)] _
        case d2 => simp [Value.oneCell']
        case d3 => unfold maxLen; simp only [List.length_append, List.length_cons, List.length_nil]; omega
        case d4 => simp only [List.length_append, List.length_cons, List.length_nil]; omega
        case d5 => have := HB4.out.size; simp; omega
        intro v2 w3 ho5 hg5 _
        have ho6 : IntsOwn w3 w.heap.size v2 ((ms ++ [xa]) ++ [xa + fresh]) := own_cast ho5 (by simp) (by simp)
        have hb6 : Below w.heap.size w w3 := ((HB4.out.alloc HB4.out.size _).grown hg5 (HB4.out.alloc HB4.out.size _).size (fun j hj => (World.ownsRow.lt HO4.out j hj).1))
        clear ho5 hg5 HO4 HB4 hm4
        go_wp2_with fail
        go_roundw
        case rel => exact ⟨k + 1, _, v2, rfl, by omega, by go_num, ho6, by simp; omega, hm5.out, hb6⟩
        case measure => simp [intOf]; omega
      · go_wp2_with fail
        go_roundw
        case rel => exact ⟨k + 1, _, v1, rfl, by omega, by go_num, HO4.out, by simp; omega, hm4.out, HB4.out⟩
        case measure => simp [intOf]; omega
    · have : k = xs.length := by omega
      subst this
      clear HB1
      have HO := Lib.hid ho
      have HB := Lib.hid hb
      clear ho hb
      go_wp2_with fail
      refine (sort_own w.heap.size sv ms _ HO.out (by omega)).mono ?_
      rintro e w2 ⟨rfl, ho2, hg2⟩
      have hb2 := HB.out.grown hg2 HB.out.size (fun j hj => (World.ownsRow.lt HO.out j hj).1)
      have hlen2 : (ms.mergeSort fun x y => decide (x ≤ y)).length ≤ 4000 := by rw [List.length_mergeSort]; omega
      have hms2 : Hid ((ms.mergeSort fun x y => decide (x ≤ y)).Pairwise (· ≤ ·) ∧ ∀ t ∈ (ms.mergeSort fun x y => decide (x ≤ y)), 0 ≤ t ∧ t < 345686400) := Lib.hid ⟨sorted_ms ms, fun t ht => HM.out t (List.mem_mergeSort.1 ht)⟩
      generalize (ms.mergeSort fun x y => decide (x ≤ y)) = m2 at *
      have HO2 := Lib.hid ho2
      have HB2 := Lib.hid hb2
      have hK := MapIs.made w2 smpV
      have HK := Lib.hid hK
      have hw2 : w.heap.size ≤ w2.heap.size := hb2.size
      clear HO HB ho2 hb2 hg2 hK HM hml
      go_wp2_with fail
      refine (compact_own w.heap.size sv m2 _ (World.ownsRow.alloc HO2.out _) (by omega)).mono ?_
      rintro e w3 ⟨v3, rfl, ho3, hg3, hv3⟩
      obtain ⟨hc1, hc2⟩ := compact_spec m2 hms2.out.1
      have hts : Hid ((Go.Lib.compact m2).Pairwise (· < ·) ∧ ∀ t ∈ (Go.Lib.compact m2), 0 ≤ t ∧ t < 345686400) := Lib.hid ⟨hc1, fun t ht => hms2.out.2 t (hc2 t ht)⟩
      have hlen3 : (Go.Lib.compact m2).length ≤ 4000 := Nat.le_trans (Go.Lib.compact_length_le m2) hlen2
      generalize Go.Lib.compact m2 = ts at *
      have hne : some w2.heap.size ≠ sv.ownBlock := fun e => by have := (World.ownsRow.lt HO2.out _ e.symm).2; omega
      have hK3 : MapIs w3 w2.heap.size smpV [] := HK.out.grown hg3 hne
      have hb3 : Below w.heap.size w w3 := (HB2.out.alloc HB2.out.size _).grown hg3 (HB2.out.alloc HB2.out.size _).size (fun j hj => (World.ownsRow.lt HO2.out j hj).1)
      obtain ⟨A3, c3, rfl, hT, hAg⟩ := ints_at ho3
      have hown3 := World.ownsRow.lt ho3
      have HT := Lib.hid hT
      have HB3 := Lib.hid hb3
      have HK3 := Lib.hid hK3
      have hlt3 : w2.heap.size < w3.heap.size := hK3.lt
      have hKA : Hid (∀ g, A3 = some ⟨g, 0, none⟩ → g ≠ w2.heap.size) := Lib.hid fun g hg e => hne (by rw [← hv3, hAg g hg, e])
      have hU0 : UsedI w3 w2.heap.size xs gain fresh ts 0 (.slice none 0 0) (.string ⟨#[]⟩) (.int .i64 (0 : Nat)) w3 := ⟨0, ⟨#[]⟩, [], [], _, rfl, rfl, rfl, by omega, World.grownBy.refl _ _, HK3.out, fun p => rfl, fun q hq => by omega, World.ownsRow_nil _ _ _ _, Used.begin xs gain fresh _, by simp⟩
      have HU0 := Lib.hid hU0
      clear HO2 HB2 HK hms2 ho3 hg3 hv3 hc1 hc2 hne hK3 hb3 hT hAg hown3 hU0
      go_wp2_with fail
      go_loopw [14, 15, 16, 64] (fun v14 v15 v16 v64 wr => ∃ j : Nat, j ≤ ts.length ∧ v64 = .int .i64 j ∧ UsedI w3 w2.heap.size xs gain fresh ts j v14 v15 v16 wr) (fun _ _ _ v64 _ => ts.length - (intOf v64).toNat)
      case atStart => exact ⟨0, by omega, rfl, HU0.out⟩
      case round =>
        obtain ⟨j, hj, rfl, hU⟩ := hrel
        clear HU0
        obtain ⟨i, now, out, km, sv, rfl, rfl, rfl, hi', hG, hK, hget, hbe, hO, hU, hol⟩ := hU
        have hbw : Below w.heap.size w wr := below_of_grown HB3.out hG hw2
        by_cases hjt : j < ts.length
        · obtain ⟨hpt, ht, hpn⟩ := prev_lt hts.out.1 hts.out.2 hjt
          obtain ⟨g3, rfl, hg3, hc3⟩ := HT.out j hjt
          have hcw : wr.cell? ⟨g3, j, none⟩ = some (.int .i64 (ts.getD j 0)) := (World.cell?_of_block (w := w3) (hG.block g3 hg3 (by intro e; injection e with e; exact hKA.out g3 rfl e))).trans hc3
          have hKn0 : KnowI w3 w2.heap.size xs (ts.getD j 0) sv out (.int .i64 i) wr := ⟨i, km, rfl, hi', hG, hK, hget, fun q hq => by have := hbe q hq; omega, hO⟩
          have HKn0 := Lib.hid hKn0
          have HU := Lib.hid hU
          have HPN := Lib.hid hpn
          clear hc3 hG hK hget hbe hO hU hbw hKn0 hpn
          generalize ts.getD j 0 = t at *
          go_wp2_with fail
          clear hcw
          go_loopw [16] (fun v16 wi => KnowI w3 w2.heap.size xs t sv out v16 wi) (fun v16 _ => xs.length - (intOf v16).toNat)
          case atStart => exact HKn0.out
          case round =>
            clear HKn0
            obtain ⟨i, km, rfl, hi', hG, hK, hget, hbe, hO⟩ := hrel
            have hbw : Below w.heap.size w wr := below_of_grown HB3.out hG hw2
            by_cases hc : i < xs.length ∧ (xs.getD i noSmp).at_ ≤ t
            · obtain ⟨hlt, hle⟩ := hc
              obtain ⟨g, off, rfl, hgb, c0, c1, c2⟩ := (H.out.below hbw) i hlt
              have hgn := lastP_put hlt hget
              obtain ⟨w5, hput, hK5, hg5, _⟩ := run_put hK.drew (P := Tryz.prog) Tryz.underlying143 Tryz.underlying9 (xs.getD i noSmp).path (xs.getD i noSmp)
              have hbe' : ∀ q, q < i + 1 → (xs.getD q noSmp).at_ ≤ t := fun q hq => by
                by_cases e : q = i
                · rw [e]; exact hle
                · exact hbe q (by omega)
              have hO5 : TnsOwn w5 w3.heap.size sv out := hO.keep (drew_grown' hg5) (fun j hj => by injection hj with hj; omega)
              have hG5 : w3.grownBy w5 (some w2.heap.size) := hG.andThen (drew_grown' hg5) (fun _ h => .inr h)
              have HN := Lib.hid (show KnowI w3 w2.heap.size xs t sv out (.int .i64 ((i + 1 : Nat) : Int)) w5 from ⟨i + 1, _, rfl, hlt, hG5, hK5, hgn, hbe', hO5⟩)
              have hgw : g < wr.heap.size := by have := hbw.size; omega
              have y0 := (hg5.cell_far ⟨g, off + i * 3, none⟩ hgw (by simp; omega)).trans c0
              have y1 := (hg5.cell_far ⟨g, off + i * 3 + 1, none⟩ hgw (by simp; omega)).trans c1
              have y2 := (hg5.cell_far ⟨g, off + i * 3 + 2, none⟩ hgw (by simp; omega)).trans c2
              unfold smpV at hput
              clear hG hK hget hbe hO hbw hgn hK5 hg5 hbe' hO5 hG5
              generalize xs.getD i noSmp = x at *
              obtain ⟨xa, xp, xm⟩ := x
              simp only at c0 c1 c2 y0 y1 y2 hle hput
              go_wp2_with fail
              go_region_held3 (fun w' => w'.cell? ⟨g, off + i * 3, none⟩ = some (.int .i64 xa) ∧ w'.cell? ⟨g, off + i * 3 + 1, none⟩ = some (.string xp) ∧ w'.cell? ⟨g, off + i * 3 + 2, none⟩ = some (.int .i64 xm))
                (first | go_keep | exact ⟨c0, c1, c2⟩ | exact ⟨y0, y1, y2⟩) (fail)
              clear y0 y1 y2 hput
              go_wp2_with fail
              go_roundw
              case rel => exact HN.out
              case measure => simp [intOf]; omega
            · have hx : i < xs.length → t < (xs.getD i noSmp).at_ := fun h1 => by
                by_cases h2 : (xs.getD i noSmp).at_ ≤ t
                · exact absurd ⟨h1, h2⟩ hc
                · omega
              have hlast : ∀ p, get km p = lastOf xs p t := fun p => (hget p).trans (last_eq HFINE.out.rises hi' hbe hx p).symm
              obtain ⟨w5, hrange, hIt, hg5, _⟩ := run_iter (hK.alloc (.map #[] 0)) (P := Tryz.prog) Tryz.underlying143
              have hsz : (wr.alloc (.map #[] 0)).heap.size = wr.heap.size + 1 := by simp
              rw [hsz] at hrange hIt
              have hGI : GoodI wr w2.heap.size km fresh t km.length w5 := ⟨[], [], hIt, (MapIs.made wr _).grown hg5 (by simp), fun p => rfl, ((Below.refl _ _).alloc (Nat.le_refl _) _).grown hg5 (by simp) (fun j hj => by cases hj)⟩
              have HGI := Lib.hid hGI
              have HL := Lib.hid hlast
              have HG := Lib.hid hG
              have HK := Lib.hid hK
              have HGET := Lib.hid hget
              have HBE := Lib.hid hbe
              have HO := Lib.hid hO
              clear hlast hIt hg5 hsz hGI hG hK hget hbe hO hx
              rcases (show i = xs.length ∨ (i < xs.length ∧ t < (xs.getD i noSmp).at_) from by
                by_cases h1 : i < xs.length
                · exact .inr ⟨h1, by by_cases h2 : (xs.getD i noSmp).at_ ≤ t; exact absurd ⟨h1, h2⟩ hc; omega⟩
                · exact .inl (by omega)) with hend | ⟨hlt, hgt⟩
              case' inl =>
                have hd : decide (i < xs.length) = false := by simp; omega
                clear hc hbw hend
                go_wp2_with fail
              case' inr =>
                obtain ⟨g, off, rfl, hgb, c0, c1, c2⟩ := (H.out.below hbw) i hlt
                clear hc hbw c1 c2
                have hd : decide (i < xs.length) = true := by simp; omega
                generalize (xs.getD i noSmp).at_ = xa at c0 hgt
                go_wp2_with fail
                clear c0
              all_goals
                obtain ⟨wx, rfl⟩ : ∃ wx : World, wx = wr := ⟨_, rfl⟩
                go_loopg [20] (km.length) (fun c _ wi => GoodI wx w2.heap.size km fresh t c wi)
                case atStart => exact HGI.out
                case round =>
                  clear HGI
                  obtain ⟨seen, gm, hIt, hGm, hgm, hb⟩ := hrel
                  rcases run_iter_next hIt (P := Tryz.prog) 0 with ⟨h0, hall, hrun⟩ | ⟨u, s, w6, c', hmem, hns, hrun, hIt', hlt', hg6, _, hent⟩
                  · have hgg := good_of HL.out hgm hall
                    have hkeys : ∀ p ∈ gm, p.1.size ≠ 0 ∧ (0 ≤ p.2 ∧ p.2 ≤ 1000000) := fun p hp => good_key HFINE.out (t := t) (fresh := fresh) (by rw [← hgg]; exact get_of_mem hGm.keys hp)
                    have hch := choose_any wx.heap.size gm now gain wr hGm hkeys hg
                    rw [hgg] at hch
                    have hO2 := own_below HO.out hb (Nat.le_refl _)
                    have HOW := Lib.hid hO2
                    have HBX := Lib.hid hb
                    clear hIt h0 hall hgg hkeys hGm hgm hb hO2
                    go_wp2_with fail
                    refine hch.mono ?_
                    rintro e w7 ⟨r, rfl, hcho, hb7⟩
                    have hO7 := own_below HOW.out hb7 (Nat.le_refl _)
                    have HCHO := Lib.hid hcho
                    have hb17 := HBX.out.trans (hb7.mono HBX.out.size)
                    have HB17 := Lib.hid hb17
                    have hw37 : w3.heap.size ≤ w7.heap.size := by have := hb17.size; have := HG.out.size; omega
                    clear hch hb7 hb17 HOW HBX hrun hcho
                    go_wp2_with fail
                    refine (begins_any w3.heap.size sv out t r w7 hO7 (by omega) (fun y hy => by have := HU.out.from_ y hy; omega) hw37).mono ?_
                    rintro e w8 ⟨v8, rfl, hO8, hb8⟩
                    have hrelN : UsedI w3 w2.heap.size xs gain fresh ts (j + 1) v8 (.string r) (.int .i64 i) w8 := by
                      refine ⟨i, r, beginsP out t r, km, v8, rfl, rfl, rfl, hi', ?_, ?_, HGET.out, ?_, hO8, ?_, ?_⟩
                      · exact grown_below (grown_below HG.out HB17.out HG.out.size) hb8 (Nat.le_refl _)
                      · exact (HK.out.below HB17.out HK.out.lt).below hb8 hlt3
                      · rw [HPN.out]; exact HBE.out
                      · rw [HPN.out]; exact HU.out.step hpt (by unfold endT; omega) HCHO.out
                      · have := begins_length out t r; omega
                    have HRN := Lib.hid hrelN
                    clear hO7 hO8 hb8 HB17 hrelN
                    go_wp2_with fail
                    go_roundw
                    case rel => exact ⟨j + 1, by omega, by go_num, HRN.out⟩
                    case measure => simp [intOf]; omega
                  · have hgu : get km u = some s := get_of_mem HK.out.keys hmem
                    have hsx : ∃ q, q < xs.length ∧ xs.getD q noSmp = s := by
                      have h1 := HGET.out u
                      rw [hgu] at h1
                      exact smp_mem (List.mem_of_mem_take (lastP_mem _ _ _ h1.symm).1)
                    obtain ⟨q, hq, hqs⟩ := hsx
                    have htm := HFINE.out.time q hq
                    rw [hqs] at htm
                    have hb6 : Below wx.heap.size wx w6 := hb.grown hg6 hb.size (fun j hj => by injection hj with hj; omega)
                    have hKw : w2.heap.size < wx.heap.size := HK.out.lt
                    have hGm6 : MapIs w6 wx.heap.size (Value.int .i64) gm := hGm.grown hg6 (by simp)
                    have HIT := Lib.hid hIt'
                    have HGM := Lib.hid hgm
                    have HGU := Lib.hid hgu
                    have HNS := Lib.hid hns
                    have HB6 := Lib.hid hb6
                    have HGM6 := Lib.hid hGm6
                    clear hIt hb hg6 hb6 hIt' hgm hgu hmem hns hqs hGm hGm6 hq
                    obtain ⟨sa, sp, sm⟩ := s
                    simp only at htm
                    unfold smpV at hrun hent
                    have hbB := HB6.out.alloc HB6.out.size (.cells #[.int .i64 sa, .string sp, .int .i64 sm] 93)
                    have hItB : IterIs (w6.alloc (.cells #[.int .i64 sa, .string sp, .int .i64 sm] 93)) (wx.heap.size + 1) w2.heap.size smpV km (u :: seen) c' := iter_below HIT.out (below_alloc w6 _) (Nat.le_refl _)
                    have hGmB := HGM6.out.alloc (.cells #[.int .i64 sa, .string sp, .int .i64 sm] 93)
                    have HBB := Lib.hid hbB
                    have HITB := Lib.hid hItB
                    have HGMB := Lib.hid hGmB
                    clear HB6 HIT HGM6 hbB hItB hGmB
                    by_cases h1 : 0 ≤ sm
                    · by_cases h2 : t < sa + fresh
                      · obtain ⟨w7, hput, hG7, hg7, _⟩ := run_put HGMB.out (P := Tryz.prog) Tryz.underlying145 Tryz.underlying9 u sm
                        have hnew := good_more (u := u) (gm' := Hw.put gm u sm) HGM.out (by rw [get_put, if_pos rfl, HGU.out]; show some sm = if 0 ≤ sm ∧ t < sa + fresh then some sm else none; rw [if_pos ⟨h1, h2⟩]) (fun p hp => by rw [get_put, if_neg hp])
                        have HN := Lib.hid (show GoodI wx w2.heap.size km fresh t c' w7 from ⟨u :: seen, _, HITB.out.grown hg7 (by intro e; injection e; omega) (by intro e; injection e; omega), hG7, hnew, HBB.out.grown hg7 HBB.out.size (fun j hj => by injection hj with hj; omega)⟩)
                        clear HITB HGMB HBB HGM HGU hG7 hg7 hnew
                        go_wp2_with fail
                        go_roundg c'
                        case measure => exact hlt'
                        case rel => exact HN.out
                      · have hnew := good_more (u := u) (gm' := gm) HGM.out (by
                          rw [HGU.out, HGM.out u, if_neg (fun e => HNS.out (isIn_iff.1 e))]
                          show none = if 0 ≤ sm ∧ t < sa + fresh then some sm else none
                          rw [if_neg (fun e => h2 e.2)]) (fun p hp => rfl)
                        have HN := Lib.hid (show GoodI wx w2.heap.size km fresh t c' _ from ⟨u :: seen, _, HITB.out, HGMB.out, hnew, HBB.out⟩)
                        clear HITB HGMB HBB HGM HGU hnew
                        go_wp2_with fail
                        go_roundg c'
                        case measure => exact hlt'
                        case rel => exact HN.out
                    · have hnew := good_more (u := u) (gm' := gm) HGM.out (by
                        rw [HGU.out, HGM.out u, if_neg (fun e => HNS.out (isIn_iff.1 e))]
                        show none = if 0 ≤ sm ∧ t < sa + fresh then some sm else none
                        rw [if_neg (fun e => h1 e.1)]) (fun p hp => rfl)
                      have HN := Lib.hid (show GoodI wx w2.heap.size km fresh t c' _ from ⟨u :: seen, _, HITB.out, HGMB.out, hnew, HBB.out⟩)
                      clear HITB HGMB HBB HGM HGU hnew
                      go_wp2_with fail
                      go_roundg c'
                      case measure => exact hlt'
                      case rel => exact HN.out
        · have : j = ts.length := by omega
          subst this
          have HFIN := Lib.hid (show UsedOut w xs gain fresh (.returned (.tuple #[sv, .int .i64 0])) wr from ⟨sv, out, rfl, own_base hO HB3.out.size, hU.kept, hbw, by omega⟩)
          clear hG hK hget hbe hO hU hbw
          go_wp2_with fail
          go_ret2
          exact HFIN.out
end Go.Proofs.YtdkgmmngoojamaaGreatDoor
