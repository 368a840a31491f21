/- SetsAreAlgebra: the walk. -/
import Derived.Test.YtcmfkheohhfpiaaGreatDoorPhK
import Derived.Test.YtcmfkheohhfpiaaGreatDoorPhI
import Derived.Test.YtcmfkheohhfpiaaGreatDoorRyF
import Derived.Test.YtcmfkheohhfpiaaGreatDoorHbo
import Derived.Test.YtcmfkheohhfpiaaGreatDoorRgU
import Derived.Laws.EntriesVeiled
namespace Go.Proofs.YtcmfkheohhfpiaaGreatDoor
open Go.RowKit Go.Hw
/-- What stands: no fault, the closure, the three sets. -/
structure AlI (w : World) (fb db : Nat) (D : TypeId) (va vb vc : Value) (SA SB SC : List Sn) (W : World) : Prop where
  below : Below w.heap.size w W
  f : W.heap[fb]? = some (.cells #[.int .i64 0] 32 (0, 0))
  d : W.heap[db]? = some (.cells #[.func (.func 19) #[] #[.pointer (some ⟨fb, 0, none⟩)]] D (0, 0))
  a : VS (hasS SA) W va
  b : VS (hasS SB) W vb
  c : VS (hasS SC) W vc
theorem AlI.call {w W W' : World} {fb db : Nat} {D : TypeId} {va vb vc : Value} {SA SB SC : List Sn} (h : AlI w fb db D va vb vc SA SB SC W) (hb : Below W.heap.size W W') : AlI w fb db D va vb vc SA SB SC W' :=
  ⟨h.below.trans (hb.mono h.below.size), (hb.block _ (lt_of_block h.f)).trans h.f, (hb.block _ (lt_of_block h.d)).trans h.d, VS.kept _ _ _ _ h.a hb, VS.kept _ _ _ _ h.b hb, VS.kept _ _ _ _ h.c hb⟩
theorem AlI.dc {w W : World} {fb db : Nat} {D : TypeId} {va vb vc : Value} {SA SB SC : List Sn} (h : AlI w fb db D va vb vc SA SB SC W) : W.cell? ⟨db, 0, none⟩ = some (.func (.func 19) #[] #[.pointer (some ⟨fb, 0, none⟩)]) := by simp [World.cell?, h.d]
theorem AlI.fc {w W : World} {fb db : Nat} {D : TypeId} {va vb vc : Value} {SA SB SC : List Sn} (h : AlI w fb db D va vb vc SA SB SC W) : W.cell? ⟨fb, 0, none⟩ = some (.int .i64 0) := by simp [World.cell?, h.f]
theorem CovN.le {p : Nat → Prop} {n m : Nat} (h : CovN p n) (hm : n ≤ m) : CovN p m := by
  obtain ⟨B, h1, h2, h3⟩ := h
  exact ⟨B, h1, Nat.le_trans h2 hm, h3⟩
theorem heap_alloc_size (w : World) (o : Obj) : (w.alloc o).heap.size = w.heap.size + 1 := by unfold World.alloc; exact Array.size_push _
def alJ (p q : Nat → Prop) : Nat → Prop := fun k => p k ∨ q k
def alM (p q : Nat → Prop) : Nat → Prop := fun k => p k ∧ q k
def alL (p q : Nat → Prop) : Nat → Prop := fun k => p k ∧ ¬ q k
def alR (p : Nat → Prop) : Nat → Prop := fun k => inU k ∧ ¬ p k
section
variable {U A B C : Prop}
theorem al_e1 : (A ∨ B) ↔ (B ∨ A) := by by_cases A <;> by_cases B <;> simp_all
theorem al_e2 : (A ∧ (B ∨ C)) ↔ ((A ∧ B) ∨ (A ∧ C)) := by by_cases A <;> by_cases B <;> by_cases C <;> simp_all
theorem al_e3 : (A ∨ (B ∧ C)) ↔ ((A ∨ B) ∧ (A ∨ C)) := by by_cases A <;> by_cases B <;> by_cases C <;> simp_all
theorem al_e4 (u : A → U) : (U ∧ ¬ (U ∧ ¬ A)) ↔ A := by by_cases A <;> by_cases U <;> simp_all
theorem al_e5 : (U ∧ ¬ (A ∨ B)) ↔ ((U ∧ ¬ A) ∧ (U ∧ ¬ B)) := by by_cases A <;> by_cases B <;> by_cases U <;> simp_all
theorem al_e6 (u : A → U) : (A ∧ ¬ B) ↔ (A ∧ (U ∧ ¬ B)) := by by_cases A <;> by_cases B <;> by_cases U <;> simp_all
theorem al_e7 (u : A → U) : ¬ (A ∧ (U ∧ ¬ A)) := by by_cases A <;> by_cases U <;> simp_all
end
/-- Rows of digits without a zero ahead, worth the same. -/
theorem dg_one {a b : List UInt8} (ha : digB a) (hb : digB b) (za : a.head? ≠ some 48) (zb : b.head? ≠ some 48) (h : worthB a = worthB b) : a = b := by
  have head : ∀ {l : List UInt8}, digB l → l.head? ≠ some 48 → (dgN l).head? ≠ some 0 := by
    intro l hl hz e
    rcases l with _ | ⟨x, l⟩
    · cases e
    · have h1 := hl x (by simp)
      have e2 : x.toNat - 48 = 0 := Option.some.inj e
      refine hz (congrArg some ?_)
      rw [← UInt8.toNat_inj]
      show x.toNat = 48
      omega
  have e := worth_one (dgN_lt ha) (dgN_lt hb) (head ha za) (head hb zb) h
  have back : ∀ {l m : List UInt8}, digB l → digB m → dgN l = dgN m → l = m := by
    intro l
    induction l with
    | nil =>
      intro m _ _ e
      rcases m with _ | ⟨y, m⟩
      · rfl
      · cases e
    | cons x l ih =>
      intro m hl hm e
      rcases m with _ | ⟨y, m⟩
      · cases e
      · injection e with e1 e2
        have h1 := hl x (by simp)
        have h2 := hm y (by simp)
        have e3 : x.toNat - 48 = y.toNat - 48 := e1
        have hxy : x = y := by rw [← UInt8.toNat_inj]; omega
        rw [hxy, ih (fun z hz => hl z (by simp [hz])) (fun z hz => hm z (by simp [hz])) e2]
  exact back ha hb e
theorem wp_region_vs {P : Program} {ops : Array Oper} {Q : Exit → Act → World → Prop} {id : Nat} (n : Nat) {w : World} (A : (Nat → Value) → Act) (l : List (World → Value → Prop)) (W : World) (f0 : Nat → Value) (K : Nat)
    (hm : P.follows .mixedOrders = true) (hok : regOkF ops n K = true) (kept : ∀ p ∈ l, KeptV p)
    (step : ∀ (i : Nat) (o : Oper), i < n → ops[i]? = some o → ∀ (f : Nat → Value) (w : World), Hid (Below W.heap.size W w) → (∀ e ∈ o.after, Region.binds .any e = true → VO l e.on w (f e.on)) →
      OpStep P ops Q o (A f) w (fun a' w' => ∃ v, a' = A (upd f i v) ∧ VO l i w' v ∧ Below w.heap.size w w'))
    (last : ∀ (o : Oper), ops[n]? = some o → ∀ (f : Nat → Value) (w : World), Hid (Below W.heap.size W w) → (∀ j, j < n → VO l j w (f j)) → Region.wanted o (yielded ops (A f).tmps) = true ∧ o.wp P (A f) w (fun a' w' => Q .normal a' w') Q)
    (h0 : W = w) : (Code.region id ops true).wp P Q (A f0) w := by
  subst h0
  refine wp_region_free n A (VO l) (fun _ w' => Hid (Below W.heap.size W w')) (fun w w' => Below w.heap.size w w') f0 K hm hok (fun i w w' v h hb => VO.kept kept i w w' v h hb) ?_ ?_ (Lib.hid (Below.refl _ _).drew)
  · intro i o hi ho f w' k _ hG hd
    exact OpStep.mono (fun a' w2 ⟨v, e1, e2, e3⟩ => ⟨v, e1, e2, Lib.hid (hG.out.trans (e3.mono hG.out.size)), e3⟩) (step i o hi ho f w' hG hd)
  · intro o ho f w' k _ hG hd
    exact last o ho f w' hG hd
theorem vs_px {w : World} {A : Option Addr} {c : Nat} {P : List Pf} {S : List Sn} (h : pxAt w A P) (hs : SetIs P S) (hl : P.length ≤ 1000) : VS (hasS S) w (.slice A P.length c) := ⟨A, c, P, S, rfl, h, hs, fun _ => Iff.rfl, hl⟩
theorem VS.bd {p : Nat → Prop} {w : World} {v : Value} (h : VS p w v) : BdN p 1000 := by
  obtain ⟨A, c, P, T, rfl, h2, h3, h4, h5⟩ := h
  intro U u1 u2 u3
  have : U = T := set_eq u2 h3.norm (fun k => (u1 k).trans (h4 k).symm)
  rw [this, ← h3.len]
  exact h5
set_option maxRecDepth 100000 in
set_option maxHeartbeats 16000000 in
theorem setsAreAlgebra_any (A : Option Addr) (cap : Nat) (l : List Int) (w : World) (hA : ∀ i, i < l.length → ∃ g off, A = some ⟨g, off, none⟩ ∧ g < w.heap.size ∧ w.cell? ⟨g, off + i, none⟩ = some (.int .i64 (l.getD i 0)))
    (hfits : ∀ i, -9223372036854775808 ≤ l.getD i 0 ∧ l.getD i 0 ≤ 9223372036854775807) (hlong : l.length ≤ 17592186044416) (hmx : MxW w ∧ Lib.TabIs Tryz.prog w "internal/strconv.uint64pow10" .u64 Lib.pow10Tab) :
    Calls Tryz.prog 4 #[.slice A l.length cap] w fun e w' => e = .returned (.bool true) ∧ Below w.heap.size w w' := by
  have hs0 : Str (w.alloc (.cells #[.slice A l.length cap, .int .i64 0] 25)) w.heap.size A cap l 0 := {
    cell := heap_alloc_new w _
    ints := fun i hi => by
      obtain ⟨g, off, h1, h2, h3⟩ := hA i hi
      exact ⟨g, off, h1, h2, by rw [World.cell?_alloc_lt _ _ _ h2]; exact h3⟩
    fits := hfits
    long := hlong
    low := by omega
    high := by omega }
  have hB0 : Below w.heap.size w (w.alloc (.cells #[.slice A l.length cap, .int .i64 0] 25)) := (Below.refl _ _).alloc (Nat.le_refl _) _
  have HS := Lib.hid hs0
  have HB := Lib.hid hB0
  have HM := Lib.hid hmx.1
  have HT := Lib.hid hmx.2
  clear hs0 hB0 hA hfits hmx
  go_enter Tryz.func4, Tryz.ntmps4
  go_upto_region 2 with (fail)
  generalize hW : World.alloc _ _ = W1 at HS HB ⊢
  clear hW
  have hb0 := HS.out.lt
  go_wp2_with fail
  refine (rightSet_any w.heap.size A cap l 0 W1 HS.out (by omega)).mono ?_
  rintro e W2 ⟨v1, PA, SA, x1, rfl, ho1, hsa, hla, hx1, hs1, hg1⟩
  obtain ⟨A1, c1, rfl, ha1, -⟩ := px_own ho1
  have HT1 := Lib.hid ha1
  have HS1 := Lib.hid hs1
  have HG1 := Lib.hid hg1
  have HSA := Lib.hid hsa
  have HNE1 : Hid (∀ a, A1 = some a → some a.block ≠ some w.heap.size) := Lib.hid (fun a ha e => by
    injection e with e
    have := (ho1.lt a.block (by rw [ha]; rfl)).1
    omega)
  have hz1 := hg1.size
  clear ha1 ho1 hs1 hg1 hsa
  go_wp2_with fail
  refine (rightSet_any w.heap.size A cap l x1 W2 HS1.out (by omega)).mono ?_
  rintro e W3 ⟨v2, PB, SB, x2, rfl, ho2, hsb, hlb, hx2, hs2, hg2⟩
  obtain ⟨A2, c2, rfl, ha2, -⟩ := px_own ho2
  have HT2 := Lib.hid ha2
  have HS2 := Lib.hid hs2
  have HSB := Lib.hid hsb
  have HT12 := Lib.hid (HT1.out.grown hg2 HNE1.out)
  have HG2 := Lib.hid (HG1.out.andThen hg2 (fun _ h => .inr h))
  have HNE2 : Hid (∀ a, A2 = some a → some a.block ≠ some w.heap.size) := Lib.hid (fun a ha e => by
    injection e with e
    have := (ho2.lt a.block (by rw [ha]; rfl)).1
    omega)
  have hz2 := hg2.size
  clear ha2 ho2 hs2 hg2 hsb
  go_wp2_with fail
  refine (rightSet_any w.heap.size A cap l x2 W3 HS2.out (by omega)).mono ?_
  rintro e W4 ⟨v3, PC, SC, x3, rfl, ho3, hsc, hlc, hx3, hs3, hg3⟩
  obtain ⟨A3, c3, rfl, ha3, -⟩ := px_own ho3
  have HSC := Lib.hid hsc
  have HT13 := Lib.hid (HT12.out.grown hg3 HNE1.out)
  have HT23 := Lib.hid (HT2.out.grown hg3 HNE2.out)
  have HT33 := Lib.hid ha3
  have HG3 := Lib.hid (HG2.out.andThen hg3 (fun _ h => .inr h))
  have HB4 : Hid (Below w.heap.size w W4) := Lib.hid (HB.out.grown HG3.out HB.out.size (fun j e => by injection e with e; omega))
  have hw4 := HB4.out.size
  clear ha3 ho3 hs3 hg3 hsc HS HS1 HS2 HT1 HT12 HT2 HG1 HG2 HG3 HB HNE1 HNE2 hz1 hz2 hx1 hx2 hx3 hb0
  go_upto_region 6 with (fail)
  have HI : Hid (AlI w W4.heap.size (W4.heap.size + 1) 51 (.slice A1 PA.length c1) (.slice A2 PB.length c2) (.slice A3 PC.length c3) SA SB SC ((W4.alloc (.cells #[.int .i64 0] 32)).alloc (.cells #[.func (.func 19) #[] #[.pointer (some ⟨W4.heap.size, 0, none⟩)]] 51))) := by
    have b1 : Below W4.heap.size W4 (W4.alloc (.cells #[.int .i64 0] 32)) := (Below.refl _ _).alloc (Nat.le_refl _) _
    have b2 := b1.alloc b1.size (.cells #[.func (.func 19) #[] #[.pointer (some ⟨W4.heap.size, 0, none⟩)]] 51)
    have n1 := heap_alloc_new W4 (.cells #[.int .i64 0] 32)
    have n2 := heap_alloc_new (W4.alloc (.cells #[.int .i64 0] 32)) (.cells #[.func (.func 19) #[] #[.pointer (some ⟨W4.heap.size, 0, none⟩)]] 51)
    rw [heap_alloc_size] at n2
    exact Lib.hid ⟨HB4.out.trans (b2.mono hw4), (Below.heap_alloc _ _ _ (lt_of_block n1)).trans n1, n2, VS.kept _ _ _ _ (vs_px HT13.out HSA.out (by omega)) b2, VS.kept _ _ _ _ (vs_px HT23.out HSB.out (by omega)) b2, VS.kept _ _ _ _ (vs_px HT33.out HSC.out (by omega)) b2⟩
  have CA : Hid (CovN (hasS SA) 5) := Lib.hid (HSA.out.cov.le hla)
  have CB : Hid (CovN (hasS SB) 5) := Lib.hid (HSB.out.cov.le hlb)
  have CC : Hid (CovN (hasS SC) 5) := Lib.hid (HSC.out.cov.le hlc)
  have UA : Hid (∀ k, hasS SA k → inU k) := Lib.hid fun k h => set_inU HSA.out.fam h
  have UB : Hid (∀ k, hasS SB k → inU k) := Lib.hid fun k h => set_inU HSB.out.fam h
  generalize hV : World.alloc (World.alloc W4 _) _ = V0 at HI ⊢
  clear hV
  have hfb := hw4
  generalize W4.heap.size = fb at HI hfb ⊢
  obtain ⟨db, hdb⟩ : ∃ db, db = fb + 1 := ⟨_, rfl⟩
  rw [← hdb] at HI ⊢
  obtain ⟨va, hva⟩ : ∃ v, v = Value.slice A1 PA.length c1 := ⟨_, rfl⟩
  obtain ⟨vb, hvb⟩ : ∃ v, v = Value.slice A2 PB.length c2 := ⟨_, rfl⟩
  obtain ⟨vc, hvc⟩ : ∃ v, v = Value.slice A3 PC.length c3 := ⟨_, rfl⟩
  rw [← hva, ← hvb, ← hvc] at HI ⊢
  clear hdb hva hvb hvc HT13 HT23 HT33 HB4 hw4
  have hd := HI.out.dc
  have hc := do_union (p := (hasS SA)) (q := (hasS SB)) (r := fun k => hasS SA k ∨ hasS SB k) fb V0 HI.out.a HI.out.b (fun _ => Iff.rfl) (CovN.bd (CA.out.or CB.out) (by omega))
  go_wp2_with fail
  refine hc.mono ?_
  rintro e V1 ⟨z1, rfl, hz, hb⟩
  have HI1 := Lib.hid (HI.out.call hb)
  clear hd
  have hd := HI1.out.dc
  clear HI
  have Hz1 : Hid (VS (fun k => hasS SA k ∨ hasS SB k) V1 z1) := Lib.hid hz
  clear hc hz hb
  have hc := rest_got2 (p := (fun k => hasS SA k ∨ hasS SB k)) (r := fun k => inU k ∧ ¬ (hasS SA k ∨ hasS SB k)) fb db V1 Hz1.out (fun _ => Iff.rfl) HI1.out.f HI1.out.d
  go_wp2_with fail
  refine hc.mono ?_
  rintro e V2 (⟨z2, rfl, hz, hb⟩ | ⟨-, B2, d2, rfl, hf2, hg2⟩)
  rotate_left
  · have hc2 : V2.cell? ⟨fb, 0, none⟩ = some (.int .i64 2) := by simp [World.cell?, hf2]
    have HB2 : Hid (Below w.heap.size w V2) := Lib.hid (HI1.out.below.grown hg2 HI1.out.below.size (fun j e => by injection e with e; omega))
    clear hf2 hg2 hc
    go_wp2_with fail
    refine (ready2 V2 (HM.out.below HB2.out)).mono ?_
    rintro e V3 ⟨rfl, hb3⟩
    have HB3 := Lib.hid (HB2.out.trans (hb3.mono HB2.out.size))
    clear hb3
    go_wp2_with fail
    go_ret
    exact ⟨rfl, HB3.out⟩
  have BR : Hid (BdN (fun k => inU k ∧ ¬ (hasS SA k ∨ hasS SB k)) 1000) := Lib.hid hz.bd
  have hf0 := (HI1.out.call hb).fc
  have HI2 := Lib.hid (HI1.out.call hb)
  clear hd
  have hd := HI2.out.dc
  clear HI1
  clear hc hz hb Hz1

  go_wp2_with fail
  refine wp_region_vs 66 (fun f' => ⟨#[.slice A l.length cap, undef, .bool false, .pointer (some ⟨w.heap.size, 0, none⟩), va, vb, vc, .pointer (some ⟨fb, 0, none⟩), .pointer (some ⟨db, 0, none⟩), .func (Fn.func 20) #[] #[Value.pointer (some { block := db, off := 0 })], .func (Fn.func 9) #[] #[], .func (Fn.func 10) #[] #[], .func (Fn.func 11) #[] #[], .func (Fn.func 17) #[] #[], undef, undef, undef, undef, undef, undef, .slice A l.length cap, .agg #[Value.slice A l.length cap, Value.int IntKind.i64 0], .pointer (some ⟨w.heap.size, 0, none⟩), .pointer (some ⟨w.heap.size, 0, none⟩), va, .pointer (some ⟨w.heap.size, 0, none⟩), vb, .pointer (some ⟨w.heap.size, 0, none⟩), vc, .func (Fn.func 19) #[] #[Value.pointer (some { block := fb, off := 0 })], .func (Fn.func 20) #[] #[Value.pointer (some { block := db, off := 0 })], .func (Fn.func 20) #[] #[Value.pointer (some { block := db, off := 0 })], .func (Fn.func 19) #[] #[Value.pointer (some { block := fb, off := 0 })], va, vb, z1, z2, .int .i64 0, .bool false, undef, f' 0, f' 1, f' 2, f' 3, f' 4, f' 5, f' 6, f' 7, f' 8, f' 9, f' 10, f' 11, f' 12, f' 13, f' 14, f' 15, f' 16, f' 17, f' 18, f' 19, f' 20, f' 21, f' 22, f' 23, f' 24, f' 25, f' 26, f' 27, f' 28, f' 29, f' 30, f' 31, f' 32, f' 33, f' 34, f' 35, f' 36, f' 37, f' 38, f' 39, f' 40, f' 41, f' 42, f' 43, f' 44, f' 45, f' 46, f' 47, f' 48, f' 49, f' 50, f' 51, f' 52, f' 53, f' 54, f' 55, f' 56, f' 57, f' 58, f' 59, f' 60, f' 61, f' 62, f' 63, f' 64, f' 65, undef, undef, undef, undef, undef, undef, undef, undef, undef, undef, undef, undef, undef, undef, undef, undef, undef, undef, undef, undef, undef, undef, undef, undef, undef, undef, undef, undef, undef, undef, undef, undef, undef, undef, undef, undef, undef, undef, undef, undef, undef, undef, undef, undef, undef, undef, undef, undef, undef, undef, undef, undef, undef, undef, undef, undef, undef, undef, undef, undef, undef, undef, undef, undef, undef, undef, undef, undef, undef, undef, undef, undef, undef, undef, undef, undef, undef, undef, undef, undef, undef, undef, undef, undef, undef, undef, undef, undef, undef, undef, undef, undef, undef, undef, undef, undef, undef, undef, undef, undef, undef, undef, undef, undef, undef], []⟩) [VE (.func (.func 17) #[] #[]), VE (.func (.func 19) #[] #[.pointer (some ⟨fb, 0, none⟩)]), VE (.func (.func 9) #[] #[]), VE (va), VE (vb), VS (alJ (hasS SA) (hasS SB)), VE (.func (.func 19) #[] #[.pointer (some ⟨fb, 0, none⟩)]), VE (.func (.func 9) #[] #[]), VE (vb), VE (va), VS (alJ (hasS SB) (hasS SA)), VE (.bool true), VE (.bool false), VE (.bool false), VE (.func (.func 17) #[] #[]), VE (.func (.func 19) #[] #[.pointer (some ⟨fb, 0, none⟩)]), VE (.func (.func 10) #[] #[]), VE (va), VE (.func (.func 19) #[] #[.pointer (some ⟨fb, 0, none⟩)]), VE (.func (.func 9) #[] #[]), VE (vb), VE (vc), VS (alJ (hasS SB) (hasS SC)), VS (alM (hasS SA) (alJ (hasS SB) (hasS SC))), VE (.func (.func 19) #[] #[.pointer (some ⟨fb, 0, none⟩)]), VE (.func (.func 9) #[] #[]), VE (.func (.func 19) #[] #[.pointer (some ⟨fb, 0, none⟩)]), VE (.func (.func 10) #[] #[]), VE (va), VE (vb), VS (alM (hasS SA) (hasS SB)), VE (.func (.func 19) #[] #[.pointer (some ⟨fb, 0, none⟩)]), VE (.func (.func 10) #[] #[]), VE (va), VE (vc), VS (alM (hasS SA) (hasS SC)), VS (alJ (alM (hasS SA) (hasS SB)) (alM (hasS SA) (hasS SC))), VE (.bool true), VE (.bool false), VE (.bool false), VE (.bool false), VE (.func (.func 17) #[] #[]), VE (.func (.func 19) #[] #[.pointer (some ⟨fb, 0, none⟩)]), VE (.func (.func 9) #[] #[]), VE (va), VE (.func (.func 19) #[] #[.pointer (some ⟨fb, 0, none⟩)]), VE (.func (.func 10) #[] #[]), VE (vb), VE (vc), VS (alM (hasS SB) (hasS SC)), VS (alJ (hasS SA) (alM (hasS SB) (hasS SC))), VE (.func (.func 19) #[] #[.pointer (some ⟨fb, 0, none⟩)]), VE (.func (.func 10) #[] #[]), VE (.func (.func 19) #[] #[.pointer (some ⟨fb, 0, none⟩)]), VE (.func (.func 9) #[] #[]), VE (va), VE (vb), VS (alJ (hasS SA) (hasS SB)), VE (.func (.func 19) #[] #[.pointer (some ⟨fb, 0, none⟩)]), VE (.func (.func 9) #[] #[]), VE (va), VE (vc), VS (alJ (hasS SA) (hasS SC)), VS (alM (alJ (hasS SA) (hasS SB)) (alJ (hasS SA) (hasS SC))), VE (.bool true), VE (.bool false)] V2 (fun _ => undef) 80 (show Tryz.prog.follows .mixedOrders = true from by kernel_rfl) (by kernel_rfl) ?_ ?_ ?_ rfl
  · intro p hp
    simp only [List.mem_cons, List.mem_nil_iff, or_false] at hp
    rcases hp with rfl | rfl | rfl | rfl | rfl | rfl | rfl | rfl | rfl | rfl | rfl | rfl | rfl | rfl | rfl | rfl | rfl | rfl | rfl | rfl | rfl | rfl | rfl | rfl | rfl | rfl | rfl | rfl | rfl | rfl | rfl | rfl | rfl | rfl | rfl | rfl | rfl | rfl | rfl | rfl | rfl | rfl | rfl | rfl | rfl | rfl | rfl | rfl | rfl | rfl | rfl | rfl | rfl | rfl | rfl | rfl | rfl | rfl | rfl | rfl | rfl | rfl | rfl | rfl | rfl | rfl <;> first | exact VE.kept _ | exact VS.kept _
  · intro i9 op hi9 ho f' w' hS hd
    have hcase : i9 = 0 ∨ i9 = 1 ∨ i9 = 2 ∨ i9 = 3 ∨ i9 = 4 ∨ i9 = 5 ∨ i9 = 6 ∨ i9 = 7 ∨ i9 = 8 ∨ i9 = 9 ∨ i9 = 10 ∨ i9 = 11 ∨ i9 = 12 ∨ i9 = 13 ∨ i9 = 14 ∨ i9 = 15 ∨ i9 = 16 ∨ i9 = 17 ∨ i9 = 18 ∨ i9 = 19 ∨ i9 = 20 ∨ i9 = 21 ∨ i9 = 22 ∨ i9 = 23 ∨ i9 = 24 ∨ i9 = 25 ∨ i9 = 26 ∨ i9 = 27 ∨ i9 = 28 ∨ i9 = 29 ∨ i9 = 30 ∨ i9 = 31 ∨ i9 = 32 ∨ i9 = 33 ∨ i9 = 34 ∨ i9 = 35 ∨ i9 = 36 ∨ i9 = 37 ∨ i9 = 38 ∨ i9 = 39 ∨ i9 = 40 ∨ i9 = 41 ∨ i9 = 42 ∨ i9 = 43 ∨ i9 = 44 ∨ i9 = 45 ∨ i9 = 46 ∨ i9 = 47 ∨ i9 = 48 ∨ i9 = 49 ∨ i9 = 50 ∨ i9 = 51 ∨ i9 = 52 ∨ i9 = 53 ∨ i9 = 54 ∨ i9 = 55 ∨ i9 = 56 ∨ i9 = 57 ∨ i9 = 58 ∨ i9 = 59 ∨ i9 = 60 ∨ i9 = 61 ∨ i9 = 62 ∨ i9 = 63 ∨ i9 = 64 ∨ i9 = 65 := by omega
    rcases hcase with rfl | rfl | rfl | rfl | rfl | rfl | rfl | rfl | rfl | rfl | rfl | rfl | rfl | rfl | rfl | rfl | rfl | rfl | rfl | rfl | rfl | rfl | rfl | rfl | rfl | rfl | rfl | rfl | rfl | rfl | rfl | rfl | rfl | rfl | rfl | rfl | rfl | rfl | rfl | rfl | rfl | rfl | rfl | rfl | rfl | rfl | rfl | rfl | rfl | rfl | rfl | rfl | rfl | rfl | rfl | rfl | rfl | rfl | rfl | rfl | rfl | rfl | rfl | rfl | rfl | rfl <;> (replace ho := Option.some.inj ho; subst ho)
    · refine OpStep.of rfl ?_
      unfold Oper.wp
      go_simp
      exact ⟨_, (by simp [upd]), rfl, Below.refl _ _⟩
    · have hdc := (HI2.out.call hS.out).dc
      refine OpStep.of rfl ?_
      unfold Oper.wp
      go_simp
      exact ⟨_, (by simp [upd]), rfl, Below.refl _ _⟩
    · refine OpStep.of rfl ?_
      unfold Oper.wp
      go_simp
      exact ⟨_, (by simp [upd]), rfl, Below.refl _ _⟩
    · refine OpStep.of rfl ?_
      unfold Oper.wp
      go_simp
      exact ⟨_, (by simp [upd]), rfl, Below.refl _ _⟩
    · refine OpStep.of rfl ?_
      unfold Oper.wp
      go_simp
      exact ⟨_, (by simp [upd]), rfl, Below.refl _ _⟩
    · have e1 : f' 1 = .func (.func 19) #[] #[.pointer (some ⟨fb, 0, none⟩)] := hd ⟨1, .data⟩ (by simp) rfl
      have e2 : f' 2 = .func (.func 9) #[] #[] := hd ⟨2, .data⟩ (by simp) rfl
      have e3 : f' 3 = va := hd ⟨3, .data⟩ (by simp) rfl
      have e4 : f' 4 = vb := hd ⟨4, .data⟩ (by simp) rfl
      refine OpStep.of rfl ?_
      unfold Oper.wp
      go_simp
      refine (do_union (p := (hasS SA)) (q := (hasS SB)) (r := (alJ (hasS SA) (hasS SB))) fb w' (VS.kept _ _ _ _ HI2.out.a hS.out) (VS.kept _ _ _ _ HI2.out.b hS.out) (fun _ => Iff.rfl) (CovN.bd ((CA.out.or CB.out)) (by omega))).mono ?_
      rintro e w9 ⟨z9, rfl, hz9, hb9⟩
      exact ⟨_, (by simp [upd, e1, e2, e3, e4]), hz9, hb9⟩
    · have hdc := (HI2.out.call hS.out).dc
      refine OpStep.of rfl ?_
      unfold Oper.wp
      go_simp
      exact ⟨_, (by simp [upd]), rfl, Below.refl _ _⟩
    · refine OpStep.of rfl ?_
      unfold Oper.wp
      go_simp
      exact ⟨_, (by simp [upd]), rfl, Below.refl _ _⟩
    · refine OpStep.of rfl ?_
      unfold Oper.wp
      go_simp
      exact ⟨_, (by simp [upd]), rfl, Below.refl _ _⟩
    · refine OpStep.of rfl ?_
      unfold Oper.wp
      go_simp
      exact ⟨_, (by simp [upd]), rfl, Below.refl _ _⟩
    · have e6 : f' 6 = .func (.func 19) #[] #[.pointer (some ⟨fb, 0, none⟩)] := hd ⟨6, .data⟩ (by simp) rfl
      have e7 : f' 7 = .func (.func 9) #[] #[] := hd ⟨7, .data⟩ (by simp) rfl
      have e8 : f' 8 = vb := hd ⟨8, .data⟩ (by simp) rfl
      have e9 : f' 9 = va := hd ⟨9, .data⟩ (by simp) rfl
      refine OpStep.of rfl ?_
      unfold Oper.wp
      go_simp
      refine (do_union (p := (hasS SB)) (q := (hasS SA)) (r := (alJ (hasS SB) (hasS SA))) fb w' (VS.kept _ _ _ _ HI2.out.b hS.out) (VS.kept _ _ _ _ HI2.out.a hS.out) (fun _ => Iff.rfl) (CovN.bd ((CB.out.or CA.out)) (by omega))).mono ?_
      rintro e w9 ⟨z9, rfl, hz9, hb9⟩
      exact ⟨_, (by simp [upd, e6, e7, e8, e9]), hz9, hb9⟩
    · have e0 : f' 0 = .func (.func 17) #[] #[] := hd ⟨0, .data⟩ (by simp) rfl
      have H5 : Hid (VS (alJ (hasS SA) (hasS SB)) w' (f' 5)) := Lib.hid (hd ⟨5, .data⟩ (by simp) rfl)
      have H10 : Hid (VS (alJ (hasS SB) (hasS SA)) w' (f' 10)) := Lib.hid (hd ⟨10, .data⟩ (by simp) rfl)
      obtain ⟨B1, B2, d1, d2, Q9, ex, ey, q1, q2, q3⟩ := VS.same H5.out H10.out (fun k => al_e1)
      have HQ1 := Lib.hid q1
      have HQ2 := Lib.hid q2
      clear q1 q2
      refine OpStep.of rfl ?_
      unfold Oper.wp
      go_simp
      refine (px_equal B1 B2 d1 d2 Q9 w' HQ1.out HQ2.out (by omega)).mono ?_
      rintro e w9 ⟨rfl, hb9⟩
      exact ⟨_, (by simp [upd, ex, ey, e0]), rfl, hb9⟩
    · have e11 : f' 11 = .bool true := hd ⟨11, .data⟩ (by simp) rfl
      refine OpStep.of rfl ?_
      unfold Oper.wp
      go_simp
      exact ⟨_, (by simp [upd, e11]), rfl, Below.refl _ _⟩
    · have e12 : f' 12 = .bool false := hd ⟨12, .data⟩ (by simp) rfl
      refine OpStep.of rfl ?_
      unfold Oper.wp
      go_simp
      exact ⟨_, (by simp [upd, e12]), rfl, Below.refl _ _⟩
    · refine OpStep.of (by have eg : f' 13 = .bool false := hd ⟨13, .guard⟩ (by simp) rfl; simp [Region.wanted, yielded, eg]) ?_
      unfold Oper.wp
      go_simp
      exact ⟨_, (by simp [upd]), rfl, Below.refl _ _⟩
    · have hdc := (HI2.out.call hS.out).dc
      refine OpStep.of (by have eg : f' 13 = .bool false := hd ⟨13, .guard⟩ (by simp) rfl; simp [Region.wanted, yielded, eg]) ?_
      unfold Oper.wp
      go_simp
      exact ⟨_, (by simp [upd]), rfl, Below.refl _ _⟩
    · refine OpStep.of (by have eg : f' 13 = .bool false := hd ⟨13, .guard⟩ (by simp) rfl; simp [Region.wanted, yielded, eg]) ?_
      unfold Oper.wp
      go_simp
      exact ⟨_, (by simp [upd]), rfl, Below.refl _ _⟩
    · refine OpStep.of (by have eg : f' 13 = .bool false := hd ⟨13, .guard⟩ (by simp) rfl; simp [Region.wanted, yielded, eg]) ?_
      unfold Oper.wp
      go_simp
      exact ⟨_, (by simp [upd]), rfl, Below.refl _ _⟩
    · have hdc := (HI2.out.call hS.out).dc
      refine OpStep.of (by have eg : f' 13 = .bool false := hd ⟨13, .guard⟩ (by simp) rfl; simp [Region.wanted, yielded, eg]) ?_
      unfold Oper.wp
      go_simp
      exact ⟨_, (by simp [upd]), rfl, Below.refl _ _⟩
    · refine OpStep.of (by have eg : f' 13 = .bool false := hd ⟨13, .guard⟩ (by simp) rfl; simp [Region.wanted, yielded, eg]) ?_
      unfold Oper.wp
      go_simp
      exact ⟨_, (by simp [upd]), rfl, Below.refl _ _⟩
    · refine OpStep.of (by have eg : f' 13 = .bool false := hd ⟨13, .guard⟩ (by simp) rfl; simp [Region.wanted, yielded, eg]) ?_
      unfold Oper.wp
      go_simp
      exact ⟨_, (by simp [upd]), rfl, Below.refl _ _⟩
    · refine OpStep.of (by have eg : f' 13 = .bool false := hd ⟨13, .guard⟩ (by simp) rfl; simp [Region.wanted, yielded, eg]) ?_
      unfold Oper.wp
      go_simp
      exact ⟨_, (by simp [upd]), rfl, Below.refl _ _⟩
    · have e18 : f' 18 = .func (.func 19) #[] #[.pointer (some ⟨fb, 0, none⟩)] := hd ⟨18, .data⟩ (by simp) rfl
      have e19 : f' 19 = .func (.func 9) #[] #[] := hd ⟨19, .data⟩ (by simp) rfl
      have e20 : f' 20 = vb := hd ⟨20, .data⟩ (by simp) rfl
      have e21 : f' 21 = vc := hd ⟨21, .data⟩ (by simp) rfl
      refine OpStep.of (by have eg : f' 13 = .bool false := hd ⟨13, .guard⟩ (by simp) rfl; simp [Region.wanted, yielded, eg]) ?_
      unfold Oper.wp
      go_simp
      refine (do_union (p := (hasS SB)) (q := (hasS SC)) (r := (alJ (hasS SB) (hasS SC))) fb w' (VS.kept _ _ _ _ HI2.out.b hS.out) (VS.kept _ _ _ _ HI2.out.c hS.out) (fun _ => Iff.rfl) (CovN.bd ((CB.out.or CC.out)) (by omega))).mono ?_
      rintro e w9 ⟨z9, rfl, hz9, hb9⟩
      exact ⟨_, (by simp [upd, e18, e19, e20, e21]), hz9, hb9⟩
    · have e15 : f' 15 = .func (.func 19) #[] #[.pointer (some ⟨fb, 0, none⟩)] := hd ⟨15, .data⟩ (by simp) rfl
      have e16 : f' 16 = .func (.func 10) #[] #[] := hd ⟨16, .data⟩ (by simp) rfl
      have e17 : f' 17 = va := hd ⟨17, .data⟩ (by simp) rfl
      have H22 : Hid (VS (alJ (hasS SB) (hasS SC)) w' (f' 22)) := Lib.hid (hd ⟨22, .data⟩ (by simp) rfl)
      refine OpStep.of (by have eg : f' 13 = .bool false := hd ⟨13, .guard⟩ (by simp) rfl; simp [Region.wanted, yielded, eg]) ?_
      unfold Oper.wp
      go_simp
      refine (do_both (p := (hasS SA)) (q := (alJ (hasS SB) (hasS SC))) (r := (alM (hasS SA) (alJ (hasS SB) (hasS SC)))) fb w' (VS.kept _ _ _ _ HI2.out.a hS.out) H22.out (fun _ => Iff.rfl) (CovN.bd ((CA.out.and (CB.out.or CC.out))) (by omega))).mono ?_
      rintro e w9 ⟨z9, rfl, hz9, hb9⟩
      exact ⟨_, (by simp [upd, e15, e16, e17]), hz9, hb9⟩
    · have hdc := (HI2.out.call hS.out).dc
      refine OpStep.of (by have eg : f' 13 = .bool false := hd ⟨13, .guard⟩ (by simp) rfl; simp [Region.wanted, yielded, eg]) ?_
      unfold Oper.wp
      go_simp
      exact ⟨_, (by simp [upd]), rfl, Below.refl _ _⟩
    · refine OpStep.of (by have eg : f' 13 = .bool false := hd ⟨13, .guard⟩ (by simp) rfl; simp [Region.wanted, yielded, eg]) ?_
      unfold Oper.wp
      go_simp
      exact ⟨_, (by simp [upd]), rfl, Below.refl _ _⟩
    · have hdc := (HI2.out.call hS.out).dc
      refine OpStep.of (by have eg : f' 13 = .bool false := hd ⟨13, .guard⟩ (by simp) rfl; simp [Region.wanted, yielded, eg]) ?_
      unfold Oper.wp
      go_simp
      exact ⟨_, (by simp [upd]), rfl, Below.refl _ _⟩
    · refine OpStep.of (by have eg : f' 13 = .bool false := hd ⟨13, .guard⟩ (by simp) rfl; simp [Region.wanted, yielded, eg]) ?_
      unfold Oper.wp
      go_simp
      exact ⟨_, (by simp [upd]), rfl, Below.refl _ _⟩
    · refine OpStep.of (by have eg : f' 13 = .bool false := hd ⟨13, .guard⟩ (by simp) rfl; simp [Region.wanted, yielded, eg]) ?_
      unfold Oper.wp
      go_simp
      exact ⟨_, (by simp [upd]), rfl, Below.refl _ _⟩
    · refine OpStep.of (by have eg : f' 13 = .bool false := hd ⟨13, .guard⟩ (by simp) rfl; simp [Region.wanted, yielded, eg]) ?_
      unfold Oper.wp
      go_simp
      exact ⟨_, (by simp [upd]), rfl, Below.refl _ _⟩
    · have e26 : f' 26 = .func (.func 19) #[] #[.pointer (some ⟨fb, 0, none⟩)] := hd ⟨26, .data⟩ (by simp) rfl
      have e27 : f' 27 = .func (.func 10) #[] #[] := hd ⟨27, .data⟩ (by simp) rfl
      have e28 : f' 28 = va := hd ⟨28, .data⟩ (by simp) rfl
      have e29 : f' 29 = vb := hd ⟨29, .data⟩ (by simp) rfl
      refine OpStep.of (by have eg : f' 13 = .bool false := hd ⟨13, .guard⟩ (by simp) rfl; simp [Region.wanted, yielded, eg]) ?_
      unfold Oper.wp
      go_simp
      refine (do_both (p := (hasS SA)) (q := (hasS SB)) (r := (alM (hasS SA) (hasS SB))) fb w' (VS.kept _ _ _ _ HI2.out.a hS.out) (VS.kept _ _ _ _ HI2.out.b hS.out) (fun _ => Iff.rfl) (CovN.bd ((CA.out.and CB.out)) (by omega))).mono ?_
      rintro e w9 ⟨z9, rfl, hz9, hb9⟩
      exact ⟨_, (by simp [upd, e26, e27, e28, e29]), hz9, hb9⟩
    · have hdc := (HI2.out.call hS.out).dc
      refine OpStep.of (by have eg : f' 13 = .bool false := hd ⟨13, .guard⟩ (by simp) rfl; simp [Region.wanted, yielded, eg]) ?_
      unfold Oper.wp
      go_simp
      exact ⟨_, (by simp [upd]), rfl, Below.refl _ _⟩
    · refine OpStep.of (by have eg : f' 13 = .bool false := hd ⟨13, .guard⟩ (by simp) rfl; simp [Region.wanted, yielded, eg]) ?_
      unfold Oper.wp
      go_simp
      exact ⟨_, (by simp [upd]), rfl, Below.refl _ _⟩
    · refine OpStep.of (by have eg : f' 13 = .bool false := hd ⟨13, .guard⟩ (by simp) rfl; simp [Region.wanted, yielded, eg]) ?_
      unfold Oper.wp
      go_simp
      exact ⟨_, (by simp [upd]), rfl, Below.refl _ _⟩
    · refine OpStep.of (by have eg : f' 13 = .bool false := hd ⟨13, .guard⟩ (by simp) rfl; simp [Region.wanted, yielded, eg]) ?_
      unfold Oper.wp
      go_simp
      exact ⟨_, (by simp [upd]), rfl, Below.refl _ _⟩
    · have e31 : f' 31 = .func (.func 19) #[] #[.pointer (some ⟨fb, 0, none⟩)] := hd ⟨31, .data⟩ (by simp) rfl
      have e32 : f' 32 = .func (.func 10) #[] #[] := hd ⟨32, .data⟩ (by simp) rfl
      have e33 : f' 33 = va := hd ⟨33, .data⟩ (by simp) rfl
      have e34 : f' 34 = vc := hd ⟨34, .data⟩ (by simp) rfl
      refine OpStep.of (by have eg : f' 13 = .bool false := hd ⟨13, .guard⟩ (by simp) rfl; simp [Region.wanted, yielded, eg]) ?_
      unfold Oper.wp
      go_simp
      refine (do_both (p := (hasS SA)) (q := (hasS SC)) (r := (alM (hasS SA) (hasS SC))) fb w' (VS.kept _ _ _ _ HI2.out.a hS.out) (VS.kept _ _ _ _ HI2.out.c hS.out) (fun _ => Iff.rfl) (CovN.bd ((CA.out.and CC.out)) (by omega))).mono ?_
      rintro e w9 ⟨z9, rfl, hz9, hb9⟩
      exact ⟨_, (by simp [upd, e31, e32, e33, e34]), hz9, hb9⟩
    · have e24 : f' 24 = .func (.func 19) #[] #[.pointer (some ⟨fb, 0, none⟩)] := hd ⟨24, .data⟩ (by simp) rfl
      have e25 : f' 25 = .func (.func 9) #[] #[] := hd ⟨25, .data⟩ (by simp) rfl
      have H30 : Hid (VS (alM (hasS SA) (hasS SB)) w' (f' 30)) := Lib.hid (hd ⟨30, .data⟩ (by simp) rfl)
      have H35 : Hid (VS (alM (hasS SA) (hasS SC)) w' (f' 35)) := Lib.hid (hd ⟨35, .data⟩ (by simp) rfl)
      refine OpStep.of (by have eg : f' 13 = .bool false := hd ⟨13, .guard⟩ (by simp) rfl; simp [Region.wanted, yielded, eg]) ?_
      unfold Oper.wp
      go_simp
      refine (do_union (p := (alM (hasS SA) (hasS SB))) (q := (alM (hasS SA) (hasS SC))) (r := (alJ (alM (hasS SA) (hasS SB)) (alM (hasS SA) (hasS SC)))) fb w' H30.out H35.out (fun _ => Iff.rfl) (CovN.bd (((CA.out.and CB.out).or (CA.out.and CC.out))) (by omega))).mono ?_
      rintro e w9 ⟨z9, rfl, hz9, hb9⟩
      exact ⟨_, (by simp [upd, e24, e25]), hz9, hb9⟩
    · have e14 : f' 14 = .func (.func 17) #[] #[] := hd ⟨14, .data⟩ (by simp) rfl
      have H23 : Hid (VS (alM (hasS SA) (alJ (hasS SB) (hasS SC))) w' (f' 23)) := Lib.hid (hd ⟨23, .data⟩ (by simp) rfl)
      have H36 : Hid (VS (alJ (alM (hasS SA) (hasS SB)) (alM (hasS SA) (hasS SC))) w' (f' 36)) := Lib.hid (hd ⟨36, .data⟩ (by simp) rfl)
      obtain ⟨B1, B2, d1, d2, Q9, ex, ey, q1, q2, q3⟩ := VS.same H23.out H36.out (fun k => al_e2)
      have HQ1 := Lib.hid q1
      have HQ2 := Lib.hid q2
      clear q1 q2
      refine OpStep.of (by have eg : f' 13 = .bool false := hd ⟨13, .guard⟩ (by simp) rfl; simp [Region.wanted, yielded, eg]) ?_
      unfold Oper.wp
      go_simp
      refine (px_equal B1 B2 d1 d2 Q9 w' HQ1.out HQ2.out (by omega)).mono ?_
      rintro e w9 ⟨rfl, hb9⟩
      exact ⟨_, (by simp [upd, ex, ey, e14]), rfl, hb9⟩
    · have e37 : f' 37 = .bool true := hd ⟨37, .data⟩ (by simp) rfl
      refine OpStep.of (by have eg : f' 13 = .bool false := hd ⟨13, .guard⟩ (by simp) rfl; simp [Region.wanted, yielded, eg]) ?_
      unfold Oper.wp
      go_simp
      exact ⟨_, (by simp [upd, e37]), rfl, Below.refl _ _⟩
    · have e13 : f' 13 = .bool false := hd ⟨13, .data⟩ (by simp) rfl
      have e38 : f' 38 = .bool false := hd ⟨38, .data⟩ (by simp) rfl
      refine OpStep.of rfl ?_
      unfold Oper.wp
      go_simp
      exact ⟨_, (by simp [upd, e13, e38]), rfl, Below.refl _ _⟩
    · have e39 : f' 39 = .bool false := hd ⟨39, .data⟩ (by simp) rfl
      refine OpStep.of rfl ?_
      unfold Oper.wp
      go_simp
      exact ⟨_, (by simp [upd, e39]), rfl, Below.refl _ _⟩
    · refine OpStep.of (by have eg : f' 40 = .bool false := hd ⟨40, .guard⟩ (by simp) rfl; simp [Region.wanted, yielded, eg]) ?_
      unfold Oper.wp
      go_simp
      exact ⟨_, (by simp [upd]), rfl, Below.refl _ _⟩
    · have hdc := (HI2.out.call hS.out).dc
      refine OpStep.of (by have eg : f' 40 = .bool false := hd ⟨40, .guard⟩ (by simp) rfl; simp [Region.wanted, yielded, eg]) ?_
      unfold Oper.wp
      go_simp
      exact ⟨_, (by simp [upd]), rfl, Below.refl _ _⟩
    · refine OpStep.of (by have eg : f' 40 = .bool false := hd ⟨40, .guard⟩ (by simp) rfl; simp [Region.wanted, yielded, eg]) ?_
      unfold Oper.wp
      go_simp
      exact ⟨_, (by simp [upd]), rfl, Below.refl _ _⟩
    · refine OpStep.of (by have eg : f' 40 = .bool false := hd ⟨40, .guard⟩ (by simp) rfl; simp [Region.wanted, yielded, eg]) ?_
      unfold Oper.wp
      go_simp
      exact ⟨_, (by simp [upd]), rfl, Below.refl _ _⟩
    · have hdc := (HI2.out.call hS.out).dc
      refine OpStep.of (by have eg : f' 40 = .bool false := hd ⟨40, .guard⟩ (by simp) rfl; simp [Region.wanted, yielded, eg]) ?_
      unfold Oper.wp
      go_simp
      exact ⟨_, (by simp [upd]), rfl, Below.refl _ _⟩
    · refine OpStep.of (by have eg : f' 40 = .bool false := hd ⟨40, .guard⟩ (by simp) rfl; simp [Region.wanted, yielded, eg]) ?_
      unfold Oper.wp
      go_simp
      exact ⟨_, (by simp [upd]), rfl, Below.refl _ _⟩
    · refine OpStep.of (by have eg : f' 40 = .bool false := hd ⟨40, .guard⟩ (by simp) rfl; simp [Region.wanted, yielded, eg]) ?_
      unfold Oper.wp
      go_simp
      exact ⟨_, (by simp [upd]), rfl, Below.refl _ _⟩
    · refine OpStep.of (by have eg : f' 40 = .bool false := hd ⟨40, .guard⟩ (by simp) rfl; simp [Region.wanted, yielded, eg]) ?_
      unfold Oper.wp
      go_simp
      exact ⟨_, (by simp [upd]), rfl, Below.refl _ _⟩
    · have e45 : f' 45 = .func (.func 19) #[] #[.pointer (some ⟨fb, 0, none⟩)] := hd ⟨45, .data⟩ (by simp) rfl
      have e46 : f' 46 = .func (.func 10) #[] #[] := hd ⟨46, .data⟩ (by simp) rfl
      have e47 : f' 47 = vb := hd ⟨47, .data⟩ (by simp) rfl
      have e48 : f' 48 = vc := hd ⟨48, .data⟩ (by simp) rfl
      refine OpStep.of (by have eg : f' 40 = .bool false := hd ⟨40, .guard⟩ (by simp) rfl; simp [Region.wanted, yielded, eg]) ?_
      unfold Oper.wp
      go_simp
      refine (do_both (p := (hasS SB)) (q := (hasS SC)) (r := (alM (hasS SB) (hasS SC))) fb w' (VS.kept _ _ _ _ HI2.out.b hS.out) (VS.kept _ _ _ _ HI2.out.c hS.out) (fun _ => Iff.rfl) (CovN.bd ((CB.out.and CC.out)) (by omega))).mono ?_
      rintro e w9 ⟨z9, rfl, hz9, hb9⟩
      exact ⟨_, (by simp [upd, e45, e46, e47, e48]), hz9, hb9⟩
    · have e42 : f' 42 = .func (.func 19) #[] #[.pointer (some ⟨fb, 0, none⟩)] := hd ⟨42, .data⟩ (by simp) rfl
      have e43 : f' 43 = .func (.func 9) #[] #[] := hd ⟨43, .data⟩ (by simp) rfl
      have e44 : f' 44 = va := hd ⟨44, .data⟩ (by simp) rfl
      have H49 : Hid (VS (alM (hasS SB) (hasS SC)) w' (f' 49)) := Lib.hid (hd ⟨49, .data⟩ (by simp) rfl)
      refine OpStep.of (by have eg : f' 40 = .bool false := hd ⟨40, .guard⟩ (by simp) rfl; simp [Region.wanted, yielded, eg]) ?_
      unfold Oper.wp
      go_simp
      refine (do_union (p := (hasS SA)) (q := (alM (hasS SB) (hasS SC))) (r := (alJ (hasS SA) (alM (hasS SB) (hasS SC)))) fb w' (VS.kept _ _ _ _ HI2.out.a hS.out) H49.out (fun _ => Iff.rfl) (CovN.bd ((CA.out.or (CB.out.and CC.out))) (by omega))).mono ?_
      rintro e w9 ⟨z9, rfl, hz9, hb9⟩
      exact ⟨_, (by simp [upd, e42, e43, e44]), hz9, hb9⟩
    · have hdc := (HI2.out.call hS.out).dc
      refine OpStep.of (by have eg : f' 40 = .bool false := hd ⟨40, .guard⟩ (by simp) rfl; simp [Region.wanted, yielded, eg]) ?_
      unfold Oper.wp
      go_simp
      exact ⟨_, (by simp [upd]), rfl, Below.refl _ _⟩
    · refine OpStep.of (by have eg : f' 40 = .bool false := hd ⟨40, .guard⟩ (by simp) rfl; simp [Region.wanted, yielded, eg]) ?_
      unfold Oper.wp
      go_simp
      exact ⟨_, (by simp [upd]), rfl, Below.refl _ _⟩
    · have hdc := (HI2.out.call hS.out).dc
      refine OpStep.of (by have eg : f' 40 = .bool false := hd ⟨40, .guard⟩ (by simp) rfl; simp [Region.wanted, yielded, eg]) ?_
      unfold Oper.wp
      go_simp
      exact ⟨_, (by simp [upd]), rfl, Below.refl _ _⟩
    · refine OpStep.of (by have eg : f' 40 = .bool false := hd ⟨40, .guard⟩ (by simp) rfl; simp [Region.wanted, yielded, eg]) ?_
      unfold Oper.wp
      go_simp
      exact ⟨_, (by simp [upd]), rfl, Below.refl _ _⟩
    · refine OpStep.of (by have eg : f' 40 = .bool false := hd ⟨40, .guard⟩ (by simp) rfl; simp [Region.wanted, yielded, eg]) ?_
      unfold Oper.wp
      go_simp
      exact ⟨_, (by simp [upd]), rfl, Below.refl _ _⟩
    · refine OpStep.of (by have eg : f' 40 = .bool false := hd ⟨40, .guard⟩ (by simp) rfl; simp [Region.wanted, yielded, eg]) ?_
      unfold Oper.wp
      go_simp
      exact ⟨_, (by simp [upd]), rfl, Below.refl _ _⟩
    · have e53 : f' 53 = .func (.func 19) #[] #[.pointer (some ⟨fb, 0, none⟩)] := hd ⟨53, .data⟩ (by simp) rfl
      have e54 : f' 54 = .func (.func 9) #[] #[] := hd ⟨54, .data⟩ (by simp) rfl
      have e55 : f' 55 = va := hd ⟨55, .data⟩ (by simp) rfl
      have e56 : f' 56 = vb := hd ⟨56, .data⟩ (by simp) rfl
      refine OpStep.of (by have eg : f' 40 = .bool false := hd ⟨40, .guard⟩ (by simp) rfl; simp [Region.wanted, yielded, eg]) ?_
      unfold Oper.wp
      go_simp
      refine (do_union (p := (hasS SA)) (q := (hasS SB)) (r := (alJ (hasS SA) (hasS SB))) fb w' (VS.kept _ _ _ _ HI2.out.a hS.out) (VS.kept _ _ _ _ HI2.out.b hS.out) (fun _ => Iff.rfl) (CovN.bd ((CA.out.or CB.out)) (by omega))).mono ?_
      rintro e w9 ⟨z9, rfl, hz9, hb9⟩
      exact ⟨_, (by simp [upd, e53, e54, e55, e56]), hz9, hb9⟩
    · have hdc := (HI2.out.call hS.out).dc
      refine OpStep.of (by have eg : f' 40 = .bool false := hd ⟨40, .guard⟩ (by simp) rfl; simp [Region.wanted, yielded, eg]) ?_
      unfold Oper.wp
      go_simp
      exact ⟨_, (by simp [upd]), rfl, Below.refl _ _⟩
    · refine OpStep.of (by have eg : f' 40 = .bool false := hd ⟨40, .guard⟩ (by simp) rfl; simp [Region.wanted, yielded, eg]) ?_
      unfold Oper.wp
      go_simp
      exact ⟨_, (by simp [upd]), rfl, Below.refl _ _⟩
    · refine OpStep.of (by have eg : f' 40 = .bool false := hd ⟨40, .guard⟩ (by simp) rfl; simp [Region.wanted, yielded, eg]) ?_
      unfold Oper.wp
      go_simp
      exact ⟨_, (by simp [upd]), rfl, Below.refl _ _⟩
    · refine OpStep.of (by have eg : f' 40 = .bool false := hd ⟨40, .guard⟩ (by simp) rfl; simp [Region.wanted, yielded, eg]) ?_
      unfold Oper.wp
      go_simp
      exact ⟨_, (by simp [upd]), rfl, Below.refl _ _⟩
    · have e58 : f' 58 = .func (.func 19) #[] #[.pointer (some ⟨fb, 0, none⟩)] := hd ⟨58, .data⟩ (by simp) rfl
      have e59 : f' 59 = .func (.func 9) #[] #[] := hd ⟨59, .data⟩ (by simp) rfl
      have e60 : f' 60 = va := hd ⟨60, .data⟩ (by simp) rfl
      have e61 : f' 61 = vc := hd ⟨61, .data⟩ (by simp) rfl
      refine OpStep.of (by have eg : f' 40 = .bool false := hd ⟨40, .guard⟩ (by simp) rfl; simp [Region.wanted, yielded, eg]) ?_
      unfold Oper.wp
      go_simp
      refine (do_union (p := (hasS SA)) (q := (hasS SC)) (r := (alJ (hasS SA) (hasS SC))) fb w' (VS.kept _ _ _ _ HI2.out.a hS.out) (VS.kept _ _ _ _ HI2.out.c hS.out) (fun _ => Iff.rfl) (CovN.bd ((CA.out.or CC.out)) (by omega))).mono ?_
      rintro e w9 ⟨z9, rfl, hz9, hb9⟩
      exact ⟨_, (by simp [upd, e58, e59, e60, e61]), hz9, hb9⟩
    · have e51 : f' 51 = .func (.func 19) #[] #[.pointer (some ⟨fb, 0, none⟩)] := hd ⟨51, .data⟩ (by simp) rfl
      have e52 : f' 52 = .func (.func 10) #[] #[] := hd ⟨52, .data⟩ (by simp) rfl
      have H57 : Hid (VS (alJ (hasS SA) (hasS SB)) w' (f' 57)) := Lib.hid (hd ⟨57, .data⟩ (by simp) rfl)
      have H62 : Hid (VS (alJ (hasS SA) (hasS SC)) w' (f' 62)) := Lib.hid (hd ⟨62, .data⟩ (by simp) rfl)
      refine OpStep.of (by have eg : f' 40 = .bool false := hd ⟨40, .guard⟩ (by simp) rfl; simp [Region.wanted, yielded, eg]) ?_
      unfold Oper.wp
      go_simp
      refine (do_both (p := (alJ (hasS SA) (hasS SB))) (q := (alJ (hasS SA) (hasS SC))) (r := (alM (alJ (hasS SA) (hasS SB)) (alJ (hasS SA) (hasS SC)))) fb w' H57.out H62.out (fun _ => Iff.rfl) (CovN.bd (((CA.out.or CB.out).and (CA.out.or CC.out))) (by omega))).mono ?_
      rintro e w9 ⟨z9, rfl, hz9, hb9⟩
      exact ⟨_, (by simp [upd, e51, e52]), hz9, hb9⟩
    · have e41 : f' 41 = .func (.func 17) #[] #[] := hd ⟨41, .data⟩ (by simp) rfl
      have H50 : Hid (VS (alJ (hasS SA) (alM (hasS SB) (hasS SC))) w' (f' 50)) := Lib.hid (hd ⟨50, .data⟩ (by simp) rfl)
      have H63 : Hid (VS (alM (alJ (hasS SA) (hasS SB)) (alJ (hasS SA) (hasS SC))) w' (f' 63)) := Lib.hid (hd ⟨63, .data⟩ (by simp) rfl)
      obtain ⟨B1, B2, d1, d2, Q9, ex, ey, q1, q2, q3⟩ := VS.same H50.out H63.out (fun k => al_e3)
      have HQ1 := Lib.hid q1
      have HQ2 := Lib.hid q2
      clear q1 q2
      refine OpStep.of (by have eg : f' 40 = .bool false := hd ⟨40, .guard⟩ (by simp) rfl; simp [Region.wanted, yielded, eg]) ?_
      unfold Oper.wp
      go_simp
      refine (px_equal B1 B2 d1 d2 Q9 w' HQ1.out HQ2.out (by omega)).mono ?_
      rintro e w9 ⟨rfl, hb9⟩
      exact ⟨_, (by simp [upd, ex, ey, e41]), rfl, hb9⟩
    · have e64 : f' 64 = .bool true := hd ⟨64, .data⟩ (by simp) rfl
      refine OpStep.of (by have eg : f' 40 = .bool false := hd ⟨40, .guard⟩ (by simp) rfl; simp [Region.wanted, yielded, eg]) ?_
      unfold Oper.wp
      go_simp
      exact ⟨_, (by simp [upd, e64]), rfl, Below.refl _ _⟩
  · intro op ho f' w' hS hd
    have e40 : f' 40 = .bool false := hd 40 (by omega)
    have e65 : f' 65 = .bool false := hd 65 (by omega)
    have HX := Lib.hid (HI2.out.call hS.out)
    replace ho := Option.some.inj ho
    subst ho
    refine ⟨rfl, ?_⟩
    unfold Oper.wp
    go_simp
    clear hd
    obtain ⟨V3, hV3⟩ : ∃ V3, V3 = w' := ⟨_, rfl⟩
    rw [← hV3] at HX ⊢
    clear hV3 hS
    go_wp2_with fail
    refine wp_region_vs 57 (fun g' => ⟨#[.slice A l.length cap, undef, .bool false, .pointer (some ⟨w.heap.size, 0, none⟩), va, vb, vc, .pointer (some ⟨fb, 0, none⟩), .pointer (some ⟨db, 0, none⟩), .func (Fn.func 20) #[] #[Value.pointer (some { block := db, off := 0 })], .func (Fn.func 9) #[] #[], .func (Fn.func 10) #[] #[], .func (Fn.func 11) #[] #[], .func (Fn.func 17) #[] #[], undef, undef, undef, undef, undef, undef, .slice A l.length cap, .agg #[Value.slice A l.length cap, Value.int IntKind.i64 0], .pointer (some ⟨w.heap.size, 0, none⟩), .pointer (some ⟨w.heap.size, 0, none⟩), va, .pointer (some ⟨w.heap.size, 0, none⟩), vb, .pointer (some ⟨w.heap.size, 0, none⟩), vc, .func (Fn.func 19) #[] #[Value.pointer (some { block := fb, off := 0 })], .func (Fn.func 20) #[] #[Value.pointer (some { block := db, off := 0 })], .func (Fn.func 20) #[] #[Value.pointer (some { block := db, off := 0 })], .func (Fn.func 19) #[] #[Value.pointer (some { block := fb, off := 0 })], va, vb, z1, z2, .int .i64 0, .bool false, undef, f' 0, f' 1, f' 2, f' 3, f' 4, f' 5, f' 6, f' 7, f' 8, f' 9, f' 10, f' 11, f' 12, f' 13, f' 14, f' 15, f' 16, f' 17, f' 18, f' 19, f' 20, f' 21, f' 22, f' 23, f' 24, f' 25, f' 26, f' 27, f' 28, f' 29, f' 30, f' 31, f' 32, f' 33, f' 34, f' 35, f' 36, f' 37, f' 38, f' 39, .bool false, f' 41, f' 42, f' 43, f' 44, f' 45, f' 46, f' 47, f' 48, f' 49, f' 50, f' 51, f' 52, f' 53, f' 54, f' 55, f' 56, f' 57, f' 58, f' 59, f' 60, f' 61, f' 62, f' 63, f' 64, .bool false, .bool false, g' 0, g' 1, g' 2, g' 3, g' 4, g' 5, g' 6, g' 7, g' 8, g' 9, g' 10, g' 11, g' 12, g' 13, g' 14, g' 15, g' 16, g' 17, g' 18, g' 19, g' 20, g' 21, g' 22, g' 23, g' 24, g' 25, g' 26, g' 27, g' 28, g' 29, g' 30, g' 31, g' 32, g' 33, g' 34, g' 35, g' 36, g' 37, g' 38, g' 39, g' 40, g' 41, g' 42, g' 43, g' 44, g' 45, g' 46, g' 47, g' 48, g' 49, g' 50, g' 51, g' 52, g' 53, g' 54, g' 55, g' 56, undef, undef, undef, undef, undef, undef, undef, undef, undef, undef, undef, undef, undef, undef, undef, undef, undef, undef, undef, undef, undef, undef, undef, undef, undef, undef, undef, undef, undef, undef, undef, undef, undef, undef, undef, undef, undef, undef, undef, undef, undef, undef, undef, undef, undef, undef, undef], []⟩) [VE (.func (.func 17) #[] #[]), VE (.func (.func 20) #[] #[.pointer (some ⟨db, 0, none⟩)]), VE (.func (.func 20) #[] #[.pointer (some ⟨db, 0, none⟩)]), VE (va), VS (alR (hasS SA)), VS (alR (alR (hasS SA))), VE (va), VE (.bool true), VE (.bool false), VE (.bool false), VE (.func (.func 17) #[] #[]), VE (.func (.func 20) #[] #[.pointer (some ⟨db, 0, none⟩)]), VE (.func (.func 19) #[] #[.pointer (some ⟨fb, 0, none⟩)]), VE (.func (.func 9) #[] #[]), VE (va), VE (vb), VS (alJ (hasS SA) (hasS SB)), VS (alR (alJ (hasS SA) (hasS SB))), VE (.func (.func 19) #[] #[.pointer (some ⟨fb, 0, none⟩)]), VE (.func (.func 10) #[] #[]), VE (.func (.func 20) #[] #[.pointer (some ⟨db, 0, none⟩)]), VE (va), VS (alR (hasS SA)), VE (.func (.func 20) #[] #[.pointer (some ⟨db, 0, none⟩)]), VE (vb), VS (alR (hasS SB)), VS (alM (alR (hasS SA)) (alR (hasS SB))), VE (.bool true), VE (.bool false), VE (.bool false), VE (.bool false), VE (.func (.func 17) #[] #[]), VE (.func (.func 19) #[] #[.pointer (some ⟨fb, 0, none⟩)]), VE (.func (.func 11) #[] #[]), VE (va), VE (vb), VS (alL (hasS SA) (hasS SB)), VE (.func (.func 19) #[] #[.pointer (some ⟨fb, 0, none⟩)]), VE (.func (.func 10) #[] #[]), VE (va), VE (.func (.func 20) #[] #[.pointer (some ⟨db, 0, none⟩)]), VE (vb), VS (alR (hasS SB)), VS (alM (hasS SA) (alR (hasS SB))), VE (.bool true), VE (.bool false), VE (.bool false), VE (.bool false), VE (.func (.func 19) #[] #[.pointer (some ⟨fb, 0, none⟩)]), VE (.func (.func 10) #[] #[]), VE (va), VE (.func (.func 20) #[] #[.pointer (some ⟨db, 0, none⟩)]), VE (va), VS (alR (hasS SA)), VS (alM (hasS SA) (alR (hasS SA))), VE (.int .i64 0), VE (.bool false)] V3 (fun _ => undef) 80 (show Tryz.prog.follows .mixedOrders = true from by kernel_rfl) (by kernel_rfl) ?_ ?_ ?_ rfl
    · intro p hp
      simp only [List.mem_cons, List.mem_nil_iff, or_false] at hp
      rcases hp with rfl | rfl | rfl | rfl | rfl | rfl | rfl | rfl | rfl | rfl | rfl | rfl | rfl | rfl | rfl | rfl | rfl | rfl | rfl | rfl | rfl | rfl | rfl | rfl | rfl | rfl | rfl | rfl | rfl | rfl | rfl | rfl | rfl | rfl | rfl | rfl | rfl | rfl | rfl | rfl | rfl | rfl | rfl | rfl | rfl | rfl | rfl | rfl | rfl | rfl | rfl | rfl | rfl | rfl | rfl | rfl | rfl <;> first | exact VE.kept _ | exact VS.kept _
    · intro i9 op hi9 ho g' w' hS hd
      have hcase : i9 = 0 ∨ i9 = 1 ∨ i9 = 2 ∨ i9 = 3 ∨ i9 = 4 ∨ i9 = 5 ∨ i9 = 6 ∨ i9 = 7 ∨ i9 = 8 ∨ i9 = 9 ∨ i9 = 10 ∨ i9 = 11 ∨ i9 = 12 ∨ i9 = 13 ∨ i9 = 14 ∨ i9 = 15 ∨ i9 = 16 ∨ i9 = 17 ∨ i9 = 18 ∨ i9 = 19 ∨ i9 = 20 ∨ i9 = 21 ∨ i9 = 22 ∨ i9 = 23 ∨ i9 = 24 ∨ i9 = 25 ∨ i9 = 26 ∨ i9 = 27 ∨ i9 = 28 ∨ i9 = 29 ∨ i9 = 30 ∨ i9 = 31 ∨ i9 = 32 ∨ i9 = 33 ∨ i9 = 34 ∨ i9 = 35 ∨ i9 = 36 ∨ i9 = 37 ∨ i9 = 38 ∨ i9 = 39 ∨ i9 = 40 ∨ i9 = 41 ∨ i9 = 42 ∨ i9 = 43 ∨ i9 = 44 ∨ i9 = 45 ∨ i9 = 46 ∨ i9 = 47 ∨ i9 = 48 ∨ i9 = 49 ∨ i9 = 50 ∨ i9 = 51 ∨ i9 = 52 ∨ i9 = 53 ∨ i9 = 54 ∨ i9 = 55 ∨ i9 = 56 := by omega
      rcases hcase with rfl | rfl | rfl | rfl | rfl | rfl | rfl | rfl | rfl | rfl | rfl | rfl | rfl | rfl | rfl | rfl | rfl | rfl | rfl | rfl | rfl | rfl | rfl | rfl | rfl | rfl | rfl | rfl | rfl | rfl | rfl | rfl | rfl | rfl | rfl | rfl | rfl | rfl | rfl | rfl | rfl | rfl | rfl | rfl | rfl | rfl | rfl | rfl | rfl | rfl | rfl | rfl | rfl | rfl | rfl | rfl | rfl <;> (replace ho := Option.some.inj ho; subst ho)
      · refine OpStep.of rfl ?_
        unfold Oper.wp
        go_simp
        exact ⟨_, (by simp [upd]), rfl, Below.refl _ _⟩
      · refine OpStep.of rfl ?_
        unfold Oper.wp
        go_simp
        exact ⟨_, (by simp [upd]), rfl, Below.refl _ _⟩
      · refine OpStep.of rfl ?_
        unfold Oper.wp
        go_simp
        exact ⟨_, (by simp [upd]), rfl, Below.refl _ _⟩
      · refine OpStep.of rfl ?_
        unfold Oper.wp
        go_simp
        exact ⟨_, (by simp [upd]), rfl, Below.refl _ _⟩
      · have e2 : g' 2 = .func (.func 20) #[] #[.pointer (some ⟨db, 0, none⟩)] := hd ⟨2, .data⟩ (by simp) rfl
        have e3 : g' 3 = va := hd ⟨3, .data⟩ (by simp) rfl
        refine OpStep.of rfl ?_
        unfold Oper.wp
        go_simp
        refine (rest_vs (p := (hasS SA)) (r := (alR (hasS SA))) fb db w' (VS.kept _ _ _ _ HX.out.a hS.out) (fun _ => Iff.rfl) (CovN.bd (CA.out.rest) (by omega)) (HX.out.call hS.out).f (HX.out.call hS.out).d).mono ?_
        rintro e w9 ⟨z9, rfl, hz9, hb9⟩
        exact ⟨_, (by simp [upd, e2, e3]), hz9, hb9⟩
      · have e1 : g' 1 = .func (.func 20) #[] #[.pointer (some ⟨db, 0, none⟩)] := hd ⟨1, .data⟩ (by simp) rfl
        have H4 : Hid (VS (alR (hasS SA)) w' (g' 4)) := Lib.hid (hd ⟨4, .data⟩ (by simp) rfl)
        refine OpStep.of rfl ?_
        unfold Oper.wp
        go_simp
        refine (rest_vs (p := (alR (hasS SA))) (r := (alR (alR (hasS SA)))) fb db w' H4.out (fun _ => Iff.rfl) (BdN.congr (CovN.bd CA.out (by omega)) (fun k => al_e4 (UA.out k))) (HX.out.call hS.out).f (HX.out.call hS.out).d).mono ?_
        rintro e w9 ⟨z9, rfl, hz9, hb9⟩
        exact ⟨_, (by simp [upd, e1]), hz9, hb9⟩
      · refine OpStep.of rfl ?_
        unfold Oper.wp
        go_simp
        exact ⟨_, (by simp [upd]), rfl, Below.refl _ _⟩
      · have e0 : g' 0 = .func (.func 17) #[] #[] := hd ⟨0, .data⟩ (by simp) rfl
        have H5 : Hid (VS (alR (alR (hasS SA))) w' (g' 5)) := Lib.hid (hd ⟨5, .data⟩ (by simp) rfl)
        have e6 : g' 6 = va := hd ⟨6, .data⟩ (by simp) rfl
        obtain ⟨B1, B2, d1, d2, Q9, ex, ey, q1, q2, q3⟩ := VS.same H5.out (VS.kept _ _ _ _ HX.out.a hS.out) (fun k => al_e4 (UA.out k))
        have HQ1 := Lib.hid q1
        have HQ2 := Lib.hid q2
        clear q1 q2
        refine OpStep.of rfl ?_
        unfold Oper.wp
        go_simp
        refine (px_equal B1 B2 d1 d2 Q9 w' HQ1.out HQ2.out (by omega)).mono ?_
        rintro e w9 ⟨rfl, hb9⟩
        exact ⟨_, (by simp [upd, ex, ey, e0, e6]), rfl, hb9⟩
      · have e7 : g' 7 = .bool true := hd ⟨7, .data⟩ (by simp) rfl
        refine OpStep.of rfl ?_
        unfold Oper.wp
        go_simp
        exact ⟨_, (by simp [upd, e7]), rfl, Below.refl _ _⟩
      · have e8 : g' 8 = .bool false := hd ⟨8, .data⟩ (by simp) rfl
        refine OpStep.of rfl ?_
        unfold Oper.wp
        go_simp
        exact ⟨_, (by simp [upd, e8]), rfl, Below.refl _ _⟩
      · refine OpStep.of (by have eg : g' 9 = .bool false := hd ⟨9, .guard⟩ (by simp) rfl; simp [Region.wanted, yielded, eg]) ?_
        unfold Oper.wp
        go_simp
        exact ⟨_, (by simp [upd]), rfl, Below.refl _ _⟩
      · refine OpStep.of (by have eg : g' 9 = .bool false := hd ⟨9, .guard⟩ (by simp) rfl; simp [Region.wanted, yielded, eg]) ?_
        unfold Oper.wp
        go_simp
        exact ⟨_, (by simp [upd]), rfl, Below.refl _ _⟩
      · have hdc := (HX.out.call hS.out).dc
        refine OpStep.of (by have eg : g' 9 = .bool false := hd ⟨9, .guard⟩ (by simp) rfl; simp [Region.wanted, yielded, eg]) ?_
        unfold Oper.wp
        go_simp
        exact ⟨_, (by simp [upd]), rfl, Below.refl _ _⟩
      · refine OpStep.of (by have eg : g' 9 = .bool false := hd ⟨9, .guard⟩ (by simp) rfl; simp [Region.wanted, yielded, eg]) ?_
        unfold Oper.wp
        go_simp
        exact ⟨_, (by simp [upd]), rfl, Below.refl _ _⟩
      · refine OpStep.of (by have eg : g' 9 = .bool false := hd ⟨9, .guard⟩ (by simp) rfl; simp [Region.wanted, yielded, eg]) ?_
        unfold Oper.wp
        go_simp
        exact ⟨_, (by simp [upd]), rfl, Below.refl _ _⟩
      · refine OpStep.of (by have eg : g' 9 = .bool false := hd ⟨9, .guard⟩ (by simp) rfl; simp [Region.wanted, yielded, eg]) ?_
        unfold Oper.wp
        go_simp
        exact ⟨_, (by simp [upd]), rfl, Below.refl _ _⟩
      · have e12 : g' 12 = .func (.func 19) #[] #[.pointer (some ⟨fb, 0, none⟩)] := hd ⟨12, .data⟩ (by simp) rfl
        have e13 : g' 13 = .func (.func 9) #[] #[] := hd ⟨13, .data⟩ (by simp) rfl
        have e14 : g' 14 = va := hd ⟨14, .data⟩ (by simp) rfl
        have e15 : g' 15 = vb := hd ⟨15, .data⟩ (by simp) rfl
        refine OpStep.of (by have eg : g' 9 = .bool false := hd ⟨9, .guard⟩ (by simp) rfl; simp [Region.wanted, yielded, eg]) ?_
        unfold Oper.wp
        go_simp
        refine (do_union (p := (hasS SA)) (q := (hasS SB)) (r := (alJ (hasS SA) (hasS SB))) fb w' (VS.kept _ _ _ _ HX.out.a hS.out) (VS.kept _ _ _ _ HX.out.b hS.out) (fun _ => Iff.rfl) (CovN.bd ((CA.out.or CB.out)) (by omega))).mono ?_
        rintro e w9 ⟨z9, rfl, hz9, hb9⟩
        exact ⟨_, (by simp [upd, e12, e13, e14, e15]), hz9, hb9⟩
      · have e11 : g' 11 = .func (.func 20) #[] #[.pointer (some ⟨db, 0, none⟩)] := hd ⟨11, .data⟩ (by simp) rfl
        have H16 : Hid (VS (alJ (hasS SA) (hasS SB)) w' (g' 16)) := Lib.hid (hd ⟨16, .data⟩ (by simp) rfl)
        refine OpStep.of (by have eg : g' 9 = .bool false := hd ⟨9, .guard⟩ (by simp) rfl; simp [Region.wanted, yielded, eg]) ?_
        unfold Oper.wp
        go_simp
        refine (rest_vs (p := (alJ (hasS SA) (hasS SB))) (r := (alR (alJ (hasS SA) (hasS SB)))) fb db w' H16.out (fun _ => Iff.rfl) BR.out (HX.out.call hS.out).f (HX.out.call hS.out).d).mono ?_
        rintro e w9 ⟨z9, rfl, hz9, hb9⟩
        exact ⟨_, (by simp [upd, e11]), hz9, hb9⟩
      · have hdc := (HX.out.call hS.out).dc
        refine OpStep.of (by have eg : g' 9 = .bool false := hd ⟨9, .guard⟩ (by simp) rfl; simp [Region.wanted, yielded, eg]) ?_
        unfold Oper.wp
        go_simp
        exact ⟨_, (by simp [upd]), rfl, Below.refl _ _⟩
      · refine OpStep.of (by have eg : g' 9 = .bool false := hd ⟨9, .guard⟩ (by simp) rfl; simp [Region.wanted, yielded, eg]) ?_
        unfold Oper.wp
        go_simp
        exact ⟨_, (by simp [upd]), rfl, Below.refl _ _⟩
      · refine OpStep.of (by have eg : g' 9 = .bool false := hd ⟨9, .guard⟩ (by simp) rfl; simp [Region.wanted, yielded, eg]) ?_
        unfold Oper.wp
        go_simp
        exact ⟨_, (by simp [upd]), rfl, Below.refl _ _⟩
      · refine OpStep.of (by have eg : g' 9 = .bool false := hd ⟨9, .guard⟩ (by simp) rfl; simp [Region.wanted, yielded, eg]) ?_
        unfold Oper.wp
        go_simp
        exact ⟨_, (by simp [upd]), rfl, Below.refl _ _⟩
      · have e20 : g' 20 = .func (.func 20) #[] #[.pointer (some ⟨db, 0, none⟩)] := hd ⟨20, .data⟩ (by simp) rfl
        have e21 : g' 21 = va := hd ⟨21, .data⟩ (by simp) rfl
        refine OpStep.of (by have eg : g' 9 = .bool false := hd ⟨9, .guard⟩ (by simp) rfl; simp [Region.wanted, yielded, eg]) ?_
        unfold Oper.wp
        go_simp
        refine (rest_vs (p := (hasS SA)) (r := (alR (hasS SA))) fb db w' (VS.kept _ _ _ _ HX.out.a hS.out) (fun _ => Iff.rfl) (CovN.bd (CA.out.rest) (by omega)) (HX.out.call hS.out).f (HX.out.call hS.out).d).mono ?_
        rintro e w9 ⟨z9, rfl, hz9, hb9⟩
        exact ⟨_, (by simp [upd, e20, e21]), hz9, hb9⟩
      · refine OpStep.of (by have eg : g' 9 = .bool false := hd ⟨9, .guard⟩ (by simp) rfl; simp [Region.wanted, yielded, eg]) ?_
        unfold Oper.wp
        go_simp
        exact ⟨_, (by simp [upd]), rfl, Below.refl _ _⟩
      · refine OpStep.of (by have eg : g' 9 = .bool false := hd ⟨9, .guard⟩ (by simp) rfl; simp [Region.wanted, yielded, eg]) ?_
        unfold Oper.wp
        go_simp
        exact ⟨_, (by simp [upd]), rfl, Below.refl _ _⟩
      · have e23 : g' 23 = .func (.func 20) #[] #[.pointer (some ⟨db, 0, none⟩)] := hd ⟨23, .data⟩ (by simp) rfl
        have e24 : g' 24 = vb := hd ⟨24, .data⟩ (by simp) rfl
        refine OpStep.of (by have eg : g' 9 = .bool false := hd ⟨9, .guard⟩ (by simp) rfl; simp [Region.wanted, yielded, eg]) ?_
        unfold Oper.wp
        go_simp
        refine (rest_vs (p := (hasS SB)) (r := (alR (hasS SB))) fb db w' (VS.kept _ _ _ _ HX.out.b hS.out) (fun _ => Iff.rfl) (CovN.bd (CB.out.rest) (by omega)) (HX.out.call hS.out).f (HX.out.call hS.out).d).mono ?_
        rintro e w9 ⟨z9, rfl, hz9, hb9⟩
        exact ⟨_, (by simp [upd, e23, e24]), hz9, hb9⟩
      · have e18 : g' 18 = .func (.func 19) #[] #[.pointer (some ⟨fb, 0, none⟩)] := hd ⟨18, .data⟩ (by simp) rfl
        have e19 : g' 19 = .func (.func 10) #[] #[] := hd ⟨19, .data⟩ (by simp) rfl
        have H22 : Hid (VS (alR (hasS SA)) w' (g' 22)) := Lib.hid (hd ⟨22, .data⟩ (by simp) rfl)
        have H25 : Hid (VS (alR (hasS SB)) w' (g' 25)) := Lib.hid (hd ⟨25, .data⟩ (by simp) rfl)
        refine OpStep.of (by have eg : g' 9 = .bool false := hd ⟨9, .guard⟩ (by simp) rfl; simp [Region.wanted, yielded, eg]) ?_
        unfold Oper.wp
        go_simp
        refine (do_both (p := (alR (hasS SA))) (q := (alR (hasS SB))) (r := (alM (alR (hasS SA)) (alR (hasS SB)))) fb w' H22.out H25.out (fun _ => Iff.rfl) (BdN.congr BR.out (fun k => al_e5.symm))).mono ?_
        rintro e w9 ⟨z9, rfl, hz9, hb9⟩
        exact ⟨_, (by simp [upd, e18, e19]), hz9, hb9⟩
      · have e10 : g' 10 = .func (.func 17) #[] #[] := hd ⟨10, .data⟩ (by simp) rfl
        have H17 : Hid (VS (alR (alJ (hasS SA) (hasS SB))) w' (g' 17)) := Lib.hid (hd ⟨17, .data⟩ (by simp) rfl)
        have H26 : Hid (VS (alM (alR (hasS SA)) (alR (hasS SB))) w' (g' 26)) := Lib.hid (hd ⟨26, .data⟩ (by simp) rfl)
        obtain ⟨B1, B2, d1, d2, Q9, ex, ey, q1, q2, q3⟩ := VS.same H17.out H26.out (fun k => al_e5)
        have HQ1 := Lib.hid q1
        have HQ2 := Lib.hid q2
        clear q1 q2
        refine OpStep.of (by have eg : g' 9 = .bool false := hd ⟨9, .guard⟩ (by simp) rfl; simp [Region.wanted, yielded, eg]) ?_
        unfold Oper.wp
        go_simp
        refine (px_equal B1 B2 d1 d2 Q9 w' HQ1.out HQ2.out (by omega)).mono ?_
        rintro e w9 ⟨rfl, hb9⟩
        exact ⟨_, (by simp [upd, ex, ey, e10]), rfl, hb9⟩
      · have e27 : g' 27 = .bool true := hd ⟨27, .data⟩ (by simp) rfl
        refine OpStep.of (by have eg : g' 9 = .bool false := hd ⟨9, .guard⟩ (by simp) rfl; simp [Region.wanted, yielded, eg]) ?_
        unfold Oper.wp
        go_simp
        exact ⟨_, (by simp [upd, e27]), rfl, Below.refl _ _⟩
      · have e9 : g' 9 = .bool false := hd ⟨9, .data⟩ (by simp) rfl
        have e28 : g' 28 = .bool false := hd ⟨28, .data⟩ (by simp) rfl
        refine OpStep.of rfl ?_
        unfold Oper.wp
        go_simp
        exact ⟨_, (by simp [upd, e9, e28]), rfl, Below.refl _ _⟩
      · have e29 : g' 29 = .bool false := hd ⟨29, .data⟩ (by simp) rfl
        refine OpStep.of rfl ?_
        unfold Oper.wp
        go_simp
        exact ⟨_, (by simp [upd, e29]), rfl, Below.refl _ _⟩
      · refine OpStep.of (by have eg : g' 30 = .bool false := hd ⟨30, .guard⟩ (by simp) rfl; simp [Region.wanted, yielded, eg]) ?_
        unfold Oper.wp
        go_simp
        exact ⟨_, (by simp [upd]), rfl, Below.refl _ _⟩
      · have hdc := (HX.out.call hS.out).dc
        refine OpStep.of (by have eg : g' 30 = .bool false := hd ⟨30, .guard⟩ (by simp) rfl; simp [Region.wanted, yielded, eg]) ?_
        unfold Oper.wp
        go_simp
        exact ⟨_, (by simp [upd]), rfl, Below.refl _ _⟩
      · refine OpStep.of (by have eg : g' 30 = .bool false := hd ⟨30, .guard⟩ (by simp) rfl; simp [Region.wanted, yielded, eg]) ?_
        unfold Oper.wp
        go_simp
        exact ⟨_, (by simp [upd]), rfl, Below.refl _ _⟩
      · refine OpStep.of (by have eg : g' 30 = .bool false := hd ⟨30, .guard⟩ (by simp) rfl; simp [Region.wanted, yielded, eg]) ?_
        unfold Oper.wp
        go_simp
        exact ⟨_, (by simp [upd]), rfl, Below.refl _ _⟩
      · refine OpStep.of (by have eg : g' 30 = .bool false := hd ⟨30, .guard⟩ (by simp) rfl; simp [Region.wanted, yielded, eg]) ?_
        unfold Oper.wp
        go_simp
        exact ⟨_, (by simp [upd]), rfl, Below.refl _ _⟩
      · have e32 : g' 32 = .func (.func 19) #[] #[.pointer (some ⟨fb, 0, none⟩)] := hd ⟨32, .data⟩ (by simp) rfl
        have e33 : g' 33 = .func (.func 11) #[] #[] := hd ⟨33, .data⟩ (by simp) rfl
        have e34 : g' 34 = va := hd ⟨34, .data⟩ (by simp) rfl
        have e35 : g' 35 = vb := hd ⟨35, .data⟩ (by simp) rfl
        refine OpStep.of (by have eg : g' 30 = .bool false := hd ⟨30, .guard⟩ (by simp) rfl; simp [Region.wanted, yielded, eg]) ?_
        unfold Oper.wp
        go_simp
        refine (do_less (p := (hasS SA)) (q := (hasS SB)) (r := (alL (hasS SA) (hasS SB))) fb w' (VS.kept _ _ _ _ HX.out.a hS.out) (VS.kept _ _ _ _ HX.out.b hS.out) (fun _ => Iff.rfl) (CovN.bd (CovN.less HSA.out CB.out) (by omega))).mono ?_
        rintro e w9 ⟨z9, rfl, hz9, hb9⟩
        exact ⟨_, (by simp [upd, e32, e33, e34, e35]), hz9, hb9⟩
      · have hdc := (HX.out.call hS.out).dc
        refine OpStep.of (by have eg : g' 30 = .bool false := hd ⟨30, .guard⟩ (by simp) rfl; simp [Region.wanted, yielded, eg]) ?_
        unfold Oper.wp
        go_simp
        exact ⟨_, (by simp [upd]), rfl, Below.refl _ _⟩
      · refine OpStep.of (by have eg : g' 30 = .bool false := hd ⟨30, .guard⟩ (by simp) rfl; simp [Region.wanted, yielded, eg]) ?_
        unfold Oper.wp
        go_simp
        exact ⟨_, (by simp [upd]), rfl, Below.refl _ _⟩
      · refine OpStep.of (by have eg : g' 30 = .bool false := hd ⟨30, .guard⟩ (by simp) rfl; simp [Region.wanted, yielded, eg]) ?_
        unfold Oper.wp
        go_simp
        exact ⟨_, (by simp [upd]), rfl, Below.refl _ _⟩
      · refine OpStep.of (by have eg : g' 30 = .bool false := hd ⟨30, .guard⟩ (by simp) rfl; simp [Region.wanted, yielded, eg]) ?_
        unfold Oper.wp
        go_simp
        exact ⟨_, (by simp [upd]), rfl, Below.refl _ _⟩
      · refine OpStep.of (by have eg : g' 30 = .bool false := hd ⟨30, .guard⟩ (by simp) rfl; simp [Region.wanted, yielded, eg]) ?_
        unfold Oper.wp
        go_simp
        exact ⟨_, (by simp [upd]), rfl, Below.refl _ _⟩
      · have e40 : g' 40 = .func (.func 20) #[] #[.pointer (some ⟨db, 0, none⟩)] := hd ⟨40, .data⟩ (by simp) rfl
        have e41 : g' 41 = vb := hd ⟨41, .data⟩ (by simp) rfl
        refine OpStep.of (by have eg : g' 30 = .bool false := hd ⟨30, .guard⟩ (by simp) rfl; simp [Region.wanted, yielded, eg]) ?_
        unfold Oper.wp
        go_simp
        refine (rest_vs (p := (hasS SB)) (r := (alR (hasS SB))) fb db w' (VS.kept _ _ _ _ HX.out.b hS.out) (fun _ => Iff.rfl) (CovN.bd (CB.out.rest) (by omega)) (HX.out.call hS.out).f (HX.out.call hS.out).d).mono ?_
        rintro e w9 ⟨z9, rfl, hz9, hb9⟩
        exact ⟨_, (by simp [upd, e40, e41]), hz9, hb9⟩
      · have e37 : g' 37 = .func (.func 19) #[] #[.pointer (some ⟨fb, 0, none⟩)] := hd ⟨37, .data⟩ (by simp) rfl
        have e38 : g' 38 = .func (.func 10) #[] #[] := hd ⟨38, .data⟩ (by simp) rfl
        have e39 : g' 39 = va := hd ⟨39, .data⟩ (by simp) rfl
        have H42 : Hid (VS (alR (hasS SB)) w' (g' 42)) := Lib.hid (hd ⟨42, .data⟩ (by simp) rfl)
        refine OpStep.of (by have eg : g' 30 = .bool false := hd ⟨30, .guard⟩ (by simp) rfl; simp [Region.wanted, yielded, eg]) ?_
        unfold Oper.wp
        go_simp
        refine (do_both (p := (hasS SA)) (q := (alR (hasS SB))) (r := (alM (hasS SA) (alR (hasS SB)))) fb w' (VS.kept _ _ _ _ HX.out.a hS.out) H42.out (fun _ => Iff.rfl) (BdN.congr (CovN.bd (CovN.less HSA.out CB.out) (by omega)) (fun k => (al_e6 (UA.out k)).symm))).mono ?_
        rintro e w9 ⟨z9, rfl, hz9, hb9⟩
        exact ⟨_, (by simp [upd, e37, e38, e39]), hz9, hb9⟩
      · have e31 : g' 31 = .func (.func 17) #[] #[] := hd ⟨31, .data⟩ (by simp) rfl
        have H36 : Hid (VS (alL (hasS SA) (hasS SB)) w' (g' 36)) := Lib.hid (hd ⟨36, .data⟩ (by simp) rfl)
        have H43 : Hid (VS (alM (hasS SA) (alR (hasS SB))) w' (g' 43)) := Lib.hid (hd ⟨43, .data⟩ (by simp) rfl)
        obtain ⟨B1, B2, d1, d2, Q9, ex, ey, q1, q2, q3⟩ := VS.same H36.out H43.out (fun k => al_e6 (UA.out k))
        have HQ1 := Lib.hid q1
        have HQ2 := Lib.hid q2
        clear q1 q2
        refine OpStep.of (by have eg : g' 30 = .bool false := hd ⟨30, .guard⟩ (by simp) rfl; simp [Region.wanted, yielded, eg]) ?_
        unfold Oper.wp
        go_simp
        refine (px_equal B1 B2 d1 d2 Q9 w' HQ1.out HQ2.out (by omega)).mono ?_
        rintro e w9 ⟨rfl, hb9⟩
        exact ⟨_, (by simp [upd, ex, ey, e31]), rfl, hb9⟩
      · have e44 : g' 44 = .bool true := hd ⟨44, .data⟩ (by simp) rfl
        refine OpStep.of (by have eg : g' 30 = .bool false := hd ⟨30, .guard⟩ (by simp) rfl; simp [Region.wanted, yielded, eg]) ?_
        unfold Oper.wp
        go_simp
        exact ⟨_, (by simp [upd, e44]), rfl, Below.refl _ _⟩
      · have e30 : g' 30 = .bool false := hd ⟨30, .data⟩ (by simp) rfl
        have e45 : g' 45 = .bool false := hd ⟨45, .data⟩ (by simp) rfl
        refine OpStep.of rfl ?_
        unfold Oper.wp
        go_simp
        exact ⟨_, (by simp [upd, e30, e45]), rfl, Below.refl _ _⟩
      · have e46 : g' 46 = .bool false := hd ⟨46, .data⟩ (by simp) rfl
        refine OpStep.of rfl ?_
        unfold Oper.wp
        go_simp
        exact ⟨_, (by simp [upd, e46]), rfl, Below.refl _ _⟩
      · have hdc := (HX.out.call hS.out).dc
        refine OpStep.of (by have eg : g' 47 = .bool false := hd ⟨47, .guard⟩ (by simp) rfl; simp [Region.wanted, yielded, eg]) ?_
        unfold Oper.wp
        go_simp
        exact ⟨_, (by simp [upd]), rfl, Below.refl _ _⟩
      · refine OpStep.of (by have eg : g' 47 = .bool false := hd ⟨47, .guard⟩ (by simp) rfl; simp [Region.wanted, yielded, eg]) ?_
        unfold Oper.wp
        go_simp
        exact ⟨_, (by simp [upd]), rfl, Below.refl _ _⟩
      · refine OpStep.of (by have eg : g' 47 = .bool false := hd ⟨47, .guard⟩ (by simp) rfl; simp [Region.wanted, yielded, eg]) ?_
        unfold Oper.wp
        go_simp
        exact ⟨_, (by simp [upd]), rfl, Below.refl _ _⟩
      · refine OpStep.of (by have eg : g' 47 = .bool false := hd ⟨47, .guard⟩ (by simp) rfl; simp [Region.wanted, yielded, eg]) ?_
        unfold Oper.wp
        go_simp
        exact ⟨_, (by simp [upd]), rfl, Below.refl _ _⟩
      · refine OpStep.of (by have eg : g' 47 = .bool false := hd ⟨47, .guard⟩ (by simp) rfl; simp [Region.wanted, yielded, eg]) ?_
        unfold Oper.wp
        go_simp
        exact ⟨_, (by simp [upd]), rfl, Below.refl _ _⟩
      · have e51 : g' 51 = .func (.func 20) #[] #[.pointer (some ⟨db, 0, none⟩)] := hd ⟨51, .data⟩ (by simp) rfl
        have e52 : g' 52 = va := hd ⟨52, .data⟩ (by simp) rfl
        refine OpStep.of (by have eg : g' 47 = .bool false := hd ⟨47, .guard⟩ (by simp) rfl; simp [Region.wanted, yielded, eg]) ?_
        unfold Oper.wp
        go_simp
        refine (rest_vs (p := (hasS SA)) (r := (alR (hasS SA))) fb db w' (VS.kept _ _ _ _ HX.out.a hS.out) (fun _ => Iff.rfl) (CovN.bd (CA.out.rest) (by omega)) (HX.out.call hS.out).f (HX.out.call hS.out).d).mono ?_
        rintro e w9 ⟨z9, rfl, hz9, hb9⟩
        exact ⟨_, (by simp [upd, e51, e52]), hz9, hb9⟩
      · have e48 : g' 48 = .func (.func 19) #[] #[.pointer (some ⟨fb, 0, none⟩)] := hd ⟨48, .data⟩ (by simp) rfl
        have e49 : g' 49 = .func (.func 10) #[] #[] := hd ⟨49, .data⟩ (by simp) rfl
        have e50 : g' 50 = va := hd ⟨50, .data⟩ (by simp) rfl
        have H53 : Hid (VS (alR (hasS SA)) w' (g' 53)) := Lib.hid (hd ⟨53, .data⟩ (by simp) rfl)
        refine OpStep.of (by have eg : g' 47 = .bool false := hd ⟨47, .guard⟩ (by simp) rfl; simp [Region.wanted, yielded, eg]) ?_
        unfold Oper.wp
        go_simp
        refine (do_both (p := (hasS SA)) (q := (alR (hasS SA))) (r := (alM (hasS SA) (alR (hasS SA)))) fb w' (VS.kept _ _ _ _ HX.out.a hS.out) H53.out (fun _ => Iff.rfl) (BdN.congr (CovN.bd (CovN.less HSA.out CA.out) (by omega)) (fun k => (al_e6 (UA.out k)).symm))).mono ?_
        rintro e w9 ⟨z9, rfl, hz9, hb9⟩
        exact ⟨_, (by simp [upd, e48, e49, e50]), hz9, hb9⟩
      · have H54 : Hid (VS (alM (hasS SA) (alR (hasS SA))) w' (g' 54)) := Lib.hid (hd ⟨54, .data⟩ (by simp) rfl)
        obtain ⟨BL, dl, eL⟩ := VS.none H54.out (fun k => al_e7 (UA.out k))
        refine OpStep.of (by have eg : g' 47 = .bool false := hd ⟨47, .guard⟩ (by simp) rfl; simp [Region.wanted, yielded, eg]) ?_
        unfold Oper.wp
        go_simp
        exact ⟨_, (by simp [upd, eL]), rfl, Below.refl _ _⟩
      · have e55 : g' 55 = .int .i64 0 := hd ⟨55, .data⟩ (by simp) rfl
        refine OpStep.of (by have eg : g' 47 = .bool false := hd ⟨47, .guard⟩ (by simp) rfl; simp [Region.wanted, yielded, eg]) ?_
        unfold Oper.wp
        go_simp
        exact ⟨_, (by simp [upd, e55]), rfl, Below.refl _ _⟩
    · intro op ho g' w' hS hd
      have e47 : g' 47 = .bool false := hd 47 (by omega)
      have e56 : g' 56 = .bool false := hd 56 (by omega)
      have HX := Lib.hid (HX.out.call hS.out)
      replace ho := Option.some.inj ho
      subst ho
      refine ⟨rfl, ?_⟩
      unfold Oper.wp
      go_simp
      clear hd
      obtain ⟨V4, hV4⟩ : ∃ V4, V4 = w' := ⟨_, rfl⟩
      rw [← hV4] at HX ⊢
      clear hV4 hS
      go_wp2_with fail
      refine wp_region_vs 11 (fun h' => ⟨#[.slice A l.length cap, undef, .bool false, .pointer (some ⟨w.heap.size, 0, none⟩), va, vb, vc, .pointer (some ⟨fb, 0, none⟩), .pointer (some ⟨db, 0, none⟩), .func (Fn.func 20) #[] #[Value.pointer (some { block := db, off := 0 })], .func (Fn.func 9) #[] #[], .func (Fn.func 10) #[] #[], .func (Fn.func 11) #[] #[], .func (Fn.func 17) #[] #[], h' 10, undef, undef, undef, undef, undef, .slice A l.length cap, .agg #[Value.slice A l.length cap, Value.int IntKind.i64 0], .pointer (some ⟨w.heap.size, 0, none⟩), .pointer (some ⟨w.heap.size, 0, none⟩), va, .pointer (some ⟨w.heap.size, 0, none⟩), vb, .pointer (some ⟨w.heap.size, 0, none⟩), vc, .func (Fn.func 19) #[] #[Value.pointer (some { block := fb, off := 0 })], .func (Fn.func 20) #[] #[Value.pointer (some { block := db, off := 0 })], .func (Fn.func 20) #[] #[Value.pointer (some { block := db, off := 0 })], .func (Fn.func 19) #[] #[Value.pointer (some { block := fb, off := 0 })], va, vb, z1, z2, .int .i64 0, .bool false, undef, f' 0, f' 1, f' 2, f' 3, f' 4, f' 5, f' 6, f' 7, f' 8, f' 9, f' 10, f' 11, f' 12, f' 13, f' 14, f' 15, f' 16, f' 17, f' 18, f' 19, f' 20, f' 21, f' 22, f' 23, f' 24, f' 25, f' 26, f' 27, f' 28, f' 29, f' 30, f' 31, f' 32, f' 33, f' 34, f' 35, f' 36, f' 37, f' 38, f' 39, .bool false, f' 41, f' 42, f' 43, f' 44, f' 45, f' 46, f' 47, f' 48, f' 49, f' 50, f' 51, f' 52, f' 53, f' 54, f' 55, f' 56, f' 57, f' 58, f' 59, f' 60, f' 61, f' 62, f' 63, f' 64, .bool false, .bool false, g' 0, g' 1, g' 2, g' 3, g' 4, g' 5, g' 6, g' 7, g' 8, g' 9, g' 10, g' 11, g' 12, g' 13, g' 14, g' 15, g' 16, g' 17, g' 18, g' 19, g' 20, g' 21, g' 22, g' 23, g' 24, g' 25, g' 26, g' 27, g' 28, g' 29, g' 30, g' 31, g' 32, g' 33, g' 34, g' 35, g' 36, g' 37, g' 38, g' 39, g' 40, g' 41, g' 42, g' 43, g' 44, g' 45, g' 46, .bool false, g' 48, g' 49, g' 50, g' 51, g' 52, g' 53, g' 54, g' 55, .bool false, .bool false, h' 0, h' 1, h' 2, h' 3, h' 4, h' 5, h' 6, h' 7, h' 8, h' 9, undef, undef, undef, undef, undef, undef, undef, undef, undef, undef, undef, undef, undef, undef, undef, undef, undef, undef, undef, undef, undef, undef, undef, undef, undef, undef, undef, undef, undef, undef, undef, undef, undef, undef, undef, undef], []⟩) [VE (.func (.func 19) #[] #[.pointer (some ⟨fb, 0, none⟩)]), VE (.func (.func 9) #[] #[]), VE (va), VE (vb), VS (alJ (hasS SA) (hasS SB)), VE (.func (.func 19) #[] #[.pointer (some ⟨fb, 0, none⟩)]), VE (.func (.func 10) #[] #[]), VE (va), VE (vb), VS (alM (hasS SA) (hasS SB)), VS (alJ (hasS SA) (hasS SB))] V4 (fun _ => undef) 80 (show Tryz.prog.follows .mixedOrders = true from by kernel_rfl) (by kernel_rfl) ?_ ?_ ?_ rfl
      · intro p hp
        simp only [List.mem_cons, List.mem_nil_iff, or_false] at hp
        rcases hp with rfl | rfl | rfl | rfl | rfl | rfl | rfl | rfl | rfl | rfl | rfl <;> first | exact VE.kept _ | exact VS.kept _
      · intro i9 op hi9 ho h' w' hS hd
        have hcase : i9 = 0 ∨ i9 = 1 ∨ i9 = 2 ∨ i9 = 3 ∨ i9 = 4 ∨ i9 = 5 ∨ i9 = 6 ∨ i9 = 7 ∨ i9 = 8 ∨ i9 = 9 ∨ i9 = 10 := by omega
        rcases hcase with rfl | rfl | rfl | rfl | rfl | rfl | rfl | rfl | rfl | rfl | rfl <;> (replace ho := Option.some.inj ho; subst ho)
        · have hdc := (HX.out.call hS.out).dc
          refine OpStep.of rfl ?_
          unfold Oper.wp
          go_simp
          exact ⟨_, (by simp [upd]), rfl, Below.refl _ _⟩
        · refine OpStep.of rfl ?_
          unfold Oper.wp
          go_simp
          exact ⟨_, (by simp [upd]), rfl, Below.refl _ _⟩
        · refine OpStep.of rfl ?_
          unfold Oper.wp
          go_simp
          exact ⟨_, (by simp [upd]), rfl, Below.refl _ _⟩
        · refine OpStep.of rfl ?_
          unfold Oper.wp
          go_simp
          exact ⟨_, (by simp [upd]), rfl, Below.refl _ _⟩
        · have e0 : h' 0 = .func (.func 19) #[] #[.pointer (some ⟨fb, 0, none⟩)] := hd ⟨0, .data⟩ (by simp) rfl
          have e1 : h' 1 = .func (.func 9) #[] #[] := hd ⟨1, .data⟩ (by simp) rfl
          have e2 : h' 2 = va := hd ⟨2, .data⟩ (by simp) rfl
          have e3 : h' 3 = vb := hd ⟨3, .data⟩ (by simp) rfl
          refine OpStep.of rfl ?_
          unfold Oper.wp
          go_simp
          refine (do_union (p := (hasS SA)) (q := (hasS SB)) (r := (alJ (hasS SA) (hasS SB))) fb w' (VS.kept _ _ _ _ HX.out.a hS.out) (VS.kept _ _ _ _ HX.out.b hS.out) (fun _ => Iff.rfl) (CovN.bd ((CA.out.or CB.out)) (by omega))).mono ?_
          rintro e w9 ⟨z9, rfl, hz9, hb9⟩
          exact ⟨_, (by simp [upd, e0, e1, e2, e3]), hz9, hb9⟩
        · have hdc := (HX.out.call hS.out).dc
          refine OpStep.of rfl ?_
          unfold Oper.wp
          go_simp
          exact ⟨_, (by simp [upd]), rfl, Below.refl _ _⟩
        · refine OpStep.of rfl ?_
          unfold Oper.wp
          go_simp
          exact ⟨_, (by simp [upd]), rfl, Below.refl _ _⟩
        · refine OpStep.of rfl ?_
          unfold Oper.wp
          go_simp
          exact ⟨_, (by simp [upd]), rfl, Below.refl _ _⟩
        · refine OpStep.of rfl ?_
          unfold Oper.wp
          go_simp
          exact ⟨_, (by simp [upd]), rfl, Below.refl _ _⟩
        · have e5 : h' 5 = .func (.func 19) #[] #[.pointer (some ⟨fb, 0, none⟩)] := hd ⟨5, .data⟩ (by simp) rfl
          have e6 : h' 6 = .func (.func 10) #[] #[] := hd ⟨6, .data⟩ (by simp) rfl
          have e7 : h' 7 = va := hd ⟨7, .data⟩ (by simp) rfl
          have e8 : h' 8 = vb := hd ⟨8, .data⟩ (by simp) rfl
          refine OpStep.of rfl ?_
          unfold Oper.wp
          go_simp
          refine (do_both (p := (hasS SA)) (q := (hasS SB)) (r := (alM (hasS SA) (hasS SB))) fb w' (VS.kept _ _ _ _ HX.out.a hS.out) (VS.kept _ _ _ _ HX.out.b hS.out) (fun _ => Iff.rfl) (CovN.bd ((CA.out.and CB.out)) (by omega))).mono ?_
          rintro e w9 ⟨z9, rfl, hz9, hb9⟩
          exact ⟨_, (by simp [upd, e5, e6, e7, e8]), hz9, hb9⟩
        · have H4 : Hid (VS (alJ (hasS SA) (hasS SB)) w' (h' 4)) := Lib.hid (hd ⟨4, .data⟩ (by simp) rfl)
          refine OpStep.of rfl ?_
          unfold Oper.wp
          go_simp
          exact ⟨_, (by simp [upd]), H4.out, Below.refl _ _⟩
      · intro op ho h' w' hS hd
        have H9 : Hid (VS (alM (hasS SA) (hasS SB)) w' (h' 9)) := Lib.hid (hd 9 (by omega))
        have HX := Lib.hid (HX.out.call hS.out)
        replace ho := Option.some.inj ho
        subst ho
        refine ⟨rfl, ?_⟩
        unfold Oper.wp
        go_simp
        have H10 : Hid (VS (alJ (hasS SA) (hasS SB)) w' (h' 10)) := Lib.hid (hd 10 (by omega))
        clear hd
        obtain ⟨V5, hV5⟩ : ∃ V5, V5 = w' := ⟨_, rfl⟩
        rw [← hV5] at HX H9 H10 ⊢
        clear hV5 hS
        generalize h' 10 = vx at H10 ⊢
        generalize h' 9 = vy at H9 ⊢
        obtain ⟨AX, cx, PX, TX, rfl, hx1, hx2, hx3, hx4⟩ := H10.out
        obtain ⟨AY, cy, PY, TY, rfl, hy1, hy2, hy3, hy4⟩ := H9.out
        obtain ⟨A6, c6, P6, T6, rfl, ha1, ha2, ha3, ha4⟩ := HX.out.a
        obtain ⟨A7, c7, P7, T7, rfl, hb1, hb2, hb3, hb4⟩ := HX.out.b
        have HSZ : Hid (lenS TX + lenS TY = lenS T6 + lenS T7) := Lib.hid (lenS_two ha2.norm hb2.norm hx2.norm hy2.norm (fun k => by rw [hx3, ha3, hb3]; exact Iff.rfl) (fun k => by rw [hy3, ha3, hb3]; exact Iff.rfl))
        have hf5 := HX.out.fc
        have HX5 := Lib.hid HX.out.below
        have X1 := Lib.hid (And.intro hx1 (And.intro hx2 hx4))
        have Y1 := Lib.hid (And.intro hy1 (And.intro hy2 hy4))
        have A9 := Lib.hid (And.intro ha1 (And.intro ha2 ha4))
        have B9 := Lib.hid (And.intro hb1 (And.intro hb2 hb4))
        have hc1 := checkSet_any AX cx PX TX V5 hx1 hx2 hx4
        clear hx1 hx2 hx3 hx4 hy1 hy2 hy3 hy4 ha1 ha2 ha3 ha4 hb1 hb2 hb3 hb4 H9 H10 HX
        go_wp2_with fail
        refine hc1.mono ?_
        rintro e V6 ⟨rfl, hb⟩
        have HX6 := Lib.hid (HX5.out.trans (hb.mono HX5.out.size))
        have X2 := Lib.hid (X1.out.1.below hb)
        have Y2 := Lib.hid (Y1.out.1.below hb)
        have A2' := Lib.hid (A9.out.1.below hb)
        have B2' := Lib.hid (B9.out.1.below hb)
        have hc2 := checkSet_any AY cy PY TY V6 Y2.out Y1.out.2.1 Y1.out.2.2
        clear hc1 hb
        go_wp2_with fail
        refine hc2.mono ?_
        rintro e V7 ⟨rfl, hb⟩
        have HX7 := Lib.hid (HX6.out.trans (hb.mono HX6.out.size))
        have X3 := Lib.hid (X2.out.below hb)
        have Y3 := Lib.hid (Y2.out.below hb)
        have hs1 := sizes_any A6 A7 c6 c7 P6 P7 T6 T7 V7 (A2'.out.below hb) (B2'.out.below hb) A9.out.2.1 B9.out.2.1 A9.out.2.2 B9.out.2.2 (tab_kept HT.out HX7.out (Nat.le_refl _))
        clear hc2 hb
        go_wp2_with fail
        refine hs1.mono ?_
        rintro e V8 ⟨t1, rfl, g1, g2, g3, hb⟩
        have HX8 := Lib.hid (HX7.out.trans (hb.mono HX7.out.size))
        have G1 := Lib.hid (And.intro g1 (And.intro g2 g3))
        have hs2 := sizes_any AX AY cx cy PX PY TX TY V8 (X3.out.below hb) (Y3.out.below hb) X1.out.2.1 Y1.out.2.1 X1.out.2.2 Y1.out.2.2 (tab_kept HT.out HX8.out (Nat.le_refl _))
        clear hs1 hb g1 g2 g3
        go_wp2_with fail
        refine hs2.mono ?_
        rintro e V9 ⟨t2, rfl, g1, g2, g3, hb⟩
        have HX9 := Lib.hid (HX8.out.trans (hb.mono HX8.out.size))
        obtain rfl : t2 = t1 := dg_one g1 G1.out.1 g2 G1.out.2.1 (by rw [g3, G1.out.2.2, HSZ.out])
        clear hs2 hb g1 g2 g3
        go_wp2_with fail
        refine (ready2 V9 (HM.out.below HX9.out)).mono ?_
        rintro e V10 ⟨rfl, hb⟩
        have HX10 := Lib.hid (HX9.out.trans (hb.mono HX9.out.size))
        clear hb
        go_wp2_with fail
        go_ret
        exact ⟨rfl, HX10.out⟩
end Go.Proofs.YtcmfkheohhfpiaaGreatDoor
