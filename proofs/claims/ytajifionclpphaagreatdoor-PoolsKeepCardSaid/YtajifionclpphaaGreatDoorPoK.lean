/- addr.take: a place is leased. -/
import Derived.Test.YtajifionclpphaaGreatDoorPoJ
namespace Go.Proofs.YtajifionclpphaaGreatDoor
open Go.RowKit Go.Hw
/-- No free prefix is as great as asked for. -/
def FullN (P : Pl) (n : Int) : Prop := ∃ S, NormS S ∧ (∀ z ∈ S, famOk z) ∧ (∀ k, hasS S k ↔ freeN P k) ∧ ¬ ∃ f ∈ preS S, (lenA P.pf.six - n).toNat ≤ f.2
/-- What a free place is that was chosen. -/
def ChoseN (P : Pl) (n : Int) (x : Pf) : Prop := x.bits = n ∧ P.pf.bits ≤ n ∧ n ≤ lenA P.pf.six ∧ n ≤ P.pf.bits + 20 ∧ ∃ f, okP f ∧ (∀ k, inP f k → freeN P k) ∧ f.bits ≤ n ∧ x = subP f n
theorem re64 {W W9 : World} {R S : Nat} {a0 a1 a2 a3 a4 a5 v0 v1 v2 v3 v4 v5 d0 d1 d2 d3 u0 u1 u2 u3 : Value} {T T' : TypeId} (hR : W.heap[R]? = some (.cells #[a0, a1, a2, a3, a4, a5] T (0, 0))) (hS : W.heap[S]? = some (.cells #[d0, d1, d2, d3] T' (0, 0))) (hne : R ≠ S)
    (h : ((((((((((W.setCell ⟨R, 0, none⟩ v0).setCell ⟨R, 1, none⟩ v1).setCell ⟨R, 2, none⟩ v2).setCell ⟨R, 3, none⟩ v3).setCell ⟨R, 4, none⟩ v4).setCell ⟨R, 5, none⟩ v5).setCell ⟨S, 0, none⟩ u0).setCell ⟨S, 1, none⟩ u1).setCell ⟨S, 2, none⟩ u2).setCell ⟨S, 3, none⟩ u3) = W9) :
    W9.heap[R]? = some (.cells #[v0, v1, v2, v3, v4, v5] T (0, 0)) ∧ W9.heap[S]? = some (.cells #[u0, u1, u2, u3] T' (0, 0)) ∧ ∀ B w, Below B w W → B ≤ R → B ≤ S → Below B w W9 := by
  have h1 := re6q (v0 := v0) (v1 := v1) (v2 := v2) (v3 := v3) (v4 := v4) (v5 := v5) hR rfl
  have h2 := re4 ((h1.oth S (fun e => hne e.symm)).trans hS) h
  exact ⟨(h2.oth R hne).trans h1.blk, h2.blk, fun B w hb hBR hBS => h2.below (h1.below hb hBR) hBS⟩
theorem re64o {W W9 : World} {R S : Nat} {a0 a1 a2 a3 a4 a5 v0 v1 v2 v3 v4 v5 d0 d1 d2 d3 u0 u1 u2 u3 : Value} {T T' : TypeId} (hR : W.heap[R]? = some (.cells #[a0, a1, a2, a3, a4, a5] T (0, 0))) (hS : W.heap[S]? = some (.cells #[d0, d1, d2, d3] T' (0, 0))) (hne : R ≠ S)
    (h : ((((((((((W.setCell ⟨R, 0, none⟩ v0).setCell ⟨R, 1, none⟩ v1).setCell ⟨R, 2, none⟩ v2).setCell ⟨R, 3, none⟩ v3).setCell ⟨R, 4, none⟩ v4).setCell ⟨R, 5, none⟩ v5).setCell ⟨S, 0, none⟩ u0).setCell ⟨S, 1, none⟩ u1).setCell ⟨S, 2, none⟩ u2).setCell ⟨S, 3, none⟩ u3) = W9) :
    W9.heap.size = W.heap.size ∧ ∀ b, b ≠ R → b ≠ S → W9.heap[b]? = W.heap[b]? := by
  have h1 := re6q (v0 := v0) (v1 := v1) (v2 := v2) (v3 := v3) (v4 := v4) (v5 := v5) hR rfl
  have h2 := re4 ((h1.oth S (fun e => hne e.symm)).trans hS) h
  exact ⟨h2.size.trans h1.size, fun b n1 n2 => (h2.oth b n2).trans (h1.oth b n1)⟩
/-- A region that draws its order: any relation between its worlds, any invariant. -/
theorem wp_region_gr {P : Program} {ops : Array Oper} {Q : Exit → Act → World → Prop} {id : Nat} (n : Nat) {w : World} (A : (Nat → Value) → Act) (l : List (World → Value → Prop)) (I : World → Prop) (Gr : World → World → Prop) (f0 : Nat → Value) (K : Nat)
    (hm : P.follows .mixedOrders = true) (hok : regOkF ops n K = true) (kept : ∀ p ∈ l, ∀ w w' v, p w v → Gr w w' → p w' v)
    (step : ∀ (i : Nat) (o : Oper), i < n → ops[i]? = some o → ∀ (f : Nat → Value) (w : World), Hid (I w) → (∀ e ∈ o.after, Region.binds .any e = true → VO l e.on w (f e.on)) →
      OpStep P ops Q o (A f) w (fun a' w' => ∃ v, a' = A (upd f i v) ∧ VO l i w' v ∧ I w' ∧ Gr w w'))
    (last : ∀ (o : Oper), ops[n]? = some o → ∀ (f : Nat → Value) (w : World), Hid (I w) → (∀ j, j < n → VO l j w (f j)) → Region.wanted o (yielded ops (A f).tmps) = true ∧ o.wp P (A f) w (fun a' w' => Q .normal a' w') Q)
    (h0 : I { w with drawn := w.drawn + 1 }) : (Code.region id ops true).wp P Q (A f0) w := by
  refine wp_region_free n A (VO l) (fun _ w' => Hid (I w')) Gr f0 K hm hok (fun i w w' v hv hg => ?_) ?_ ?_ (Lib.hid h0)
  · unfold VO at *
    by_cases hi : i < l.length
    · exact kept _ (rw_mem hi) w w' v hv hg
    · rw [List.getD_eq_getElem?_getD, List.getElem?_eq_none (by omega)] at hv ⊢
      exact hv
  · intro i o hi ho f w' k _ hG hd
    exact OpStep.mono (fun a' w2 ⟨v, e1, e2, e3, e4⟩ => ⟨v, e1, e2, Lib.hid e3, e4⟩) (step i o hi ho f w' hG hd)
  · intro o ho f w' k _ hG hd
    exact last o ho f w' hG hd
theorem RwAt.two {α : Type} {c : α → List Value} {n : Nat} {d : α} {w w' : World} {A : Option Addr} {L : List α} {R S : Nat} (h : RwAt c n d w A L) (hs : w.heap.size ≤ w'.heap.size) (oth : ∀ b, b < w.heap.size → b ≠ R → b ≠ S → w'.heap[b]? = w.heap[b]?) (hne : ∀ a, A = some a → a.block ≠ R ∧ a.block ≠ S) : RwAt c n d w' A L := fun i hi => by
  obtain ⟨g, off, h1, h2, h3⟩ := h i hi
  obtain ⟨n1, n2⟩ := hne _ h1
  exact ⟨g, off, h1, Nat.lt_of_lt_of_le h2 hs, h3.keep fun p hp => World.cell?_of_block (oth p.block (by rw [hp]; exact h2) (by rw [hp]; exact n1) (by rw [hp]; exact n2))⟩
/-- A pool's rows lie behind a bound. -/
def RowsFrom (AK AL : Option Addr) (base : Nat) : Prop := (∀ a, AK = some a → base ≤ a.block) ∧ ∀ a, AL = some a → base ≤ a.block
/-- What take hands back. -/
def TakeIs (w : World) (P : Pl) (key : List UInt8) (n : Int) (e : Ending) (w' : World) : Prop :=
  ((∃ g : Int, e = .returned (.tuple #[.agg #[.bool false, .int .u64 0, .int .u64 0, .int .i64 0, .slice none 0 0, .slice none 0 0], .agg #[.bool false, .int .u64 0, .int .u64 0, .int .i64 0], .int .i64 g]) ∧ (g = 1 ∨ g = 12 ∧ FullN P n)) ∨
   (∃ (x : Pf) (AK AL : Option Addr) (ck cl : Nat), e = .returned (.tuple #[plV P.pf (.slice AK P.kept.length ck) (.slice AL (P.ls.length + 1) cl), .agg #[.bool x.six, .int .u64 x.hi, .int .u64 x.lo, .int .i64 x.bits], .int .i64 0]) ∧ PlAt w' ⟨P.pf, P.kept, isortL (leLt cmpK) (P.ls ++ [⟨key, x⟩])⟩ AK AL cl ∧ ChoseN P n x ∧ RowsFrom AK AL w.heap.size)) ∧ Below w.heap.size w w'
theorem PlAt.two {w w' : World} {P : Pl} {AK AL : Option Addr} {cl R S base : Nat} (h : PlAt w P AK AL cl) (hs : w.heap.size ≤ w'.heap.size) (oth : ∀ b, b < w.heap.size → b ≠ R → b ≠ S → w'.heap[b]? = w.heap[b]?) (hf : RowsFrom AK AL base) (hR : R < base) (hS : S < base) : PlAt w' P AK AL cl :=
  ⟨h.kept.two hs oth (fun a ha => by have := hf.1 a ha; omega), h.kept0, h.ls.two hs oth (fun a ha => by have := hf.2 a ha; omega), h.ls0, h.cap⟩
/-- A pool as a value; a pool in the result's block. -/
def VQ (Q : Pl) (m base : Nat) : World → Value → Prop := fun w v => ∃ AK AL ck cl, v = plV Q.pf (.slice AK Q.kept.length ck) (.slice AL m cl) ∧ PlAt w Q AK AL cl ∧ RowsFrom AK AL base
def GoodR (Q : Pl) (m R base : Nat) (w : World) : Prop := ∃ AK AL ck cl, w.heap[R]? = some (plBox Q.pf (.slice AK Q.kept.length ck) (.slice AL m cl)) ∧ PlAt w Q AK AL cl ∧ RowsFrom AK AL base
/-- What holds while the two results' blocks are laid. -/
structure TkI (w0 W : World) (R S : Nat) (w' : World) : Prop where
  bel : Below w0.heap.size w0 w'
  size : W.heap.size ≤ w'.heap.size
  oth : ∀ b, b < W.heap.size → b ≠ R → b ≠ S → w'.heap[b]? = W.heap[b]?
  r : ∃ a0 a1 a2 a3 a4 a5, w'.heap[R]? = some (.cells #[a0, a1, a2, a3, a4, a5] 53 (0, 0))
  s : ∃ a0 a1 a2 a3, w'.heap[S]? = some (.cells #[a0, a1, a2, a3] 48 (0, 0))
/-- How its steps go. -/
structure TkS (Q : Pl) (m R S base : Nat) (X : Obj) (w w' : World) : Prop where
  size : w.heap.size ≤ w'.heap.size
  oth : ∀ b, b < w.heap.size → b ≠ R → b ≠ S → w'.heap[b]? = w.heap[b]?
  r : w'.heap[R]? = w.heap[R]? ∨ GoodR Q m R base w'
  s : w'.heap[S]? = w.heap[S]? ∨ w'.heap[S]? = some X
theorem TkS.refl (Q : Pl) (m R S base : Nat) (X : Obj) (w : World) : TkS Q m R S base X w w := ⟨Nat.le_refl _, fun _ _ _ _ => rfl, .inl rfl, .inl rfl⟩
theorem TkS.vq {Q : Pl} {m R S base : Nat} {X : Obj} (hR : R < base) (hS : S < base) : ∀ w w' v, VQ Q m base w v → TkS Q m R S base X w w' → VQ Q m base w' v := fun _ _ _ ⟨AK, AL, ck, cl, e, hp, hf⟩ h => ⟨AK, AL, ck, cl, e, hp.two h.size h.oth hf hR hS, hf⟩
theorem TkS.good {Q : Pl} {m R S base : Nat} {X : Obj} (hR : R < base) (hS : S < base) : ∀ w w' (v : Value), (v = undef ∧ GoodR Q m R base w) → TkS Q m R S base X w w' → (v = undef ∧ GoodR Q m R base w') := fun _ _ _ ⟨e, AK, AL, ck, cl, hb, hp, hf⟩ h => ⟨e, h.r.elim (fun h1 => ⟨AK, AL, ck, cl, h1.trans hb, hp.two h.size h.oth hf hR hS, hf⟩) id⟩
theorem TkS.six {Q : Pl} {m R S base : Nat} {X : Obj} : ∀ w w' (v : Value), (v = undef ∧ w.heap[S]? = some X) → TkS Q m R S base X w w' → (v = undef ∧ w'.heap[S]? = some X) := fun _ _ _ ⟨e, hb⟩ h => ⟨e, h.s.elim (fun h1 => h1.trans hb) id⟩
/-- A call grows the heap. -/
theorem TkI.grow {w0 W w' w2 : World} {R S : Nat} (h : TkI w0 W R S w') (hb : Below w'.heap.size w' w2) (hR : R < W.heap.size) (hS : S < W.heap.size) : TkI w0 W R S w2 := by
  have hs := h.size
  refine ⟨h.bel.trans (hb.mono h.bel.size), Nat.le_trans h.size hb.size, fun b hb1 h1 h2 => (hb.block b (by omega)).trans (h.oth b hb1 h1 h2), ?_, ?_⟩
  · obtain ⟨a0, a1, a2, a3, a4, a5, e⟩ := h.r
    exact ⟨a0, a1, a2, a3, a4, a5, (hb.block R (by omega)).trans e⟩
  · obtain ⟨a0, a1, a2, a3, e⟩ := h.s
    exact ⟨a0, a1, a2, a3, (hb.block S (by omega)).trans e⟩
theorem TkS.grow {Q : Pl} {m R S base : Nat} {X : Obj} {w w' : World} (hb : Below w.heap.size w w') (hR : R < w.heap.size) (hS : S < w.heap.size) : TkS Q m R S base X w w' := ⟨hb.size, fun b h _ _ => hb.block b h, .inl (hb.block R hR), .inl (hb.block S hS)⟩
/-- The pool is stored; the prefix is stored. -/
theorem TkI.storeR {w0 W w' w2 : World} {R S : Nat} {v0 v1 v2 v3 v4 v5 : Value} (h : TkI w0 W R S w') (hr : Re w' w2 R #[v0, v1, v2, v3, v4, v5] 53) (h0 : w0.heap.size ≤ R) (hne : R ≠ S) : TkI w0 W R S w2 :=
  ⟨hr.below h.bel h0, by rw [hr.size]; exact h.size, fun b hb h1 h2 => (hr.oth b h1).trans (h.oth b hb h1 h2), ⟨_, _, _, _, _, _, hr.blk⟩, by obtain ⟨a0, a1, a2, a3, e⟩ := h.s; exact ⟨a0, a1, a2, a3, (hr.oth S (fun e => hne e.symm)).trans e⟩⟩
theorem TkI.storeS {w0 W w' w2 : World} {R S : Nat} {v0 v1 v2 v3 : Value} (h : TkI w0 W R S w') (hr : Re w' w2 S #[v0, v1, v2, v3] 48) (h0 : w0.heap.size ≤ S) (hne : R ≠ S) : TkI w0 W R S w2 :=
  ⟨hr.below h.bel h0, by rw [hr.size]; exact h.size, fun b hb h1 h2 => (hr.oth b h2).trans (h.oth b hb h1 h2), by obtain ⟨a0, a1, a2, a3, a4, a5, e⟩ := h.r; exact ⟨a0, a1, a2, a3, a4, a5, (hr.oth R hne).trans e⟩, ⟨_, _, _, _, hr.blk⟩⟩
theorem TkS.storeR {Q : Pl} {m R S base : Nat} {X : Obj} {w w' : World} {cs : Array Value} {T : TypeId} (hr : Re w w' R cs T) (hne : R ≠ S) (hg : GoodR Q m R base w') : TkS Q m R S base X w w' := ⟨by rw [hr.size]; exact Nat.le_refl _, fun b _ h1 _ => hr.oth b h1, .inr hg, .inl (hr.oth S (fun e => hne e.symm))⟩
theorem TkS.storeS {Q : Pl} {m R S base : Nat} {w w' : World} {cs : Array Value} {T : TypeId} (hr : Re w w' S cs T) (hne : R ≠ S) : TkS Q m R S base (.cells cs T (0, 0)) w w' := ⟨by rw [hr.size]; exact Nat.le_refl _, fun b _ _ h2 => hr.oth b h2, .inl (hr.oth R hne), .inr hr.blk⟩
set_option maxRecDepth 100000 in
set_option maxHeartbeats 8000000 in
theorem take_any (P : Pl) (key : List UInt8) (n : Int) (best : Bool) (AK AL : Option Addr) (ck cl : Nat) (w : World) (h : PlAt w P AK AL cl) (hf : FinePl P) (hk : isKey ⟨key.toArray⟩ = true) (hk2 : key.length ≤ 40) (hno : ∀ x ∈ P.ls, x.key ≠ key) :
    Calls Tryz.prog 57 #[plV P.pf (.slice AK P.kept.length ck) (.slice AL P.ls.length cl), .string ⟨key.toArray⟩, .int .i64 n, .bool best] w (TakeIs w P key n) := by
  have HF := Lib.hid hf
  have HNO := Lib.hid hno
  have hbb : 0 ≤ P.pf.bits ∧ P.pf.bits ≤ 128 := by
    obtain ⟨-, h0, m, hm, -⟩ := hf.ok.pf
    have : lenA P.pf.six ≤ 128 := by unfold lenA; split <;> omega
    omega
  have b1 : Below w.heap.size w (((w.alloc (plBox P.pf (.slice AK P.kept.length ck) (.slice AL P.ls.length cl))).alloc (.cells #[.bool false, .int .u64 0, .int .u64 0, .int .i64 0, .slice none 0 0, .slice none 0 0] 53 (0, 0))).alloc (.cells #[.bool false, .int .u64 0, .int .u64 0, .int .i64 0] 48 (0, 0))) := (((Below.refl _ _).alloc (Nat.le_refl _) _).alloc (by simp) _).alloc (by simp <;> omega) _
  have b0 : (((w.alloc (plBox P.pf (.slice AK P.kept.length ck) (.slice AL P.ls.length cl))).alloc (.cells #[.bool false, .int .u64 0, .int .u64 0, .int .i64 0, .slice none 0 0, .slice none 0 0] 53 (0, 0))).alloc (.cells #[.bool false, .int .u64 0, .int .u64 0, .int .i64 0] 48 (0, 0))).heap[w.heap.size]? = some (plBox P.pf (.slice AK P.kept.length ck) (.slice AL P.ls.length cl)) := (heap_alloc_old _ _ (by simp <;> omega)).trans ((heap_alloc_old _ _ (by simp)).trans (heap_alloc_new w _))
  have b2 : (((w.alloc (plBox P.pf (.slice AK P.kept.length ck) (.slice AL P.ls.length cl))).alloc (.cells #[.bool false, .int .u64 0, .int .u64 0, .int .i64 0, .slice none 0 0, .slice none 0 0] 53 (0, 0))).alloc (.cells #[.bool false, .int .u64 0, .int .u64 0, .int .i64 0] 48 (0, 0))).heap[w.heap.size + 1]? = some (.cells #[.bool false, .int .u64 0, .int .u64 0, .int .i64 0, .slice none 0 0, .slice none 0 0] 53 (0, 0)) := (heap_alloc_old _ _ (by simp)).trans (by
    have := heap_alloc_new (w.alloc (plBox P.pf (.slice AK P.kept.length ck) (.slice AL P.ls.length cl))) (.cells #[.bool false, .int .u64 0, .int .u64 0, .int .i64 0, .slice none 0 0, .slice none 0 0] 53 (0, 0))
    simp only [Re_size] at this
    exact this)
  have b3 : (((w.alloc (plBox P.pf (.slice AK P.kept.length ck) (.slice AL P.ls.length cl))).alloc (.cells #[.bool false, .int .u64 0, .int .u64 0, .int .i64 0, .slice none 0 0, .slice none 0 0] 53 (0, 0))).alloc (.cells #[.bool false, .int .u64 0, .int .u64 0, .int .i64 0] 48 (0, 0))).heap[w.heap.size + 2]? = some (.cells #[.bool false, .int .u64 0, .int .u64 0, .int .i64 0] 48 (0, 0)) := by
    have := heap_alloc_new ((w.alloc (plBox P.pf (.slice AK P.kept.length ck) (.slice AL P.ls.length cl))).alloc (.cells #[.bool false, .int .u64 0, .int .u64 0, .int .i64 0, .slice none 0 0, .slice none 0 0] 53 (0, 0))) (.cells #[.bool false, .int .u64 0, .int .u64 0, .int .i64 0] 48 (0, 0))
    simp only [Re_size] at this
    exact this
  have HB := Lib.hid b1
  have H0 := Lib.hid (h.below b1)
  have HW0 := Lib.hid h
  clear h hf b1 hno
  unfold plV
  unfold plBox at b0 b2 b3 HB H0
  go_enter Tryz.func57, Tryz.ntmps57
  go_upto_region 1 with (fail)
  generalize World.alloc (World.alloc (World.alloc w _) _) _ = W at b0 b2 b3 HB H0 ⊢
  have BX := Lib.hid b0
  have BR := Lib.hid b2
  have BS := Lib.hid b3
  have HS0 := Lib.hid HB.out.size
  obtain ⟨⟨x0, x1, x2, x3, x4, x5⟩, -⟩ := res6r b0
  clear b0 b2 b3
  have hck := keyFault0 P key AK AL ck cl W H0.out HF.out hk hk2 HNO.out
  unfold plV at hck
  go_wp2_with fail
  refine hck.mono ?_
  rintro e W1 ⟨rfl, hb1⟩
  have BX1 := Lib.hid ((hb1.block _ (lt_of_block BX.out)).trans BX.out)
  have BR1 := Lib.hid ((hb1.block _ (lt_of_block BR.out)).trans BR.out)
  have BS1 := Lib.hid ((hb1.block _ (lt_of_block BS.out)).trans BS.out)
  have HB1 := Lib.hid (HB.out.trans (hb1.mono HB.out.size))
  have H1 := Lib.hid (H0.out.below hb1)
  clear hck hb1 x0 x1 x2 x3 x4 x5 BX BR BS HB H0
  have hbx := lt_of_block BX1.out
  have hbr := lt_of_block BR1.out
  have hbs := lt_of_block BS1.out
  obtain ⟨⟨x0, x1, x2, x3, x4, x5⟩, -⟩ := res6r BX1.out
  go_upto_region 4 with (fail)
  -- R4
  refine wp_region_vs 13 (fun f' => ⟨#[.agg #[Value.bool P.pf.six, Value.int IntKind.u64 P.pf.hi, Value.int IntKind.u64 P.pf.lo, Value.int IntKind.i64 P.pf.bits, Value.slice AK P.kept.length ck, Value.slice AL P.ls.length cl], .string { data := key.toArray }, .int .i64 n, .bool best, .pointer (some ⟨w.heap.size, 0, none⟩), undef, undef, undef, .pointer (some ⟨w.heap.size + 1, 0, none⟩), .pointer (some ⟨w.heap.size + 1 + 1, 0, none⟩), .int .i64 0, .int .i64 0, undef, undef, .agg #[Value.bool P.pf.six, Value.int IntKind.u64 P.pf.hi, Value.int IntKind.u64 P.pf.lo, Value.int IntKind.i64 P.pf.bits, Value.slice AK P.kept.length ck, Value.slice AL P.ls.length cl], .string { data := key.toArray }, .int .i64 0, .int .i64 0, .bool false, undef, undef, undef, f' 0, f' 1, f' 2, f' 3, f' 4, f' 5, f' 6, f' 7, f' 8, f' 9, f' 10, f' 11, f' 12, undef, undef, undef, undef, undef, undef, undef, undef, undef, undef, undef, undef, undef, undef, undef, undef, undef, undef, undef, undef, undef, undef, undef, undef, undef], []⟩) [VE (.int .i64 n), VE (.pointer (some ⟨w.heap.size, 0, none⟩)), VE (.pointer (some ⟨w.heap.size, 3, none⟩)), VE (.int .i64 P.pf.bits), VE (.pointer (some ⟨w.heap.size, 0, none⟩)), VE (.pointer (some ⟨w.heap.size, 0, none⟩)), VE (.agg #[.bool P.pf.six, .int .u64 P.pf.hi, .int .u64 P.pf.lo]), VE (.int .i64 (lenA P.pf.six)), VE (.pointer (some ⟨w.heap.size, 0, none⟩)), VE (.pointer (some ⟨w.heap.size, 3, none⟩)), VE (.int .i64 P.pf.bits), VE (.int .i64 (P.pf.bits + 20)), VE (.int .i64 (min (lenA P.pf.six) (P.pf.bits + 20)))] W1 (fun _ => undef) 40 (show Tryz.prog.follows .mixedOrders = true from by kernel_rfl) (by kernel_rfl) ?_ ?_ ?_ rfl
  · intro p hp
    simp only [List.mem_cons, List.mem_nil_iff, or_false] at hp
    rcases hp with rfl | rfl | rfl | rfl | rfl | rfl | rfl | rfl | rfl | rfl | rfl | rfl | rfl <;> exact VE.kept _
  · intro i9 op hi9 ho f' w' hS hd
    have hcase : i9 = 0 ∨ i9 = 1 ∨ i9 = 2 ∨ i9 = 3 ∨ i9 = 4 ∨ i9 = 5 ∨ i9 = 6 ∨ i9 = 7 ∨ i9 = 8 ∨ i9 = 9 ∨ i9 = 10 ∨ i9 = 11 ∨ i9 = 12 := by omega
    rcases hcase with rfl | rfl | rfl | rfl | rfl | rfl | rfl | rfl | rfl | rfl | rfl | rfl | rfl <;> (replace ho := Option.some.inj ho; subst ho)
    · refine OpStep.of rfl ?_
      unfold Oper.wp
      go_simp
      exact ⟨_, (by simp [upd]), rfl, Below.refl _ _⟩
    · refine OpStep.of rfl ?_
      unfold Oper.wp
      go_simp
      exact ⟨_, (by simp [upd]), rfl, Below.refl _ _⟩
    · have e1 : f' 1 = .pointer (some ⟨w.heap.size, 0, none⟩) := hd ⟨1, .data⟩ (by simp) rfl
      refine OpStep.of rfl ?_
      unfold Oper.wp
      go_simp
      exact ⟨_, (by simp [upd, e1]), rfl, Below.refl _ _⟩
    · have e2 : f' 2 = .pointer (some ⟨w.heap.size, 3, none⟩) := hd ⟨2, .data⟩ (by simp) rfl
      have x3' : w'.cell? ⟨w.heap.size, 3, none⟩ = some (.int .i64 P.pf.bits) := (hS.out.cell (p := ⟨w.heap.size, _, none⟩) hbx).trans x3
      refine OpStep.of rfl ?_
      unfold Oper.wp
      go_simp
      exact ⟨_, (by simp [upd, e2]), rfl, Below.refl _ _⟩
    · refine OpStep.of rfl ?_
      unfold Oper.wp
      go_simp
      exact ⟨_, (by simp [upd]), rfl, Below.refl _ _⟩
    · have e4 : f' 4 = .pointer (some ⟨w.heap.size, 0, none⟩) := hd ⟨4, .data⟩ (by simp) rfl
      refine OpStep.of rfl ?_
      unfold Oper.wp
      go_simp
      exact ⟨_, (by simp [upd, e4]), rfl, Below.refl _ _⟩
    · have e5 : f' 5 = .pointer (some ⟨w.heap.size, 0, none⟩) := hd ⟨5, .data⟩ (by simp) rfl
      have x0' : w'.cell? ⟨w.heap.size, 0, none⟩ = some (.bool P.pf.six) := (hS.out.cell (p := ⟨w.heap.size, _, none⟩) hbx).trans x0
      have x1' : w'.cell? ⟨w.heap.size, 1, none⟩ = some (.int .u64 P.pf.hi) := (hS.out.cell (p := ⟨w.heap.size, _, none⟩) hbx).trans x1
      have x2' : w'.cell? ⟨w.heap.size, 2, none⟩ = some (.int .u64 P.pf.lo) := (hS.out.cell (p := ⟨w.heap.size, _, none⟩) hbx).trans x2
      refine OpStep.of rfl ?_
      unfold Oper.wp
      go_simp
      exact ⟨_, (by simp [upd, e5]), rfl, Below.refl _ _⟩
    · have e6 : f' 6 = .agg #[.bool P.pf.six, .int .u64 P.pf.hi, .int .u64 P.pf.lo] := hd ⟨6, .data⟩ (by simp) rfl
      refine OpStep.of rfl ?_
      unfold Oper.wp
      go_simp
      refine (spanLength_any P.pf.six P.pf.hi P.pf.lo w').mono ?_
      rintro e w9 ⟨rfl, hb9⟩
      exact ⟨_, (by simp [upd, e6]), rfl, hb9⟩
    · refine OpStep.of rfl ?_
      unfold Oper.wp
      go_simp
      exact ⟨_, (by simp [upd]), rfl, Below.refl _ _⟩
    · have e8 : f' 8 = .pointer (some ⟨w.heap.size, 0, none⟩) := hd ⟨8, .data⟩ (by simp) rfl
      refine OpStep.of rfl ?_
      unfold Oper.wp
      go_simp
      exact ⟨_, (by simp [upd, e8]), rfl, Below.refl _ _⟩
    · have e9 : f' 9 = .pointer (some ⟨w.heap.size, 3, none⟩) := hd ⟨9, .data⟩ (by simp) rfl
      have x3' : w'.cell? ⟨w.heap.size, 3, none⟩ = some (.int .i64 P.pf.bits) := (hS.out.cell (p := ⟨w.heap.size, _, none⟩) hbx).trans x3
      refine OpStep.of rfl ?_
      unfold Oper.wp
      go_simp
      exact ⟨_, (by simp [upd, e9]), rfl, Below.refl _ _⟩
    · have e10 : f' 10 = .int .i64 P.pf.bits := hd ⟨10, .data⟩ (by simp) rfl
      have hw20 : IntKind.i64.wrap (P.pf.bits + 20) = P.pf.bits + 20 := wrap_small _ (by omega) (by omega)
      refine OpStep.of rfl ?_
      unfold Oper.wp
      go_simp
      exact ⟨_, (by simp [upd, e10]), rfl, Below.refl _ _⟩
    · have e7 : f' 7 = .int .i64 (lenA P.pf.six) := hd ⟨7, .data⟩ (by simp) rfl
      have e11 : f' 11 = .int .i64 (P.pf.bits + 20) := hd ⟨11, .data⟩ (by simp) rfl
      refine OpStep.of rfl ?_
      unfold Oper.wp
      go_simp
      exact ⟨_, (by simp [upd, e7, e11]), rfl, Below.refl _ _⟩
  · intro op ho f' w' hS hd
    have e0 : f' 0 = .int .i64 n := hd 0 (by omega)
    have e3 : f' 3 = .int .i64 P.pf.bits := hd 3 (by omega)
    have e12 : f' 12 = .int .i64 (min (lenA P.pf.six) (P.pf.bits + 20)) := hd 12 (by omega)
    have HW := Lib.hid hS.out
    clear hd
    replace ho := Option.some.inj ho
    subst ho
    refine ⟨rfl, ?_⟩
    unfold Oper.wp
    go_simp
    -- R5
    refine (outside_any n P.pf.bits (min (lenA P.pf.six) (P.pf.bits + 20)) w').mono ?_
    rintro e w4 ⟨rfl, rfl⟩
    have BX4 := Lib.hid ((HW.out.block _ hbx).trans BX1.out)
    have BR4 := Lib.hid ((HW.out.block _ hbr).trans BR1.out)
    have BS4 := Lib.hid ((HW.out.block _ hbs).trans BS1.out)
    have HB4 := Lib.hid (HB1.out.trans (HW.out.mono HB1.out.size))
    have H4 := Lib.hid (H1.out.below HW.out)
    clear HW hS BX1 BR1 BS1 HB1 H1 hbx hbr hbs x0 x1 x2 x3 x4 x5
    have hbx := lt_of_block BX4.out
    have hbr := lt_of_block BR4.out
    have hbs := lt_of_block BS4.out
    rcases hout : (decide (n < P.pf.bits) || decide (min (lenA P.pf.six) (P.pf.bits + 20) < n)) with _ | _
    · simp only [Bool.or_eq_false_iff, decide_eq_false_iff_not] at hout
      have hn1 : P.pf.bits ≤ n := by omega
      have hn2 : n ≤ lenA P.pf.six := by omega
      have hn3 : n ≤ P.pf.bits + 20 := by omega
      clear hout
      obtain ⟨⟨x0, x1, x2, x3, x4, x5⟩, -⟩ := res6r BX4.out
      have hch := choose_any P AK AL ck cl n best w' H4.out HF.out
      unfold plV at hch
      go_wp2_with fail
      refine hch.mono ?_
      rintro e W5 ⟨xc, b, rfl, hbi, hb1, ⟨S, hS1, hS2, hS3, hS4⟩, hb5⟩
      have HC := Lib.hid hb1
      have HFU : Hid (b = false → FullN P n) := Lib.hid (fun hb => ⟨S, hS1, hS2, hS3, fun hf => by have := hS4 hf hn2; rw [hb] at this; cases this⟩)
      have hbel : Below w'.heap.size w' (W5.alloc (.cells #[.bool xc.six, .int .u64 xc.hi, .int .u64 xc.lo, .int .i64 n] 48 (0, 0))) := hb5.alloc hb5.size _
      have BC := Lib.hid (heap_alloc_new W5 (.cells #[.bool xc.six, .int .u64 xc.hi, .int .u64 xc.lo, .int .i64 n] 48 (0, 0)))
      have BX5 := Lib.hid ((hbel.block _ hbx).trans BX4.out)
      have BR5 := Lib.hid ((hbel.block _ hbr).trans BR4.out)
      have BS5 := Lib.hid ((hbel.block _ hbs).trans BS4.out)
      have HB5 := Lib.hid (HB4.out.trans (hbel.mono HB4.out.size))
      have H5 := Lib.hid (H4.out.below hbel)
      have hw5 : w'.heap.size ≤ W5.heap.size := hb5.size
      clear hch hb1 hS1 hS2 hS3 hS4 hb5 hbel x0 x1 x2 x3 x4 x5 BX4 BR4 BS4 HB4 H4
      go_upto_region 7 with (fail)
      generalize World.alloc W5 _ = W6 at BC BX5 BR5 BS5 HB5 H5 ⊢
      generalize W5.heap.size = nc at BC hw5 ⊢
      obtain ⟨⟨x0, x1, x2, x3, x4, x5⟩, -⟩ := res6r BX5.out
      cases b
      · obtain ⟨⟨r0, r1, r2, r3, r4, r5⟩, m0, m1, m2, m3, m4, m5⟩ := res6r BR5.out
        obtain ⟨⟨s0, s1, s2, s3⟩, f0, f1, f2, f3⟩ := res4 BS5.out
        have hbs' := lt_of_block BS5.out
        go_wp2_with fail
        clear x0 x1 x2 x3 x4 x5 r0 r1 r2 r3 r4 r5 m0 m1 m2 m3 m4 m5 s0 s1 s2 s3 f0 f1 f2 f3
        generalize hW : World.setCell _ _ _ = W9
        obtain ⟨k1, k2, k3⟩ := re64 BR5.out BS5.out (by omega) hW
        have hfin : TakeIs w P key n (.returned (.tuple #[.agg #[.bool false, .int .u64 0, .int .u64 0, .int .i64 0, .slice none 0 0, .slice none 0 0], .agg #[.bool false, .int .u64 0, .int .u64 0, .int .i64 0], .int .i64 12])) W9 := ⟨.inl ⟨12, rfl, .inr ⟨rfl, (by first | exact HFU.out rfl | exact HFU.out trivial)⟩⟩, k3 _ _ HB5.out (by omega) (by omega)⟩
        obtain ⟨⟨y0, y1, y2, y3, y4, y5⟩, -⟩ := res6r k1
        obtain ⟨⟨z0, z1, z2, z3⟩, -⟩ := res4 k2
        refine bodyPost_ret (v := .tuple #[.agg #[.bool false, .int .u64 0, .int .u64 0, .int .i64 0, .slice none 0 0, .slice none 0 0], .agg #[.bool false, .int .u64 0, .int .u64 0, .int .i64 0], .int .i64 12]) (by simp [results, Tryz.results57, go_sem, y0, y1, y2, y3, y4, y5, z0, z1, z2, z3]) rfl hfin
      · have hd : decide (200 ≤ (P.ls.length : Int)) = false := by have := HF.out.n2; simp; omega
        go_upto_region 9 with (fail)
        -- R9
        have hbx6 := lt_of_block BX5.out
        have hbr6 := lt_of_block BR5.out
        have hbs6 := lt_of_block BS5.out
        have hbc6 := lt_of_block BC.out
        clear x0 x1 x2 x3 x4 x5
        refine wp_region_gr 7 (fun h' => ⟨#[.agg #[Value.bool P.pf.six, Value.int IntKind.u64 P.pf.hi, Value.int IntKind.u64 P.pf.lo, Value.int IntKind.i64 P.pf.bits, Value.slice AK P.kept.length ck, Value.slice AL P.ls.length cl], .string { data := key.toArray }, .int .i64 n, .bool best, .pointer (some ⟨w.heap.size, 0, none⟩), undef, undef, undef, .pointer (some ⟨w.heap.size + 1, 0, none⟩), .pointer (some ⟨w.heap.size + 1 + 1, 0, none⟩), .int .i64 0, .int .i64 0, .pointer (some ⟨nc, 0, none⟩), .bool true, .agg #[Value.bool P.pf.six, Value.int IntKind.u64 P.pf.hi, Value.int IntKind.u64 P.pf.lo, Value.int IntKind.i64 P.pf.bits, Value.slice AK P.kept.length ck, Value.slice AL P.ls.length cl], .string { data := key.toArray }, .int .i64 0, .int .i64 0, .bool false, undef, undef, undef, .int .i64 n, f' 1, f' 2, .int .i64 P.pf.bits, f' 4, f' 5, f' 6, f' 7, f' 8, f' 9, f' 10, f' 11, .int .i64 (min (lenA P.pf.six) (P.pf.bits + 20)), .bool false, undef, undef, .tuple #[Value.agg #[Value.bool xc.six, Value.int IntKind.u64 xc.hi, Value.int IntKind.u64 xc.lo, Value.int IntKind.i64 n], Value.bool true], .agg #[Value.bool P.pf.six, Value.int IntKind.u64 P.pf.hi, Value.int IntKind.u64 P.pf.lo, Value.int IntKind.i64 P.pf.bits, Value.slice AK P.kept.length ck, Value.slice AL P.ls.length cl], .int .i64 n, .bool best, .tuple #[Value.agg #[Value.bool xc.six, Value.int IntKind.u64 xc.hi, Value.int IntKind.u64 xc.lo, Value.int IntKind.i64 n], Value.bool true], .agg #[Value.bool xc.six, Value.int IntKind.u64 xc.hi, Value.int IntKind.u64 xc.lo, Value.int IntKind.i64 n], .bool true, .bool true, .bool false, .bool false, .pointer (some ⟨w.heap.size, 5, none⟩), .slice AL P.ls.length cl, .int .i64 P.ls.length, .bool false, .bool false, undef, undef, h' 0, h' 1, h' 2, h' 3, h' 4], []⟩) [VE (.agg #[.bool P.pf.six, .int .u64 P.pf.hi, .int .u64 P.pf.lo, .int .i64 P.pf.bits, .slice AK P.kept.length ck, .slice AL P.ls.length cl]), VE (.string ⟨key.toArray⟩), VE (.agg #[.bool xc.six, .int .u64 xc.hi, .int .u64 xc.lo, .int .i64 n]), VQ ⟨P.pf, P.kept, isortL (leLt cmpK) (P.ls ++ [(⟨key, xc⟩ : Le)])⟩ (P.ls.length + 1) W6.heap.size, VE (.agg #[.bool xc.six, .int .u64 xc.hi, .int .u64 xc.lo, .int .i64 n]), (fun u v => v = undef ∧ GoodR ⟨P.pf, P.kept, isortL (leLt cmpK) (P.ls ++ [(⟨key, xc⟩ : Le)])⟩ (P.ls.length + 1) (w.heap.size + 1) W6.heap.size u), (fun u v => v = undef ∧ u.heap[w.heap.size + 2]? = some (.cells #[.bool xc.six, .int .u64 xc.hi, .int .u64 xc.lo, .int .i64 n] 48 (0, 0)))] (TkI w W6 (w.heap.size + 1) (w.heap.size + 2)) (TkS ⟨P.pf, P.kept, isortL (leLt cmpK) (P.ls ++ [(⟨key, xc⟩ : Le)])⟩ (P.ls.length + 1) (w.heap.size + 1) (w.heap.size + 2) W6.heap.size (.cells #[.bool xc.six, .int .u64 xc.hi, .int .u64 xc.lo, .int .i64 n] 48 (0, 0))) (fun _ => undef) 40 (show Tryz.prog.follows .mixedOrders = true from by kernel_rfl) (by kernel_rfl) ?_ ?_ ?_ ⟨HB5.out.drew, Nat.le_refl _, fun _ _ _ _ => rfl, ⟨_, _, _, _, _, _, BR5.out⟩, ⟨_, _, _, _, BS5.out⟩⟩
        · intro p hp
          simp only [List.mem_cons, List.mem_nil_iff, or_false] at hp
          rcases hp with rfl | rfl | rfl | rfl | rfl | rfl | rfl <;> first | exact fun _ _ _ h _ => h | exact TkS.vq (by omega) (by omega) | exact TkS.good (by omega) (by omega) | exact TkS.six
        · intro i9 op hi9 ho h' u' hG hd
          have hcase : i9 = 0 ∨ i9 = 1 ∨ i9 = 2 ∨ i9 = 3 ∨ i9 = 4 ∨ i9 = 5 ∨ i9 = 6 := by omega
          rcases hcase with rfl | rfl | rfl | rfl | rfl | rfl | rfl <;> (replace ho := Option.some.inj ho; subst ho)
          · obtain ⟨⟨x0', x1', x2', x3', x4', x5'⟩, -⟩ := res6r ((hG.out.oth _ hbx6 (by omega) (by omega)).trans BX5.out)
            refine OpStep.of rfl ?_
            unfold Oper.wp
            go_simp
            exact ⟨_, (by simp [upd]), rfl, hG.out, TkS.refl _ _ _ _ _ _ _⟩
          · refine OpStep.of rfl ?_
            unfold Oper.wp
            go_simp
            exact ⟨_, (by simp [upd]), rfl, hG.out, TkS.refl _ _ _ _ _ _ _⟩
          · obtain ⟨⟨t0', t1', t2', t3'⟩, -⟩ := res4 ((hG.out.oth _ hbc6 (by omega) (by omega)).trans BC.out)
            refine OpStep.of rfl ?_
            unfold Oper.wp
            go_simp
            exact ⟨_, (by simp [upd]), rfl, hG.out, TkS.refl _ _ _ _ _ _ _⟩
          · have e0 : h' 0 = .agg #[.bool P.pf.six, .int .u64 P.pf.hi, .int .u64 P.pf.lo, .int .i64 P.pf.bits, .slice AK P.kept.length ck, .slice AL P.ls.length cl] := hd ⟨0, .data⟩ (by simp) rfl
            have e1 : h' 1 = .string ⟨key.toArray⟩ := hd ⟨1, .data⟩ (by simp) rfl
            have e2 : h' 2 = .agg #[.bool xc.six, .int .u64 xc.hi, .int .u64 xc.lo, .int .i64 n] := hd ⟨2, .data⟩ (by simp) rfl
            have hu6 := hG.out.size
            have hle := leased_any P key xc AK AL ck cl u' (HW0.out.below hG.out.bel) (by have := HF.out.n1; omega) (by have := HF.out.n2; omega)
            rw [hbi] at hle
            unfold plV at hle
            refine OpStep.of rfl ?_
            unfold Oper.wp
            go_simp
            refine hle.mono ?_
            rintro e u2 ⟨AK3, AL3, ck3, cl3, rfl, hp3, hn3, hb3⟩
            exact ⟨_, (by simp [upd, e0, e1, e2]), ⟨AK3, AL3, ck3, cl3, rfl, hp3, fun a ha => Nat.le_trans hu6 (hn3.1 a ha), fun a ha => Nat.le_trans hu6 (hn3.2 a ha)⟩, hG.out.grow hb3 (by omega) (by omega), TkS.grow hb3 (by omega) (by omega)⟩
          · obtain ⟨⟨t0', t1', t2', t3'⟩, -⟩ := res4 ((hG.out.oth _ hbc6 (by omega) (by omega)).trans BC.out)
            refine OpStep.of rfl ?_
            unfold Oper.wp
            go_simp
            exact ⟨_, (by simp [upd]), rfl, hG.out, TkS.refl _ _ _ _ _ _ _⟩
          · obtain ⟨AK3, AL3, ck3, cl3, e3, hp3, hf3⟩ : VQ ⟨P.pf, P.kept, isortL (leLt cmpK) (P.ls ++ [(⟨key, xc⟩ : Le)])⟩ (P.ls.length + 1) W6.heap.size u' (h' 3) := hd ⟨3, .data⟩ (by simp) rfl
            unfold plV at e3
            obtain ⟨a0, a1, a2, a3, a4, a5, hr⟩ := hG.out.r
            have HR := Lib.hid hr
            have HP3 := Lib.hid hp3
            obtain ⟨⟨z0, z1, z2, z3, z4, z5⟩, m0, m1, m2, m3, m4, m5⟩ := res6r hr
            clear hr hp3
            refine OpStep.of rfl ?_
            unfold Oper.wp
            go_simp
            clear z0 z1 z2 z3 z4 z5 m0 m1 m2 m3 m4 m5
            generalize hW : World.setCell _ _ _ = u2
            have hr9 := re6q HR.out hW
            have hu6 := hG.out.size
            have hgd : GoodR ⟨P.pf, P.kept, isortL (leLt cmpK) (P.ls ++ [(⟨key, xc⟩ : Le)])⟩ (P.ls.length + 1) (w.heap.size + 1) W6.heap.size u2 := ⟨AK3, AL3, ck3, cl3, hr9.blk, HP3.out.two (by rw [hr9.size]; exact Nat.le_refl _) (fun b _ h1 _ => hr9.oth b h1) (S := (w.heap.size + 2)) hf3 (by omega) (by omega), hf3⟩
            exact ⟨undef, (by simp [upd, e3]), ⟨rfl, hgd⟩, hG.out.storeR hr9 (by omega) (by omega), TkS.storeR hr9 (by omega) hgd⟩
          · have e4 : h' 4 = .agg #[.bool xc.six, .int .u64 xc.hi, .int .u64 xc.lo, .int .i64 n] := hd ⟨4, .data⟩ (by simp) rfl
            obtain ⟨a0, a1, a2, a3, hr⟩ := hG.out.s
            have HR := Lib.hid hr
            obtain ⟨⟨z0, z1, z2, z3⟩, m0, m1, m2, m3⟩ := res4 hr
            clear hr
            refine OpStep.of rfl ?_
            unfold Oper.wp
            go_simp
            clear z0 z1 z2 z3 m0 m1 m2 m3
            generalize hW : World.setCell _ _ _ = u2
            have hr9 := re4 HR.out hW
            exact ⟨undef, (by simp [upd, e4]), ⟨rfl, hr9.blk⟩, hG.out.storeS hr9 (by omega) (by omega), TkS.storeS hr9 (by omega)⟩
        · intro op ho h' u' hG hd
          obtain ⟨-, AK3, AL3, ck3, cl3, hgb, hp3, hf3⟩ := (hd 5 (by omega) : h' 5 = undef ∧ GoodR ⟨P.pf, P.kept, isortL (leLt cmpK) (P.ls ++ [(⟨key, xc⟩ : Le)])⟩ (P.ls.length + 1) (w.heap.size + 1) W6.heap.size u')
          have hgs := (hd 6 (by omega) : h' 6 = undef ∧ u'.heap[w.heap.size + 2]? = some (.cells #[.bool xc.six, .int .u64 xc.hi, .int .u64 xc.lo, .int .i64 n] 48 (0, 0))).2
          clear hd
          replace ho := Option.some.inj ho
          subst ho
          refine ⟨rfl, ?_⟩
          unfold Oper.wp
          go_simp
          obtain ⟨⟨y0, y1, y2, y3, y4, y5⟩, -⟩ := res6r hgb
          obtain ⟨⟨z0, z1, z2, z3⟩, -⟩ := res4 hgs
          have hch : ChoseN P n xc := ⟨hbi, hn1, hn2, hn3, HC.out rfl⟩
          have hfin : TakeIs w P key n (.returned (.tuple #[.agg #[.bool P.pf.six, .int .u64 P.pf.hi, .int .u64 P.pf.lo, .int .i64 P.pf.bits, .slice AK3 P.kept.length ck3, .slice AL3 (P.ls.length + 1) cl3], .agg #[.bool xc.six, .int .u64 xc.hi, .int .u64 xc.lo, .int .i64 n], .int .i64 0])) u' := ⟨.inr ⟨xc, AK3, AL3, ck3, cl3, by rw [hbi]; rfl, hp3, hch, fun a ha => Nat.le_trans HB5.out.size (hf3.1 a ha), fun a ha => Nat.le_trans HB5.out.size (hf3.2 a ha)⟩, hG.out.bel⟩
          go_wp2_with fail
          refine bodyPost_ret (v := .tuple #[.agg #[.bool P.pf.six, .int .u64 P.pf.hi, .int .u64 P.pf.lo, .int .i64 P.pf.bits, .slice AK3 P.kept.length ck3, .slice AL3 (P.ls.length + 1) cl3], .agg #[.bool xc.six, .int .u64 xc.hi, .int .u64 xc.lo, .int .i64 n], .int .i64 0]) (by simp [results, Tryz.results57, go_sem, y0, y1, y2, y3, y4, y5, z0, z1, z2, z3]) rfl hfin
        -- END R9
    · clear hout
      obtain ⟨⟨r0, r1, r2, r3, r4, r5⟩, m0, m1, m2, m3, m4, m5⟩ := res6r BR4.out
      obtain ⟨⟨s0, s1, s2, s3⟩, f0, f1, f2, f3⟩ := res4 BS4.out
      go_wp2_with fail
      clear r0 r1 r2 r3 r4 r5 m0 m1 m2 m3 m4 m5 s0 s1 s2 s3 f0 f1 f2 f3
      generalize hW : World.setCell _ _ _ = W9
      obtain ⟨k1, k2, k3⟩ := re64 BR4.out BS4.out (by omega) hW
      have hfin : TakeIs w P key n (.returned (.tuple #[.agg #[.bool false, .int .u64 0, .int .u64 0, .int .i64 0, .slice none 0 0, .slice none 0 0], .agg #[.bool false, .int .u64 0, .int .u64 0, .int .i64 0], .int .i64 1])) W9 := ⟨.inl ⟨1, rfl, .inl rfl⟩, k3 _ _ HB4.out (by omega) (by omega)⟩
      obtain ⟨⟨y0, y1, y2, y3, y4, y5⟩, -⟩ := res6r k1
      obtain ⟨⟨z0, z1, z2, z3⟩, -⟩ := res4 k2
      refine bodyPost_ret (v := .tuple #[.agg #[.bool false, .int .u64 0, .int .u64 0, .int .i64 0, .slice none 0 0, .slice none 0 0], .agg #[.bool false, .int .u64 0, .int .u64 0, .int .i64 0], .int .i64 1]) (by simp [results, Tryz.results57, go_sem, y0, y1, y2, y3, y4, y5, z0, z1, z2, z3]) rfl hfin
    -- END R5
  -- END R4
end Go.Proofs.YtajifionclpphaaGreatDoor
