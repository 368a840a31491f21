/- route.Can. -/
import Derived.Test.YtphjgjcbolmdiaaGreatDoorMtL
import Derived.Test.YtphjgjcbolmdiaaGreatDoorMtN
import Derived.Test.YtphjgjcbolmdiaaGreatDoorKey
namespace Go.Proofs.YtphjgjcbolmdiaaGreatDoor
open Go.RowKit Go.Hw

/-- Behind the first packet of a node. -/
def R14 (wr : World) (Hx Hy : Nat → Prop) (X Y Tx Ty B7 : Nat) (at_ : Int) (z : PP × PP) (d : Spot) (KA : Option Addr) (Kcap : Nat) (v8 v9 : Value) (wc : World) : Prop :=
  ∃ B8 q c z1 Hx', v8 = .pointer (some ⟨B8, 0, none⟩) ∧ v9 = .int .i64 c ∧ wc.heap[B8]? = some (spotO q) ∧ wc.heap[B7]? = some (spotO d) ∧ Two wc Hx' Hy X Y Tx Ty at_ z1 z.2 KA Kcap ∧ Chg Hx wr wc ∧
    (∀ j, Hx' j → Plus Hx wr j ∧ j ≠ B7 ∧ j ≠ B8) ∧ wr.heap.size ≤ B8 ∧
    ((outP z.1.n at_ innerS d z.1.next z.1.P = none ∧ c = 12 ∧ z1 = z.1) ∨ ∃ port next' P', outP z.1.n at_ innerS d z.1.next z.1.P = some (port, next', P') ∧ c = 0 ∧ q = outer z.1.n port ∧ z1 = { z.1 with next := next', P := P' })
theorem mk_R14 {wr w1 w2 wc : World} {Hx Hy : Nat → Prop} {X Y Tx Ty B7 B8 : Nat} {at_ c nowx : Int} {z : PP × PP} {d q : Spot} {KA : Option Addr} {Kcap : Nat} {F : Nat → Prop} {A : Option Addr} {cap : Nat} {L : List Ent}
    (hX : PeerX wr Hx X Tx nowx z.1 F A cap L KA Kcap) (hnx : nowx ≤ at_) (hY : ∃ now F A cap L KB Kc, now ≤ at_ ∧ PeerX wr Hy Y Ty now z.2 F A cap L KB Kc) (hdis : ∀ j, Hx j → ¬ Hy j) (hb : Below wr.heap.size wr w1) (hB7 : w1.heap[B7]? = some (spotO d)) (h7 : ¬ Hx B7)
    (hO : OutH F w1 Tx z.1.n at_ innerS d z.1.next z.1.P q c w2) (hB8 : wc.heap[B8]? = some (spotO q)) (h8 : wr.heap.size ≤ B8) (h87 : B8 ≠ B7) (hor : B8 < w1.heap.size ∨ w2.heap.size ≤ B8)
    (ho : ∀ j, j ≠ B8 → j < w2.heap.size → wc.heap[j]? = w2.heap[j]?) (hos : wc.os = w2.os) (htp : wc.tape = w2.tape) (hop : wc.output = w2.output) (hsz : w2.heap.size ≤ wc.heap.size) :
    R14 wr Hx Hy X Y Tx Ty B7 at_ z d KA Kcap (.pointer (some ⟨B8, 0, none⟩)) (.int .i64 c) wc := by
  obtain ⟨nowy, Fy, Ay, capy, Ly, KB, Kc, hny, hY⟩ := hY
  have hX1 := hX.below hb
  have hY1 := hY.below hb
  have hchg := hO.chg
  have l7 := lt_of_block hB7
  have hfx : ∀ k, F k → k < wr.heap.size := fun k hf => hX.lim k (hX.fG k hf).1
  have h27 : w2.heap[B7]? = some (spotO d) := (hchg.block B7 l7 fun hf => h7 (hX.fG _ hf).1).trans hB7
  have hY2 := hY1.other hchg fun k hk hf => hdis k (hX.fG k hf).1 hk
  have hw12 := hchg.size
  have hwr1 := hb.size
  -- from w2 to wc
  have hYc := hY2.keep (w' := wc) (fun k hk => ho k (fun e => by have := hY.lim k hk; omega) (by have := hY.lim k hk; omega)) hsz
  have hcc : Chg Hx wr wc := (Chg.of_below (F := Hx) hb).trans ⟨hos.trans hchg.os, htp.trans hchg.tape, hop.trans hchg.output, by omega, fun k hk hn => by
    by_cases e : k = B8
    · exact absurd (.inr (by omega)) hn
    · exact (ho k e (by omega)).trans (hchg.block k hk fun hf => hn (.inl (hX.fG k hf).1))⟩
  refine ⟨B8, q, c, ?_⟩
  rcases hO with ⟨h1, rfl, rfl, hb2⟩ | ⟨port, next', P', h1, rfl, rfl, hc2, A2, cap2, L2, ht2, hP2⟩
  · have hXc := (hX1.below hb2).keep (w' := wc) (fun k hk => ho k (fun e => by have := hX.lim k hk; omega) (by have := hX.lim k hk; omega)) hsz
    exact ⟨z.1, Hx, rfl, rfl, hB8, (ho B7 (Ne.symm h87) (by omega)).trans h27, ⟨⟨_, _, _, _, _, hnx, hXc⟩, ⟨_, _, _, _, _, _, _, hny, hYc⟩, hdis⟩, hcc, fun j hj => ⟨.inl hj, fun e => h7 (by rw [← e]; exact hj), by have := hX.lim j hj; omega⟩, h8, .inl ⟨h1, rfl, rfl⟩⟩
  · have hX2 := hX1.sent hc2 ht2 hP2
    have hn8 : ∀ k, Plus Hx w1 k ∧ k < w2.heap.size → k ≠ B8 := by
      rintro k ⟨hk | hk, hl⟩
      · have := hX.lim k hk; omega
      · omega
    have hXc := hX2.keep (w' := wc) (fun k hk => ho k (hn8 k hk) hk.2) hsz
    refine ⟨_, _, rfl, rfl, hB8, (ho B7 (Ne.symm h87) (by omega)).trans h27, ⟨⟨_, _, _, _, _, Int.le_refl _, hXc⟩, ⟨_, _, _, _, _, _, _, hny, hYc⟩, fun j hj hy => ?_⟩, hcc, fun j hj => ⟨?_, ?_, hn8 j hj⟩, h8, .inr ⟨port, next', P', h1, rfl, rfl, rfl⟩⟩
    · rcases hj with ⟨hj | hj, _⟩
      · exact hdis j hj hy
      · have := hY.lim j hy; omega
    · rcases hj with ⟨hj | hj, _⟩
      · exact .inl hj
      · exact .inr (by omega)
    · rcases hj with ⟨hj | hj, _⟩
      · exact fun e => h7 (by rw [← e]; exact hj)
      · omega
/-- Two fresh nodes. -/
def R13 (W : World) (a b : NatC) (v12 v13 : Value) (wc : World) : Prop :=
  ∃ X Y Tx Ty, v12 = .pointer (some ⟨X, 0, none⟩) ∧ v13 = .pointer (some ⟨Y, 0, none⟩) ∧ Below W.heap.size W wc ∧
    PeerX wc (fun k => k = X ∨ k = Tx) X Tx 0 ⟨a, a.first, [], [], 0⟩ (fun k => k = Tx) none 0 [] none 0 ∧ PeerX wc (fun k => k = Y ∨ k = Ty) Y Ty 0 ⟨b, b.first, [], [], 0⟩ (fun k => k = Ty) none 0 [] none 0 ∧
    (X ≠ Y ∧ X ≠ Ty ∧ Tx ≠ Y ∧ Tx ≠ Ty) ∧ W.heap.size ≤ X ∧ W.heap.size ≤ Y ∧ W.heap.size ≤ Tx ∧ W.heap.size ≤ Ty
theorem peer_fresh {W : World} {n : NatC} {X T : Nat} (hX : W.heap[X]? = some (.cells #[.pointer (some ⟨T, 0, none⟩), .slice none 0 0, .int .i64 0] 106 (0, 0))) (hT : W.heap[T]? = some (trObj n 0 n.first (.slice none 0 0))) (h : T ≠ X) :
    PeerX W (fun k => k = X ∨ k = T) X T 0 ⟨n, n.first, [], [], 0⟩ (fun k => k = T) none 0 [] none 0 where
  tr := {
    blk := hT
    own := World.ownsRow_nil _ _ _ _
    sent := fun e he => by cases he
    hA := by simp [Value.ownBlock]
    hS := fun e he => by cases he
    sep := List.Pairwise.nil
    fT := rfl
    fA := fun k h => by simp [Value.ownBlock] at h
    fS := fun e he => by cases he }
  core := rfl
  fG := fun k hk => ⟨.inr hk, by rw [hk]; exact h⟩
  obj := hX
  ks := World.ownsRow_nil _ _ _ _
  kb := fun k hk => by simp [Value.ownBlock] at hk
  gX := .inl rfl
  lim := fun k hk => by
    rcases hk with rfl | rfl
    · exact lt_of_block hX
    · exact lt_of_block hT
theorem mk_R13 {W wc : World} {a b : NatC} {X Y Tx Ty : Nat} (hb : Below W.heap.size W wc) (hX : wc.heap[X]? = some (.cells #[.pointer (some ⟨Tx, 0, none⟩), .slice none 0 0, .int .i64 0] 106 (0, 0))) (hTx : wc.heap[Tx]? = some (trObj a 0 a.first (.slice none 0 0)))
    (hY : wc.heap[Y]? = some (.cells #[.pointer (some ⟨Ty, 0, none⟩), .slice none 0 0, .int .i64 0] 106 (0, 0))) (hTy : wc.heap[Ty]? = some (trObj b 0 b.first (.slice none 0 0)))
    (hn : X ≠ Y ∧ X ≠ Ty ∧ Tx ≠ Y ∧ Tx ≠ Ty ∧ Tx ≠ X ∧ Ty ≠ Y) (hx : W.heap.size ≤ X ∧ W.heap.size ≤ Y ∧ W.heap.size ≤ Tx ∧ W.heap.size ≤ Ty) : R13 W a b (.pointer (some ⟨X, 0, none⟩)) (.pointer (some ⟨Y, 0, none⟩)) wc :=
  ⟨X, Y, Tx, Ty, rfl, rfl, hb, peer_fresh hX hTx hn.2.2.2.2.1, peer_fresh hY hTy hn.2.2.2.2.2, ⟨hn.1, hn.2.1, hn.2.2.1, hn.2.2.2.1⟩, hx⟩
theorem four4 (w : World) (o1 o2 o3 o4 : Obj) : ∀ W, (((w.alloc o1).alloc o2).alloc o3).alloc o4 = W → W.heap[w.heap.size]? = some o1 ∧ W.heap[w.heap.size + 1]? = some o2 ∧ W.heap[w.heap.size + 1 + 1]? = some o3 ∧ W.heap[w.heap.size + 1 + 1 + 1]? = some o4 ∧ Below w.heap.size w W := by
  rintro W rfl
  have e1 := fun (v : World) (o : Obj) => (show (v.alloc o).heap.size = v.heap.size + 1 by simp)
  refine ⟨?_, ?_, ?_, ?_, ?_⟩
  · rw [Below.heap_alloc _ _ _ (by simp only [e1]; omega), Below.heap_alloc _ _ _ (by simp only [e1]; omega), Below.heap_alloc _ _ _ (by simp only [e1]; omega), heap_alloc_new]
  · rw [Below.heap_alloc _ _ _ (by simp only [e1]; omega), Below.heap_alloc _ _ _ (by simp only [e1]; omega)]
    have h := heap_alloc_new (w.alloc o1) o2
    rw [e1] at h
    exact h
  · rw [Below.heap_alloc _ _ _ (by simp only [e1]; omega)]
    have h := heap_alloc_new ((w.alloc o1).alloc o2) o3
    simp only [e1] at h
    exact h
  · have h := heap_alloc_new (((w.alloc o1).alloc o2).alloc o3) o4
    simp only [e1] at h
    exact h
  · exact ((((Below.refl _ _).alloc (Nat.le_refl _) _).alloc (by simp) _).alloc (by simp only [e1]; omega) _).alloc (by simp only [e1]; omega) _
/-- A node that knows nothing yet comes to know one spot. -/
theorem PeerX.first {w w' : World} {G : Nat → Prop} {X T g : Nat} {now : Int} {p : PP} {F : Nat → Prop} {A : Option Addr} {cap : Nat} {L : List Ent} {KA : Option Addr} {Kcap : Nat} {s : Spot} (h : PeerX w G X T now p F A cap L KA Kcap)
    (hobj : w'.heap[X]? = some (.cells #[.pointer (some ⟨T, 0, none⟩), .slice (some ⟨g, 0, none⟩) 1 1, .int .i64 p.heard] 106 (0, 0))) (hg : w'.heap[g]? = some (spotO s)) (hlg : w.heap.size ≤ g)
    (ho : ∀ k, k < w.heap.size → k ≠ X → G k → w'.heap[k]? = w.heap[k]?) (hsz : w.heap.size ≤ w'.heap.size) :
    PeerX w' (fun j => G j ∨ j = g) X T now { p with K := [s] } F A cap L (some ⟨g, 0, none⟩) 1 where
  tr := h.tr.keep (fun k hf hl => ho k hl (h.fG k hf).2 (h.fG k hf).1) fun _ h => h
  core := h.core
  fG := fun k hk => ⟨.inl (h.fG k hk).1, (h.fG k hk).2⟩
  obj := hobj
  ks := ⟨by simp [spotsC, spotC], .inr ⟨g, 1, _, rfl, Nat.zero_le _, hg, Nat.le_refl _, by unfold maxLen; omega, rfl, rfl⟩⟩
  kb := fun k hk => by
    injection hk with hk
    simp only at hk
    subst hk
    refine ⟨.inr rfl, fun e => ?_, fun hf => ?_⟩
    · have := h.lim X h.gX; omega
    · have := h.lim _ (h.fG _ hf).1; omega
  gX := .inl h.gX
  lim := fun k hk => by
    rcases hk with hk | rfl
    · have := h.lim k hk; omega
    · exact lt_of_block hg
theorem set_two {wc W : World} {X Y : Nat} {p0 p1 p2 q0 q1 q2 vx vy : Value} {T : TypeId} {o1 o2 : Obj} (hX : wc.heap[X]? = some (.cells #[p0, p1, p2] T (0, 0))) (hY : wc.heap[Y]? = some (.cells #[q0, q1, q2] T (0, 0))) (hn : X ≠ Y)
    (hW : (((wc.setCell ⟨X, 1, none⟩ vx).setCell ⟨Y, 1, none⟩ vy).alloc o1).alloc o2 = W) :
    W.heap[X]? = some (.cells #[p0, vx, p2] T (0, 0)) ∧ W.heap[Y]? = some (.cells #[q0, vy, q2] T (0, 0)) ∧ W.heap[wc.heap.size]? = some o1 ∧ W.heap[wc.heap.size + 1]? = some o2 ∧ (∀ k, k < wc.heap.size → k ≠ X → k ≠ Y → W.heap[k]? = wc.heap[k]?) ∧
      W.os = wc.os ∧ W.tape = wc.tape ∧ W.output = wc.output ∧ wc.heap.size ≤ W.heap.size := by
  obtain ⟨f1, f2, fb⟩ := two _ _ _ _ hW
  have e0 : ((wc.setCell ⟨X, 1, none⟩ vx).setCell ⟨Y, 1, none⟩ vy).heap.size = wc.heap.size := by simp
  rw [e0] at f1 f2 fb
  have lX := lt_of_block hX
  have lY := lt_of_block hY
  refine ⟨(fb.block X lX).trans ?_, (fb.block Y lY).trans ?_, f1, f2, fun k hk h1 h2 => (fb.block k hk).trans ((heap_set_other h2).trans (heap_set_other h1)), fb.os, fb.tape, fb.output, by have := fb.size; rw [e0] at this; exact this⟩
  · rw [heap_set_other hn, heap_set hX]; rfl
  · rw [heap_set ((heap_set_other (Ne.symm hn)).trans hY)]; rfl
/-- What Can has done so far. -/
def CanI (w : World) (B : Nat) (a b : NatC) (X Y Tx Ty C6 : Nat) (i : Nat) (wr : World) : Prop :=
  ∃ Gx Gy KA Kcap, Two wr Gx Gy X Y Tx Ty (i : Nat) (canP a b i).1 (canP a b i).2 KA Kcap ∧ (∀ j, Gx j → B ≤ j) ∧ (∀ j, Gy j → B ≤ j) ∧ B ≤ wr.heap.size ∧ Below w.heap.size w wr ∧ wr.heap[C6]? = some (.cells #[.int .i64 0, .int .i64 0] 55 (0, 0))
theorem mk_Can0 {w wc W : World} {B : Nat} {a b : NatC} {X Y Tx Ty C6 gx gy : Nat} {Hx Hy : Nat → Prop} {nowx nowy : Int} {Fx Fy : Nat → Prop} {Ax Ay : Option Addr} {capx capy : Nat} {Lx Ly : List Ent} {KBx KBy : Option Addr} {Kcx Kcy : Nat} {ax ay : Int} {Px Py : List Ent}
    (hX : PeerX wc Hx X Tx nowx ⟨a, ax, Px, [], 0⟩ Fx Ax capx Lx KBx Kcx) (hY : PeerX wc Hy Y Ty nowy ⟨b, ay, Py, [], 0⟩ Fy Ay capy Ly KBy Kcy) (hd : ∀ j, Hy j → ¬ Hx j) (hnx : nowx ≤ 0) (hny : nowy ≤ 0)
    (ex : (startP a b).1 = ⟨a, ax, Px, [outer b b.first], 0⟩) (ey : (startP a b).2 = ⟨b, ay, Py, [outer a a.first], 0⟩)
    (hoX : W.heap[X]? = some (.cells #[.pointer (some ⟨Tx, 0, none⟩), .slice (some ⟨gx, 0, none⟩) 1 1, .int .i64 0] 106 (0, 0))) (hoY : W.heap[Y]? = some (.cells #[.pointer (some ⟨Ty, 0, none⟩), .slice (some ⟨gy, 0, none⟩) 1 1, .int .i64 0] 106 (0, 0)))
    (hgx : W.heap[gx]? = some (spotO (outer b b.first))) (hgy : W.heap[gy]? = some (spotO (outer a a.first))) (lgx : wc.heap.size ≤ gx) (lgy : wc.heap.size ≤ gy) (hgg : gx ≠ gy)
    (ho : ∀ k, k < wc.heap.size → k ≠ X → k ≠ Y → W.heap[k]? = wc.heap[k]?) (hos : W.os = wc.os) (htp : W.tape = wc.tape) (hop : W.output = wc.output) (hsz : wc.heap.size ≤ W.heap.size)
    (hBx : ∀ j, Hx j → B ≤ j) (hBy : ∀ j, Hy j → B ≤ j) (hBw : Below w.heap.size w wc) (hwB : w.heap.size ≤ B) (hBc : B ≤ wc.heap.size) (hC : wc.heap[C6]? = some (.cells #[.int .i64 0, .int .i64 0] 55 (0, 0))) (hCB : C6 < B) : CanI w B a b X Y Tx Ty C6 0 W := by
  have gX := hX.gX
  have gY := hY.gX
  have hX' := hX.first (s := outer b b.first) hoX hgx lgx (fun k hk hne hG => ho k hk hne fun e => hd k (by rw [e]; exact gY) hG) hsz
  have hY' := hY.first (s := outer a a.first) hoY hgy lgy (fun k hk hne hG => ho k hk (fun e => hd k hG (by rw [e]; exact gX)) hne) hsz
  have bX := hBx X gX
  have bY := hBy Y gY
  have hXc : PeerX W (fun j => Hx j ∨ j = gx) X Tx nowx (canP a b 0).1 Fx Ax capx Lx (some ⟨gx, 0, none⟩) 1 := by rw [canP, ex]; exact hX'
  have hYc : PeerX W (fun j => Hy j ∨ j = gy) Y Ty nowy (canP a b 0).2 Fy Ay capy Ly (some ⟨gy, 0, none⟩) 1 := by rw [canP, ey]; exact hY'
  refine ⟨_, _, _, _, ⟨⟨nowx, _, _, _, _, by simpa using hnx, hXc⟩, ⟨nowy, _, _, _, _, _, _, by simpa using hny, hYc⟩, fun j hj hk => ?_⟩, fun j hj => ?_, fun j hj => ?_, by omega, ⟨hos.trans hBw.os, htp.trans hBw.tape, hop.trans hBw.output, Nat.le_trans hBw.size hsz, fun k hk => (ho k (by have := hBw.size; omega) (by omega) (by omega)).trans (hBw.block k hk)⟩, (ho C6 (by omega) (by omega) (by omega)).trans hC⟩
  · rcases hj with hj | rfl
    · rcases hk with hk | rfl
      · exact hd j hk hj
      · have := hX.lim _ hj; omega
    · rcases hk with hk | rfl
      · have := hY.lim _ hk; omega
      · exact hgg rfl
  · rcases hj with hj | rfl
    · exact hBx j hj
    · omega
  · rcases hj with hj | rfl
    · exact hBy j hj
    · omega
theorem Two.mono {w : World} {Gx Gy : Nat → Prop} {X Y Tx Ty : Nat} {at_ at' : Int} {x y : PP} {KA : Option Addr} {Kcap : Nat} (h : Two w Gx Gy X Y Tx Ty at_ x y KA Kcap) (hle : at_ ≤ at') : Two w Gx Gy X Y Tx Ty at' x y KA Kcap := by
  obtain ⟨⟨n1, F1, A1, c1, L1, h1, h2⟩, ⟨n2, F2, A2, c2, L2, KB, Kc, h3, h4⟩, h5⟩ := h
  exact ⟨⟨n1, F1, A1, c1, L1, by omega, h2⟩, ⟨n2, F2, A2, c2, L2, KB, Kc, by omega, h4⟩, h5⟩
theorem Two.swap {w : World} {Gx Gy : Nat → Prop} {X Y Tx Ty : Nat} {at_ : Int} {x y : PP} {KA : Option Addr} {Kcap : Nat} (h : Two w Gx Gy X Y Tx Ty at_ x y KA Kcap) : ∃ KB Kc, Two w Gy Gx Y X Ty Tx at_ y x KB Kc := by
  obtain ⟨⟨n1, F1, A1, c1, L1, h1, h2⟩, ⟨n2, F2, A2, c2, L2, KB, Kc, h3, h4⟩, h5⟩ := h
  exact ⟨KB, Kc, ⟨n2, F2, A2, c2, L2, h3, h4⟩, ⟨n1, F1, A1, c1, L1, _, _, h1, h2⟩, fun j hj hk => h5 j hk hj⟩
theorem pow_le : ∀ r : Nat, r ≤ 4 → 3 ^ r ≤ 81
  | 0, _ => by decide
  | 1, _ => by decide
  | 2, _ => by decide
  | 3, _ => by decide
  | 4, _ => by decide
  | r + 5, h => by omega
theorem startP_eq {a b : NatC} (ha : natCode a = 0) (hb : natCode b = 0) : (startP a b).1 = ⟨a, afterP a a.first, [⟨innerS, a.first, seenS serverS a.maps, 0, none, 0, [serverS]⟩], [outer b b.first], 0⟩ ∧ (startP a b).2 = ⟨b, afterP b b.first, [⟨innerS, b.first, seenS serverS b.maps, 0, none, 0, [serverS]⟩], [outer a a.first], 0⟩ := by
  unfold startP
  rw [freshP_eq (nat_fine ha).1, freshP_eq (nat_fine hb).1]
  exact ⟨rfl, rfl⟩
theorem natp0 (a b : NatC) : ∀ w : World, (Instr.index 103 (.agg #[.int .i64 a.maps, .int .i64 a.lets, .int .i64 a.timeout, .int .i64 a.first, .int .i64 a.ports, .bool a.six, .int .u64 a.hi, .int .u64 a.lo, .int .i64 b.maps, .int .i64 b.lets, .int .i64 b.timeout, .int .i64 b.first, .int .i64 b.ports, .bool b.six, .int .u64 b.hi, .int .u64 b.lo]) (.int .i64 0)).run Tryz.prog w = .ok (.agg #[.int .i64 a.maps, .int .i64 a.lets, .int .i64 a.timeout, .int .i64 a.first, .int .i64 a.ports, .bool a.six, .int .u64 a.hi, .int .u64 a.lo]) w := fun _ => by kernel_rfl
theorem natp1 (a b : NatC) : ∀ w : World, (Instr.index 103 (.agg #[.int .i64 a.maps, .int .i64 a.lets, .int .i64 a.timeout, .int .i64 a.first, .int .i64 a.ports, .bool a.six, .int .u64 a.hi, .int .u64 a.lo, .int .i64 b.maps, .int .i64 b.lets, .int .i64 b.timeout, .int .i64 b.first, .int .i64 b.ports, .bool b.six, .int .u64 b.hi, .int .u64 b.lo]) (.int .i64 1)).run Tryz.prog w = .ok (.agg #[.int .i64 b.maps, .int .i64 b.lets, .int .i64 b.timeout, .int .i64 b.first, .int .i64 b.ports, .bool b.six, .int .u64 b.hi, .int .u64 b.lo]) w := fun _ => by kernel_rfl

set_option maxRecDepth 100000 in
set_option maxHeartbeats 4000000 in
theorem can_any (a b : NatC) (R : Nat) (hR : R ≤ 5) (w : World) (ha : natCode a = 0) (hb : natCode b = 0) (ha0 : 0 ≤ a.hi) (hb0 : 0 ≤ b.hi) (h1 : sameO a b = false) (h2 : isServ a = false) (h3 : isServ b = false) :
    Calls Tryz.prog 17 #[.agg #[.int .i64 a.maps, .int .i64 a.lets, .int .i64 a.timeout, .int .i64 a.first, .int .i64 a.ports, .bool a.six, .int .u64 a.hi, .int .u64 a.lo], .agg #[.int .i64 b.maps, .int .i64 b.lets, .int .i64 b.timeout, .int .i64 b.first, .int .i64 b.ports, .bool b.six, .int .u64 b.hi, .int .u64 b.lo], .int .i64 (R : Nat)] w
      fun e w' => e = .returned (.tuple #[.agg #[.int .i64 (canP a b R).1.heard, .int .i64 (canP a b R).2.heard], .int .i64 0]) ∧ Below w.heap.size w w' := by
  have p0 := natp0 a b
  have p1 := natp1 a b
  have HA := Lib.hid ha
  have HBc := Lib.hid hb
  have HH := Lib.hid (And.intro h1 (And.intro h2 h3))
  have q1 := fun w => run_eq_addr 9998 a.six b.six a.hi b.hi a.lo b.lo w
  have q2 := fun w => run_eq_addr 9998 a.six false a.hi 0 a.lo 16843009 w
  have q3 := fun w => run_eq_addr 9998 b.six false b.hi 0 b.lo 16843009 w
  have g2 := guard_addr
  rw [show (a.six == b.six && (a.hi == b.hi && a.lo == b.lo)) = false from h1] at q1
  rw [show (a.six == false && (a.hi == 0 && a.lo == 16843009)) = false from h2] at q2
  rw [show (b.six == false && (b.hi == 0 && b.lo == 16843009)) = false from h3] at q3
  clear ha hb h1 h2 h3
  go_enter Tryz.func17, Tryz.ntmps17
  go_wp2_with fail
  generalize hW : World.alloc _ _ = W1
  have hb1 : Below w.heap.size w W1 := by rw [← hW]; exact (three _ _ _ _).2.2.2
  have ba : W1.heap[w.heap.size]? = some (.cells #[.int .i64 a.maps, .int .i64 a.lets, .int .i64 a.timeout, .int .i64 a.first, .int .i64 a.ports, .bool a.six, .int .u64 a.hi, .int .u64 a.lo] 30 (0, 0)) := by rw [← hW]; exact (three _ _ _ _).1
  have bb : W1.heap[w.heap.size + 1]? = some (.cells #[.int .i64 b.maps, .int .i64 b.lets, .int .i64 b.timeout, .int .i64 b.first, .int .i64 b.ports, .bool b.six, .int .u64 b.hi, .int .u64 b.lo] 30 (0, 0)) := by rw [← hW]; exact (three _ _ _ _).2.1
  have bc : W1.heap[w.heap.size + 1 + 1]? = some (.cells #[.int .i64 0, .int .i64 0] 55 (0, 0)) := by rw [← hW]; exact (three _ _ _ _).2.2.1
  have HB1 := Lib.hid hb1
  have BA := Lib.hid ba
  have BB := Lib.hid bb
  have BC := Lib.hid bc
  clear hW hb1 ba bb bc
  refine wp_loop_rounds 3 ?_
  rw [rounds_succ]
  go_wp2_with fail
  refine (natFault_any a _ ha0).mono ?_
  rintro e w2 ⟨rfl, hz⟩
  rw [HA.out]
  have HB2 := Lib.hid (below_box (Below.refl _ W1) (Nat.le_refl _) hz)
  clear hz
  go_wp2_with fail
  rw [rounds_succ]
  go_wp2_with fail
  refine (natFault_any b _ hb0).mono ?_
  rintro e w3 ⟨rfl, hz⟩
  rw [HBc.out]
  have HB3 := Lib.hid (below_box HB2.out HB2.out.size hz)
  clear hz HB2
  go_wp2_with fail
  rw [rounds_succ]
  have BA3 := Lib.hid ((HB3.out.block _ (lt_of_block BA.out)).trans BA.out)
  have BB3 := Lib.hid ((HB3.out.block _ (lt_of_block BB.out)).trans BB.out)
  have BC3 := Lib.hid ((HB3.out.block _ (lt_of_block BC.out)).trans BC.out)
  obtain ⟨⟨a0, a1, a2, a3, a4, a5, a6, a7⟩, -⟩ := res8 BA3.out
  obtain ⟨⟨b0, b1, b2, b3, b4, b5, b6, b7⟩, -⟩ := res8 BB3.out
  have lA := lt_of_block BA3.out
  have lB := lt_of_block BB3.out
  have lC := lt_of_block BC3.out
  have HB := Lib.hid (HB1.out.trans (HB3.out.mono HB1.out.size))
  clear HB1 HB3 BA BB BC
  go_wp2_with fail
  refine (outside_any _ _ _ _).mono ?_
  rintro e w4 ⟨rfl, rfl⟩
  have e1 : (decide ((R : Int) < 0) || decide ((50 : Int) < (R : Int))) = false := by simp; omega
  rw [e1]
  generalize hW : World.alloc _ _ = W4
  have hb4 : Below w3.heap.size w3 W4 := by rw [← hW]; exact (Below.refl _ _).alloc (Nat.le_refl _) _
  have hs4 : W4.heap[w3.heap.size]? = some (spotO serverS) := by rw [← hW]; exact heap_alloc_new w3 _
  have BA4 := Lib.hid ((hb4.block _ lA).trans BA3.out)
  have BB4 := Lib.hid ((hb4.block _ lB).trans BB3.out)
  have BC4 := Lib.hid ((hb4.block _ lC).trans BC3.out)
  have HB4 := Lib.hid (HB.out.trans (hb4.mono HB.out.size))
  have HS4 := Lib.hid hs4
  clear hW hb4 hs4 a0 a1 a2 a3 a4 a5 a6 a7 b0 b1 b2 b3 b4 b5 b6 b7 lA lB lC HB BA3 BB3 BC3 q1 q2 q3 g2 p0 p1
  obtain ⟨⟨a0, a1, a2, a3, a4, a5, a6, a7⟩, -⟩ := res8 BA4.out
  obtain ⟨⟨b0, b1, b2, b3, b4, b5, b6, b7⟩, -⟩ := res8 BB4.out
  have lA := lt_of_block BA4.out
  have lB := lt_of_block BB4.out
  have lC := lt_of_block BC4.out
  have lS := lt_of_block HS4.out
  generalize w3.heap.size = B11 at *
  go_upto_region 13 with (fail)
  go_cut [12, 13] from 14 (fun v12 v13 wc => R13 W4 a b v12 v13 wc)
  case first =>
    go_region_held3 (fun w' => w'.cell? ⟨w.heap.size, 0, none⟩ = some (.int .i64 a.maps) ∧ w'.cell? ⟨w.heap.size, 1, none⟩ = some (.int .i64 a.lets) ∧ w'.cell? ⟨w.heap.size, 2, none⟩ = some (.int .i64 a.timeout) ∧ w'.cell? ⟨w.heap.size, 3, none⟩ = some (.int .i64 a.first) ∧ w'.cell? ⟨w.heap.size, 4, none⟩ = some (.int .i64 a.ports) ∧ w'.cell? ⟨w.heap.size, 5, none⟩ = some (.bool a.six) ∧ w'.cell? ⟨w.heap.size, 6, none⟩ = some (.int .u64 a.hi) ∧ w'.cell? ⟨w.heap.size, 7, none⟩ = some (.int .u64 a.lo) ∧ w'.cell? ⟨w.heap.size + 1, 0, none⟩ = some (.int .i64 b.maps) ∧ w'.cell? ⟨w.heap.size + 1, 1, none⟩ = some (.int .i64 b.lets) ∧ w'.cell? ⟨w.heap.size + 1, 2, none⟩ = some (.int .i64 b.timeout) ∧ w'.cell? ⟨w.heap.size + 1, 3, none⟩ = some (.int .i64 b.first) ∧ w'.cell? ⟨w.heap.size + 1, 4, none⟩ = some (.int .i64 b.ports) ∧ w'.cell? ⟨w.heap.size + 1, 5, none⟩ = some (.bool b.six) ∧ w'.cell? ⟨w.heap.size + 1, 6, none⟩ = some (.int .u64 b.hi) ∧ w'.cell? ⟨w.heap.size + 1, 7, none⟩ = some (.int .u64 b.lo))
      ((repeat' apply And.intro) <;> (repeat (first | with_reducible assumption | rw [cell_drew] | rw [World.cell?_alloc_lt _ _ _ (by (try simp); omega)])))
      (fail)
    all_goals (go_wp2_with fail; go_meet)
    all_goals generalize hW : World.alloc _ _ = W9
    all_goals obtain ⟨f0, f1, f2, f3, fb⟩ := four4 _ _ _ _ _ _ hW
    all_goals clear hW a0 a1 a2 a3 a4 a5 a6 a7 b0 b1 b2 b3 b4 b5 b6 b7
    all_goals first
      | exact mk_R13 (wc := W9.drew) fb.drew f1 f0 f3 f2 (by omega) (by omega)
      | exact mk_R13 (wc := W9.drew) fb.drew f2 f0 f3 f1 (by omega) (by omega)
      | exact mk_R13 (wc := W9.drew) fb.drew f3 f0 f2 f1 (by omega) (by omega)
      | exact mk_R13 (wc := W9.drew) fb.drew f2 f1 f3 f0 (by omega) (by omega)
      | exact mk_R13 (wc := W9.drew) fb.drew f3 f1 f2 f0 (by omega) (by omega)
      | exact mk_R13 (wc := W9.drew) fb.drew f3 f2 f1 f0 (by omega) (by omega)
  case rest =>
    obtain ⟨X, Y, Tx, Ty, rfl, rfl, hbc, hX, hY, hnn, hge⟩ := hcut
    have BC5 := Lib.hid ((hbc.block _ lC).trans BC4.out)
    have HS5 := Lib.hid ((hbc.block _ lS).trans HS4.out)
    have HB5 := Lib.hid (HB4.out.trans (hbc.mono HB4.out.size))
    have x0 := cell_of hX.obj 0
    have y0 := cell_of hY.obj 0
    simp only [List.getElem?_toArray, List.getElem?_cons_zero] at x0 y0
    obtain ⟨⟨s0, s1, s2, s3⟩, -⟩ := res4 HS5.out
    have lX := lt_of_block hX.obj
    have lY := lt_of_block hY.obj
    have lS' := lt_of_block HS5.out
    have lC' := lt_of_block BC5.out
    have HX := Lib.hid hX
    have HY := Lib.hid hY
    clear a0 a1 a2 a3 a4 a5 a6 a7 b0 b1 b2 b3 b4 b5 b6 b7 hbc hX hY BC4 HS4 HB4 BA4 BB4
    obtain ⟨wb, rfl⟩ : ∃ wb, wb = wc := ⟨_, rfl⟩
    unfold serverS at s0 s1 s2 s3
    dsimp only at s0 s1 s2 s3
    go_upto_region 14 with (fail)
    have hnB : ¬ (fun k => k = X ∨ k = Tx) B11 := by
      show ¬ (B11 = X ∨ B11 = Tx)
      omega
    have hfx : ∀ j, j = Tx → j ≠ X ∧ j < wb.heap.size ∧ j ≠ B11 := fun j hj => by
      have h1 := (HX.out.fG j hj).2
      have h2 := HX.out.lim j (HX.out.fG j hj).1
      exact ⟨h1, h2, by omega⟩
    have hout := fun W (hbW : Below wb.heap.size wb W) => out_gen Tx a 0 a.first (fun k => k = Tx) none 0 [] [] 1 0 innerS serverS W (HX.out.below hbW).tr rfl ⟨(nat_fine HA.out).1, first_in (nat_fine HA.out).1, by simp, by simp, by simp, by simp⟩ (by omega) (by omega) (by omega) (by omega) (fun j hj => by have := (hfx j hj).2.1; have := hbW.size; omega) (by decide) (by decide) rfl rfl
    unfold innerS serverS at hout
    dsimp only at hout
    have HFX := Lib.hid hfx
    have HNB := Lib.hid hnB
    clear hfx hnB
    go_cut [14, 15] from 16 (fun v14 v15 wc => R14 wb (fun k => k = X ∨ k = Tx) (fun k => k = Y ∨ k = Ty) X Y Tx Ty B11 0 (⟨a, a.first, [], [], 0⟩, ⟨b, b.first, [], [], 0⟩) serverS none 0 v14 v15 wc)
    case first =>
      go_region_held3 (fun w' => w'.cell? ⟨X, 0, none⟩ = some (.pointer (some ⟨Tx, 0, none⟩)) ∧ w'.cell? ⟨B11, 0, none⟩ = some (.bool false) ∧ w'.cell? ⟨B11, 1, none⟩ = some (.int .u64 0) ∧ w'.cell? ⟨B11, 2, none⟩ = some (.int .u64 16843009) ∧ w'.cell? ⟨B11, 3, none⟩ = some (.int .i64 3478))
        ((repeat' apply And.intro) <;> (first | (go_simp; done) | with_reducible assumption))
        (first
          | (go_at_call 44; refine (inner_any _).mono ?_; rintro e w1 ⟨rfl, hb1⟩; have y0 : w1.cell? ⟨X, 0, none⟩ = some (.pointer (some ⟨Tx, 0, none⟩)) := (hb1.cell (p := ⟨X, 0, none⟩) (by (try simp); omega)).trans (by go_simp); have y1 : w1.cell? ⟨B11, 0, none⟩ = some (.bool false) := (hb1.cell (p := ⟨B11, 0, none⟩) (by (try simp); omega)).trans (by go_simp); have y2 : w1.cell? ⟨B11, 1, none⟩ = some (.int .u64 0) := (hb1.cell (p := ⟨B11, 1, none⟩) (by (try simp); omega)).trans (by go_simp); have y3 : w1.cell? ⟨B11, 2, none⟩ = some (.int .u64 16843009) := (hb1.cell (p := ⟨B11, 2, none⟩) (by (try simp); omega)).trans (by go_simp); have y4 : w1.cell? ⟨B11, 3, none⟩ = some (.int .i64 3478) := (hb1.cell (p := ⟨B11, 3, none⟩) (by (try simp); omega)).trans (by go_simp); have lb1 : wb.heap.size ≤ w1.heap.size := (by have := hb1.size; (try simp at this); omega); have lX1 : X < w1.heap.size := (by omega); have lS1 : B11 < w1.heap.size := (by omega); (try (have HZ7 : Hid (w1.heap[wb.heap.size]? = some (.cells #[.bool false, .int .u64 0, .int .u64 0, .int .i64 0] 42 (0, 0))) := Lib.hid ((hb1.block _ (by simp)).trans (heap_alloc_new _ _)))))
          | (go_at_call 13; refine Calls.mono (hout _ (by first | exact drewB hb1 | exact (drewB hb1).alloc (drewB hb1).size _ | exact below_box (Below.refl _ _).drew (Nat.le_refl _) hb1)) ?_; rintro e w2 hO0; obtain ⟨q, co, rfl, hO⟩ := out_h hO0; have p0 : w2.cell? ⟨X, 0, none⟩ = some (.pointer (some ⟨Tx, 0, none⟩)) := (hO.chg.cell (by (try simp); omega) (fun hf => (HFX.out _ hf).1 rfl) 0).trans (by go_simp); have p1 : w2.cell? ⟨B11, 0, none⟩ = some (.bool false) := (hO.chg.cell (by (try simp); omega) (fun hf => (HFX.out _ hf).2.2 rfl) 0).trans (by go_simp); have p2 : w2.cell? ⟨B11, 1, none⟩ = some (.int .u64 0) := (hO.chg.cell (by (try simp); omega) (fun hf => (HFX.out _ hf).2.2 rfl) 1).trans (by go_simp); have p3 : w2.cell? ⟨B11, 2, none⟩ = some (.int .u64 16843009) := (hO.chg.cell (by (try simp); omega) (fun hf => (HFX.out _ hf).2.2 rfl) 2).trans (by go_simp); have p4 : w2.cell? ⟨B11, 3, none⟩ = some (.int .i64 3478) := (hO.chg.cell (by (try simp); omega) (fun hf => (HFX.out _ hf).2.2 rfl) 3).trans (by go_simp); have lb2 : w1.heap.size ≤ w2.heap.size := (by have := hO.chg.size; (try simp at this); omega); have lX2 : X < w2.heap.size := (by omega); have lS2 : B11 < w2.heap.size := (by omega); (try (have HZ8 : Hid (w2.heap[w1.heap.size]? = some (.cells #[.bool false, .int .u64 0, .int .u64 0, .int .i64 0] 42 (0, 0))) := Lib.hid ((hO.chg.block w1.heap.size (by simp) (fun hf => by have := (HFX.out _ hf).2.1; omega)).trans (heap_alloc_new w1 _)); obtain ⟨⟨z80, z81, z82, z83⟩, z84, z85, z86, z87⟩ := res4 HZ8.out)); (try (have HZ9 : Hid (w2.heap[wb.heap.size]? = some (.cells #[.bool false, .int .u64 0, .int .u64 0, .int .i64 0] 42 (0, 0))) := Lib.hid ((hO.chg.block wb.heap.size (by have := lt_of_block HZ7.out; (try simp); omega) (fun hf => by have := (HFX.out _ hf).2.1; omega)).trans HZ7.out); obtain ⟨⟨z90, z91, z92, z93⟩, z94, z95, z96, z97⟩ := res4 HZ9.out))))
      all_goals (go_wp2_with fail; go_meet)
      all_goals clear hout
      all_goals have HYW : ∃ now F A cap L KB Kc, now ≤ (0 : Int) ∧ PeerX wb (fun k => k = Y ∨ k = Ty) Y Ty now ⟨b, b.first, [], [], 0⟩ F A cap L KB Kc := ⟨_, _, _, _, _, _, _, Int.le_refl _, HY.out⟩
      all_goals have HDJ : ∀ j, (fun k => k = X ∨ k = Tx) j → ¬ (fun k => k = Y ∨ k = Ty) j := (fun j hj hk => by (rcases hj with e1 | e1 <;> rcases hk with e2 | e2 <;> omega))
      all_goals first
        | (have hbc := drewB hb1
           have h7c := (hb1.block B11 lS').trans HS5.out
           exact mk_R14 HX.out (Int.le_refl _) HYW HDJ hbc h7c HNB.out hO (heap_alloc_new w2 _) (by omega) (by omega) (.inr (Nat.le_refl _)) (fun j _ hj => heap_alloc_old w2 _ hj) rfl rfl rfl (by simp))
        | (generalize hW : World.setCell _ _ _ = W9
           have hbc := (drewB hb1).alloc (by omega) (.cells #[.bool false, .int .u64 0, .int .u64 0, .int .i64 0] 42)
           have h7c := (heap_alloc_old w1 (.cells #[.bool false, .int .u64 0, .int .u64 0, .int .i64 0] 42) (lt_of_block ((hb1.block B11 lS').trans HS5.out))).trans ((hb1.block B11 lS').trans HS5.out)
           have hr := re4 HZ8.out hW
           exact mk_R14 HX.out (Int.le_refl _) HYW HDJ hbc h7c HNB.out hO hr.blk (by omega) (by omega) (.inl (by simp)) (fun j hj _ => hr.oth j hj) hr.os hr.tape hr.output (Nat.le_of_eq hr.size.symm))
        | (generalize hW : World.setCell _ _ _ = W9
           have hbc : Below wb.heap.size wb w1 := below_box (Below.refl _ _).drew (Nat.le_refl _) hb1
           have h7c := (hbc.block B11 lS').trans HS5.out
           have hr := re4 HZ9.out hW
           exact mk_R14 HX.out (Int.le_refl _) HYW HDJ hbc h7c HNB.out hO hr.blk (by omega) (by omega) (.inl (lt_of_block HZ7.out)) (fun j hj _ => hr.oth j hj) hr.os hr.tape hr.output (Nat.le_of_eq hr.size.symm))
    case rest =>
      obtain ⟨B14, q, co, z1, Hx', rfl, rfl, hq14, hs', ⟨hX', ⟨nowy, Fy, Ay, capy, Ly, KBy, Kcy, hny, hY'⟩, hdis'⟩, hch', hsub', h814, hcase⟩ := hcut
      have hq : q = outer a a.first ∧ z1 = ⟨a, afterP a a.first, [⟨innerS, a.first, seenS serverS a.maps, 0, none, 0, [serverS]⟩], [], 0⟩ := by
        rcases hcase with ⟨h, _⟩ | ⟨port, next', P', h, _, rfl, rfl⟩
        · rw [fresh_eq (nat_fine HA.out).1] at h
          cases h
        · rw [fresh_eq (nat_fine HA.out).1] at h
          simp only [Option.some.injEq, Prod.mk.injEq] at h
          obtain ⟨rfl, rfl, rfl⟩ := h
          exact ⟨rfl, rfl⟩
      obtain ⟨rfl, rfl⟩ := hq
      clear hcase
      have HB6 := Lib.hid (show Below W4.heap.size wb wc from ⟨hch'.os, hch'.tape, hch'.output, hch'.size, fun j hj => hch'.block j (by omega) (by show ¬ (j = X ∨ j = Tx); omega)⟩)
      have HG6 := Lib.hid (show ∀ j, Hx' j → W4.heap.size ≤ j ∧ j ≠ B14 from fun j hj => by
        refine ⟨?_, (hsub' j hj).2.2⟩
        rcases (hsub' j hj).1 with e | e
        · rcases e with e | e <;> omega
        · have := lt_of_block HS5.out; omega)
      have HQ14 := Lib.hid hq14
      have HS6 := Lib.hid hs'
      have y0 := cell_of hY'.obj 0
      simp only [List.getElem?_toArray, List.getElem?_cons_zero] at y0
      obtain ⟨⟨s0, s1, s2, s3⟩, -⟩ := res4 hs'
      unfold serverS at s0 s1 s2 s3
      dsimp only at s0 s1 s2 s3
      have lY6 := lt_of_block hY'.obj
      have lS6 := lt_of_block hs'
      have HXE := Lib.hid (show ∃ now F A cap L KB Kc, now ≤ (0 : Int) ∧ PeerX wc Hx' X Tx now _ F A cap L KB Kc from by
        obtain ⟨n1, F1, A1, c1, L1, h1, h2⟩ := hX'
        exact ⟨n1, F1, A1, c1, L1, _, _, h1, h2⟩)
      have HXN := Lib.hid hX'
      have HYE := Lib.hid hY'
      have HDI := Lib.hid (show ∀ j, (fun k => k = Y ∨ k = Ty) j → ¬ Hx' j from fun j hj hk => hdis' j hk hj)
      have hnB : ¬ (fun k => k = Y ∨ k = Ty) B11 := by
        show ¬ (B11 = Y ∨ B11 = Ty)
        omega
      have hfx : ∀ j, Fy j → j ≠ Y ∧ j < wc.heap.size ∧ j ≠ B11 := fun j hj => by
        have h1 := (hY'.fG j hj).2
        have h2 := hY'.lim j (hY'.fG j hj).1
        exact ⟨h1, h2, fun e => hnB (by rw [← e]; exact (hY'.fG j hj).1)⟩
      have hlt4 : (X < wb.heap.size ∧ Y < wb.heap.size) ∧ Tx < wb.heap.size ∧ Ty < wb.heap.size := ⟨⟨HX.out.lim X (.inl rfl), HY.out.lim Y (.inl rfl)⟩, HX.out.lim Tx (.inr rfl), HY.out.lim Ty (.inr rfl)⟩
      clear HX HY HFX HNB x0 hq14 hs' hX' hdis' hch' hsub' lS' lX lY HS5 hout
      have HBO := HB5
      clear HB5
      have hw6 := HB6.out.size
      obtain ⟨wa, hwa⟩ : ∃ wa, wa = wb := ⟨_, rfl⟩
      clear hwa
      obtain ⟨wd, rfl⟩ : ∃ wd, wd = wc := ⟨_, rfl⟩
      go_upto_region 15 with (fail)
      have hout := fun W (hbW : Below wd.heap.size wd W) => out_gen Ty b nowy b.first Fy Ay capy Ly [] 1 0 innerS serverS W (hY'.below hbW).tr hY'.core ⟨(nat_fine HBc.out).1, first_in (nat_fine HBc.out).1, by simp, by simp, by simp, by simp⟩ (by omega) (by omega) hny (by omega) (fun j hj => by have := (hfx j hj).2.1; have := hbW.size; omega) (by decide) (by decide) rfl rfl
      unfold innerS serverS at hout
      dsimp only at hout
      clear hY'
      have HFX := Lib.hid hfx
      have HNB := Lib.hid hnB
      clear hfx hnB
      go_cut [16, 17] from 18 (fun v16 v17 wc => R14 wd (fun k => k = Y ∨ k = Ty) Hx' Y X Ty Tx B11 0 (⟨b, b.first, [], [], 0⟩, ⟨a, afterP a a.first, [⟨innerS, a.first, seenS serverS a.maps, 0, none, 0, [serverS]⟩], [], 0⟩) serverS KBy Kcy v16 v17 wc)
      case first =>
        go_region_held3 (fun w' => w'.cell? ⟨Y, 0, none⟩ = some (.pointer (some ⟨Ty, 0, none⟩)) ∧ w'.cell? ⟨B11, 0, none⟩ = some (.bool false) ∧ w'.cell? ⟨B11, 1, none⟩ = some (.int .u64 0) ∧ w'.cell? ⟨B11, 2, none⟩ = some (.int .u64 16843009) ∧ w'.cell? ⟨B11, 3, none⟩ = some (.int .i64 3478))
          ((repeat' apply And.intro) <;> (first | (go_simp; done) | with_reducible assumption))
          (first
            | (go_at_call 44; refine (inner_any _).mono ?_; rintro e w1 ⟨rfl, hb1⟩; have y0 : w1.cell? ⟨Y, 0, none⟩ = some (.pointer (some ⟨Ty, 0, none⟩)) := (hb1.cell (p := ⟨Y, 0, none⟩) (by (try simp); omega)).trans (by go_simp); have y1 : w1.cell? ⟨B11, 0, none⟩ = some (.bool false) := (hb1.cell (p := ⟨B11, 0, none⟩) (by (try simp); omega)).trans (by go_simp); have y2 : w1.cell? ⟨B11, 1, none⟩ = some (.int .u64 0) := (hb1.cell (p := ⟨B11, 1, none⟩) (by (try simp); omega)).trans (by go_simp); have y3 : w1.cell? ⟨B11, 2, none⟩ = some (.int .u64 16843009) := (hb1.cell (p := ⟨B11, 2, none⟩) (by (try simp); omega)).trans (by go_simp); have y4 : w1.cell? ⟨B11, 3, none⟩ = some (.int .i64 3478) := (hb1.cell (p := ⟨B11, 3, none⟩) (by (try simp); omega)).trans (by go_simp); have lb1 : wd.heap.size ≤ w1.heap.size := (by have := hb1.size; (try simp at this); omega); have lX1 : Y < w1.heap.size := (by omega); have lS1 : B11 < w1.heap.size := (by omega); (try (have HZ7 : Hid (w1.heap[wd.heap.size]? = some (.cells #[.bool false, .int .u64 0, .int .u64 0, .int .i64 0] 42 (0, 0))) := Lib.hid ((hb1.block _ (by simp)).trans (heap_alloc_new _ _)))))
            | (go_at_call 13; refine Calls.mono (hout _ (by first | exact drewB hb1 | exact (drewB hb1).alloc (drewB hb1).size _ | exact below_box (Below.refl _ _).drew (Nat.le_refl _) hb1)) ?_; rintro e w2 hO0; obtain ⟨q, co, rfl, hO⟩ := out_h hO0; have p0 : w2.cell? ⟨Y, 0, none⟩ = some (.pointer (some ⟨Ty, 0, none⟩)) := (hO.chg.cell (by (try simp); omega) (fun hf => (HFX.out _ hf).1 rfl) 0).trans (by go_simp); have p1 : w2.cell? ⟨B11, 0, none⟩ = some (.bool false) := (hO.chg.cell (by (try simp); omega) (fun hf => (HFX.out _ hf).2.2 rfl) 0).trans (by go_simp); have p2 : w2.cell? ⟨B11, 1, none⟩ = some (.int .u64 0) := (hO.chg.cell (by (try simp); omega) (fun hf => (HFX.out _ hf).2.2 rfl) 1).trans (by go_simp); have p3 : w2.cell? ⟨B11, 2, none⟩ = some (.int .u64 16843009) := (hO.chg.cell (by (try simp); omega) (fun hf => (HFX.out _ hf).2.2 rfl) 2).trans (by go_simp); have p4 : w2.cell? ⟨B11, 3, none⟩ = some (.int .i64 3478) := (hO.chg.cell (by (try simp); omega) (fun hf => (HFX.out _ hf).2.2 rfl) 3).trans (by go_simp); have lb2 : w1.heap.size ≤ w2.heap.size := (by have := hO.chg.size; (try simp at this); omega); have lX2 : Y < w2.heap.size := (by omega); have lS2 : B11 < w2.heap.size := (by omega); (try (have HZ8 : Hid (w2.heap[w1.heap.size]? = some (.cells #[.bool false, .int .u64 0, .int .u64 0, .int .i64 0] 42 (0, 0))) := Lib.hid ((hO.chg.block w1.heap.size (by simp) (fun hf => by have := (HFX.out _ hf).2.1; omega)).trans (heap_alloc_new w1 _)); obtain ⟨⟨z80, z81, z82, z83⟩, z84, z85, z86, z87⟩ := res4 HZ8.out)); (try (have HZ9 : Hid (w2.heap[wd.heap.size]? = some (.cells #[.bool false, .int .u64 0, .int .u64 0, .int .i64 0] 42 (0, 0))) := Lib.hid ((hO.chg.block wd.heap.size (by have := lt_of_block HZ7.out; (try simp); omega) (fun hf => by have := (HFX.out _ hf).2.1; omega)).trans HZ7.out); obtain ⟨⟨z90, z91, z92, z93⟩, z94, z95, z96, z97⟩ := res4 HZ9.out))))
        all_goals (go_wp2_with fail; go_meet)
        all_goals clear hout
        all_goals have HYW := HXE.out
        all_goals have HDJ := HDI.out
        all_goals first
          | (have hbc := drewB hb1
             have h7c := (hb1.block B11 lS6).trans HS6.out
             exact mk_R14 HYE.out hny HYW HDJ hbc h7c HNB.out hO (heap_alloc_new w2 _) (by omega) (by omega) (.inr (Nat.le_refl _)) (fun j _ hj => heap_alloc_old w2 _ hj) rfl rfl rfl (by simp))
          | (generalize hW : World.setCell _ _ _ = W9
             have hbc := (drewB hb1).alloc (by omega) (.cells #[.bool false, .int .u64 0, .int .u64 0, .int .i64 0] 42)
             have h7c := (heap_alloc_old w1 (.cells #[.bool false, .int .u64 0, .int .u64 0, .int .i64 0] 42) (lt_of_block ((hb1.block B11 lS6).trans HS6.out))).trans ((hb1.block B11 lS6).trans HS6.out)
             have hr := re4 HZ8.out hW
             exact mk_R14 HYE.out hny HYW HDJ hbc h7c HNB.out hO hr.blk (by omega) (by omega) (.inl (by simp)) (fun j hj _ => hr.oth j hj) hr.os hr.tape hr.output (Nat.le_of_eq hr.size.symm))
          | (generalize hW : World.setCell _ _ _ = W9
             have hbc : Below wd.heap.size wd w1 := below_box (Below.refl _ _).drew (Nat.le_refl _) hb1
             have h7c := (hbc.block B11 lS6).trans HS6.out
             have hr := re4 HZ9.out hW
             exact mk_R14 HYE.out hny HYW HDJ hbc h7c HNB.out hO hr.blk (by omega) (by omega) (.inl (lt_of_block HZ7.out)) (fun j hj _ => hr.oth j hj) hr.os hr.tape hr.output (Nat.le_of_eq hr.size.symm))
      case rest =>
        obtain ⟨B16, q, co2, z2, Hy', rfl, rfl, hq16, hs7, ⟨hY2, ⟨nowx2, Fx2, Ax2, capx2, Lx2, KBx, Kcx, hnx2, hX2⟩, hdis2⟩, hch2, hsub2, h816, hcase⟩ := hcut
        have hq : q = outer b b.first ∧ z2 = ⟨b, afterP b b.first, [⟨innerS, b.first, seenS serverS b.maps, 0, none, 0, [serverS]⟩], [], 0⟩ := by
          rcases hcase with ⟨h, _⟩ | ⟨port, next', P', h, _, rfl, rfl⟩
          · rw [fresh_eq (nat_fine HBc.out).1] at h
            cases h
          · rw [fresh_eq (nat_fine HBc.out).1] at h
            simp only [Option.some.injEq, Prod.mk.injEq] at h
            obtain ⟨rfl, rfl, rfl⟩ := h
            exact ⟨rfl, rfl⟩
        obtain ⟨rfl, rfl⟩ := hq
        obtain ⟨nowy2, Fy2, Ay2, capy2, Ly2, hny2, hY2⟩ := hY2
        clear hcase hs7 s0 s1 s2 s3 y0 lY6 lS6 HXE HXN HYE HDI HFX HS6 hout
        have hl14 := lt_of_block HQ14.out
        have hq14 := (hch2.block B14 hl14 (by show ¬ (B14 = Y ∨ B14 = Ty); omega)).trans HQ14.out
        have HB7 := Lib.hid (show Below W4.heap.size wd wc from ⟨hch2.os, hch2.tape, hch2.output, hch2.size, fun j hj => hch2.block j (by have := HBO.out.size; omega) (by show ¬ (j = Y ∨ j = Ty); omega)⟩)
        have HG7 := Lib.hid (show ∀ j, Hy' j → W4.heap.size ≤ j from fun j hj => by
          rcases (hsub2 j hj).1 with e | e
          · rcases e with e | e <;> omega
          · omega)
        have x1 := cell_of hX2.obj 1
        have y1 := cell_of hY2.obj 1
        simp only [List.getElem?_toArray, List.getElem?_cons_zero, List.getElem?_cons_succ] at x1 y1
        have xf : wc.frozen? ⟨X, 1, none⟩ = false := by simp [World.frozen?, hX2.obj]
        have yf : wc.frozen? ⟨Y, 1, none⟩ = false := by simp [World.frozen?, hY2.obj]
        obtain ⟨⟨s0, s1, s2, s3⟩, -⟩ := res4 hq14
        obtain ⟨⟨t0, t1, t2, t3⟩, -⟩ := res4 hq16
        unfold outer at s0 s1 s2 s3 t0 t1 t2 t3
        dsimp only at s0 s1 s2 s3 t0 t1 t2 t3
        have lX9 := lt_of_block hX2.obj
        have lY9 := lt_of_block hY2.obj
        have l149 := lt_of_block hq14
        have l169 := lt_of_block hq16
        have nXY : X ≠ Y := hnn.1
        have n14X : B14 ≠ X := by omega
        have n14Y : B14 ≠ Y := by omega
        have n16X : B16 ≠ X := by omega
        have n16Y : B16 ≠ Y := by omega
        have HX9 := Lib.hid hX2
        have HY9 := Lib.hid hY2
        have HD9 := Lib.hid hdis2
        clear hX2 hY2 hdis2 hq14 hq16 hch2 hsub2 HQ14 h814 h816 hl14 hw6
        go_upto_region 16 with (fail)
        go_cut [12] from 18 (fun v12 wc2 => v12 = .pointer (some ⟨X, 0, none⟩) ∧ CanI w W4.heap.size a b X Y Tx Ty (w.heap.size + 1 + 1) 0 wc2)
        case first =>
          go_region_held3 (fun w' => w'.cell? ⟨B14, 0, none⟩ = some (.bool a.six) ∧ w'.cell? ⟨B14, 1, none⟩ = some (.int .u64 a.hi) ∧ w'.cell? ⟨B14, 2, none⟩ = some (.int .u64 a.lo) ∧ w'.cell? ⟨B14, 3, none⟩ = some (.int .i64 a.first) ∧ w'.cell? ⟨B16, 0, none⟩ = some (.bool b.six) ∧ w'.cell? ⟨B16, 1, none⟩ = some (.int .u64 b.hi) ∧ w'.cell? ⟨B16, 2, none⟩ = some (.int .u64 b.lo) ∧ w'.cell? ⟨B16, 3, none⟩ = some (.int .i64 b.first))
            ((repeat' apply And.intro) <;> (first | (go_simp; done) | with_reducible assumption))
            (fail)
          all_goals (go_wp2_with fail; go_meet)
          all_goals (refine ⟨rfl, ?_⟩)
          all_goals generalize hW : World.alloc _ _ = W9
          all_goals obtain ⟨r1, r2, r3, r4, r5, r6, r7, r8, r9⟩ := set_two HX9.out.obj HY9.out.obj nXY hW
          all_goals have hBw := HBO.out.trans ((HB6.out.trans (HB7.out.mono (by have := HBO.out.size; omega))).mono (by omega))
          all_goals have hC9 := (HB7.out.block _ (by omega)).trans ((HB6.out.block _ (by omega)).trans BC5.out)
          all_goals have hs9 := HB7.out.size
          all_goals first
            | exact mk_Can0 (W := W9.drew) HX9.out HY9.out HD9.out hnx2 hny2 (startP_eq HA.out HBc.out).1 (startP_eq HA.out HBc.out).2 r1 r2 r3 r4 (Nat.le_refl _) (by omega) (by omega) r5 r6 r7 r8 r9 (fun j hj => (HG6.out j hj).1) HG7.out hBw (by omega) (by omega) hC9 (by omega)
            | exact mk_Can0 (W := W9.drew) HX9.out HY9.out HD9.out hnx2 hny2 (startP_eq HA.out HBc.out).1 (startP_eq HA.out HBc.out).2 r1 r2 r4 r3 (by omega) (Nat.le_refl _) (by omega) r5 r6 r7 r8 r9 (fun j hj => (HG6.out j hj).1) HG7.out hBw (by omega) (by omega) hC9 (by omega)
        case rest =>
          obtain ⟨rfl, hI0⟩ := hcut
          have hI0' := Lib.hid hI0
          clear hI0 x1 y1 xf yf s0 s1 s2 s3 t0 t1 t2 t3 lX9 lY9 l149 l169 nXY n14X n14Y n16X n16Y HX9 HY9 HD9 HG6 HG7 HB6 HB7 HBO BC5 hnn hlt4
          have hBC := lC
          go_wp2_with fail
          go_loopw [18] (fun v wr => ∃ i : Nat, i ≤ R ∧ v = .int .i64 ((i + 1 : Nat) : Int) ∧ CanI w W4.heap.size a b X Y Tx Ty (w.heap.size + 1 + 1) i wr) (fun v _ => R + 1 - (intOf v).toNat)
          case atStart => exact ⟨0, by omega, by simp, hI0'.out⟩
          case round =>
            obtain ⟨i, hi, rfl, hI⟩ := hrel
            clear hI0'
            by_cases hlt : i + 1 ≤ R
            · have hdl : decide (i + 1 ≤ R) = true := by simpa using hlt
              obtain ⟨Gx, Gy, KA, Kcap, hTwo, hGx, hGy, hw4r, hBw, hC⟩ := hI
              obtain ⟨g1, g2⟩ := can_good HA.out HBc.out ha0 hb0 i (by omega)
              have hq := pow_le i (by omega)
              have hsucc := canP_succ a b i
              generalize canP a b i = z at *
              generalize 3 ^ i = q at *
              have hT1 := turn_any Gx Gy X Y Tx Ty z.1 z.2 (2 * q) q q ((i : Int) + 1) KA Kcap wr (hTwo.mono (by omega)) g1 g2 (by omega) (by omega) (by omega) (by omega)
              have hcast : (((i + 1 : Nat) : Int)) = (i : Int) + 1 := by omega
              have HSU := Lib.hid hsucc
              have HGX := Lib.hid hGx
              have HGY := Lib.hid hGy
              have HBW := Lib.hid hBw
              have HC6 := Lib.hid hC
              have G1 := Lib.hid g1
              have G2 := Lib.hid g2
              rw [hcast]
              clear hsucc hGx hGy hBw hC g1 g2 hTwo hcast
              go_wp2_with fail
              refine hT1.mono ?_
              rintro e w5 ⟨rfl, Hx, Hy, hTw, hch, hpx, hpy⟩
              rw [List.take_length] at hTw
              obtain ⟨g1, g2⟩ := turn_good (at_ := (i : Int) + 1) (x := z) (by omega) (by omega) G1.out G2.out
              have hTw' : Two w5 Hx Hy X Y Tx Ty ((i : Int) + 1) (turnP ((i : Int) + 1) z).1 (turnP ((i : Int) + 1) z).2 KA Kcap := hTw
              have HSU2 : Hid (canP a b (i + 1) = ((turnP ((i : Int) + 1) ((turnP ((i : Int) + 1) z).2, (turnP ((i : Int) + 1) z).1)).2, (turnP ((i : Int) + 1) ((turnP ((i : Int) + 1) z).2, (turnP ((i : Int) + 1) z).1)).1)) := Lib.hid HSU.out
              have HG5 := Lib.hid (show (∀ j, Hx j → W4.heap.size ≤ j) ∧ (∀ j, Hy j → W4.heap.size ≤ j) ∧ Below w.heap.size w w5 ∧ w5.heap[w.heap.size + 1 + 1]? = some (.cells #[.int .i64 0, .int .i64 0] 55 (0, 0)) from by
                have hs := lt_of_block HC6.out
                have hbw := HBW.out.size
                refine ⟨fun j hj => ?_, fun j hj => ?_, HBW.out.trans ⟨hch.os, hch.tape, hch.output, hch.size, fun k hk => hch.block k (by omega) fun hk2 => ?_⟩, (hch.block _ hs fun hk2 => ?_).trans HC6.out⟩
                · rcases hpx j hj with e | e
                  · exact HGX.out j e
                  · omega
                · rcases hpy j hj with e | e
                  · exact HGY.out j e
                  · omega
                · rcases hk2 with e | e
                  · have := HGX.out k e; omega
                  · have := HGY.out k e; omega
                · rcases hk2 with e | e
                  · have := HGX.out _ e; omega
                  · have := HGY.out _ e; omega)
              obtain ⟨KB, Kc, hsw⟩ := hTw'.swap
              generalize turnP ((i : Int) + 1) z = y at *
              have hT2 := turn_any Hy Hx Y X Ty Tx y.2 y.1 (2 * q + q) (q + q) q ((i : Int) + 1) KB Kc w5 hsw g2 g1 (by omega) (by omega) (by omega) (by omega)
              have hw45 : wr.heap.size ≤ w5.heap.size := hch.size
              clear hT1 hTw hTw' hch hpx hpy g1 g2 hsw HSU HGX HGY HBW HC6
              go_wp2_with fail
              refine hT2.mono ?_
              rintro e w6 ⟨rfl, Hy2, Hx2, hTw, hch, hpy, hpx⟩
              rw [List.take_length] at hTw
              have hTw' : Two w6 Hy2 Hx2 Y X Ty Tx ((i : Int) + 1) (turnP ((i : Int) + 1) (y.2, y.1)).1 (turnP ((i : Int) + 1) (y.2, y.1)).2 KB Kc := hTw
              obtain ⟨KA2, Kcap2, hsw⟩ := hTw'.swap
              have HFIN := Lib.hid (show CanI w W4.heap.size a b X Y Tx Ty (w.heap.size + 1 + 1) (i + 1) w6 from by
                obtain ⟨h1, h2, h3, h4⟩ := HG5.out
                have hs := lt_of_block h4
                have hbw := h3.size
                refine ⟨Hx2, Hy2, KA2, Kcap2, by rw [HSU2.out]; exact hsw.mono (by omega), fun j hj => ?_, fun j hj => ?_, by have := hch.size; omega, h3.trans ⟨hch.os, hch.tape, hch.output, hch.size, fun k hk => hch.block k (by omega) fun hk2 => ?_⟩, (hch.block _ hs fun hk2 => ?_).trans h4⟩
                · rcases hpx j hj with e | e
                  · exact h1 j e
                  · omega
                · rcases hpy j hj with e | e
                  · exact h2 j e
                  · omega
                · rcases hk2 with e | e
                  · have := h2 k e; omega
                  · have := h1 k e; omega
                · rcases hk2 with e | e
                  · have := h2 _ e; omega
                  · have := h1 _ e; omega)
              clear hT2 hTw hTw' hch hpx hpy hsw HG5
              go_wp2_with fail
              go_roundw
              case rel => exact ⟨i + 1, hlt, by simp, HFIN.out⟩
              case measure => simp [intOf]; omega
            · have hie : i = R := by omega
              subst hie
              have hdl : decide (i + 1 ≤ i) = false := by simp
              obtain ⟨Gx, Gy, KA, Kcap, ⟨⟨n1, F1, A1, c1, L1, hn1, hX1⟩, ⟨n2, F2, A2, c2, L2, KB2, Kc2, hn2, hY1⟩, hd1⟩, hGx, hGy, hw4r, hBw, hC⟩ := hI
              generalize hz : canP a b i = z at *
              have x2 := cell_of hX1.obj 2
              have y2 := cell_of hY1.obj 2
              simp only [List.getElem?_toArray, List.getElem?_cons_zero, List.getElem?_cons_succ] at x2 y2
              have lXr := lt_of_block hX1.obj
              have lYr := lt_of_block hY1.obj
              have lCr := lt_of_block hC
              obtain ⟨⟨k0, k1⟩, kf0, kf1⟩ := res2 hC
              have HBW := Lib.hid hBw
              have HCC := Lib.hid hC
              have HZ := Lib.hid hz
              have nCX : w.heap.size + 1 + 1 ≠ X := by omega
              have nCY : w.heap.size + 1 + 1 ≠ Y := by omega
              clear hX1 hY1 hd1 hGx hGy hBw hC hz
              go_wp2_with fail
              go_region_held3 (fun w' => w'.cell? ⟨X, 2, none⟩ = some (.int .i64 z.1.heard) ∧ w'.cell? ⟨Y, 2, none⟩ = some (.int .i64 z.2.heard))
                ((repeat' apply And.intro) <;> (first | (go_simp; done) | with_reducible assumption))
                (fail)
              go_wp2_with fail
              clear k0 k1 kf0 kf1 x2 y2
              generalize hW : World.setCell _ _ _ = W9
              have hr := re2 HCC.out hW
              obtain ⟨⟨k0, k1⟩, -⟩ := res2 hr.blk
              have hbf := hr.below HBW.out (show w.heap.size ≤ w.heap.size + 1 + 1 by omega)
              rw [HZ.out]
              refine bodyPost_ret (v := .tuple #[.agg #[.int .i64 z.1.heard, .int .i64 z.2.heard], .int .i64 0]) (by simp [results, Tryz.results17, go_sem, k0, k1]) rfl ⟨rfl, ?_⟩
              exact hbf.drew
end Go.Proofs.YtphjgjcbolmdiaaGreatDoor
