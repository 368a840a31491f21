/- peer.turn. -/
import Derived.Test.YtphjgjcbolmdiaaGreatDoorMtJ
import Derived.Test.YtphjgjcbolmdiaaGreatDoorNtR
import Derived.Deep.RegionHeld3
import Derived.Test.YtphjgjcbolmdiaaGreatDoorTokn
import Derived.Deep.AppendLies
import Derived.Deep.RegionLaw
import Derived.Deep.Cut
import Derived.Deep.CutRange
namespace Go.Proofs.YtphjgjcbolmdiaaGreatDoor
open Go.RowKit Go.Hw

/-- Two nodes lie apart in memory: the first one knows what lies at KA. -/
def Two (w : World) (Gx Gy : Nat → Prop) (X Y Tx Ty : Nat) (at_ : Int) (x y : PP) (KA : Option Addr) (Kcap : Nat) : Prop :=
  (∃ now F A cap L, now ≤ at_ ∧ PeerX w Gx X Tx now x F A cap L KA Kcap) ∧ (∃ now F A cap L KB Kc, now ≤ at_ ∧ PeerX w Gy Y Ty now y F A cap L KB Kc) ∧ ∀ j, Gx j → ¬ Gy j
/-- What turn has done so far. -/
def TurnI (w : World) (Gx Gy : Nat → Prop) (X Y Tx Ty : Nat) (at_ : Int) (x y : PP) (KA : Option Addr) (Kcap : Nat) (i : Nat) (wr : World) : Prop :=
  ∃ Hx Hy, Two wr Hx Hy X Y Tx Ty at_ ((x.K.take i).foldl (stepP at_) (x, y)).1 ((x.K.take i).foldl (stepP at_) (x, y)).2 KA Kcap ∧ Chg (fun j => Gx j ∨ Gy j) w wr ∧ (∀ j, Hx j → Plus Gx w j) ∧ (∀ j, Hy j → Plus Gy w j)

theorem Good.at {n : NatC} {now next : Int} {P : List Ent} {k : Nat} (h : Good n now next P k) (now' : Int) : Good n now' next P k := ⟨h.fine, h.nxt, h.rng, h.last, h.len, h.sent⟩
theorem Chg.cell {F : Nat → Prop} {w w' : World} (h : Chg F w w') {j : Nat} (hj : j < w.heap.size) (hf : ¬ F j) (o : Nat) : w'.cell? ⟨j, o, none⟩ = w.cell? ⟨j, o, none⟩ := World.cell?_of_block (w := w) (h.block j hj hf)
def spotO (s : Spot) : Obj := .cells #[.bool s.six, .int .u64 s.hi, .int .u64 s.lo, .int .i64 s.port] 42 (0, 0)
/-- Behind Out, in a round. -/
def R3 (wr : World) (Hx Hy : Nat → Prop) (X Y Tx Ty B7 : Nat) (at_ : Int) (z : PP × PP) (d : Spot) (KA : Option Addr) (Kcap i : Nat) (v8 v9 v18 : Value) (wc : World) : Prop :=
  ∃ B8 q c z1 Hx', v8 = .pointer (some ⟨B8, 0, none⟩) ∧ v9 = .int .i64 c ∧ v18 = .int .i64 (i : Nat) ∧ wc.heap[B8]? = some (spotO q) ∧ wc.heap[B7]? = some (spotO d) ∧ Two wc Hx' Hy X Y Tx Ty at_ z1 z.2 KA Kcap ∧ Chg Hx wr wc ∧
    (∀ j, Hx' j → Plus Hx wr j ∧ j ≠ B7 ∧ j ≠ B8) ∧ (wr.heap.size ≤ B7 ∧ wr.heap.size ≤ B8) ∧
    ((outP z.1.n at_ innerS d z.1.next z.1.P = none ∧ c = 12 ∧ z1 = z.1) ∨ ∃ port next' P', outP z.1.n at_ innerS d z.1.next z.1.P = some (port, next', P') ∧ c = 0 ∧ q = outer z.1.n port ∧ z1 = { z.1 with next := next', P := P' })
theorem mk_R3 {wr w1 w2 wc : World} {Hx Hy : Nat → Prop} {X Y Tx Ty B7 B8 : Nat} {at_ c nowx : Int} {z : PP × PP} {d q : Spot} {KA : Option Addr} {Kcap i : Nat} {F : Nat → Prop} {A : Option Addr} {cap : Nat} {L : List Ent}
    (hX : PeerX wr Hx X Tx nowx z.1 F A cap L KA Kcap) (hnx : nowx ≤ at_) (hY : ∃ now F A cap L KB Kc, now ≤ at_ ∧ PeerX wr Hy Y Ty now z.2 F A cap L KB Kc) (hdis : ∀ j, Hx j → ¬ Hy j) (hb : Below wr.heap.size wr w1) (hB7 : w1.heap[B7]? = some (spotO d)) (h7 : wr.heap.size ≤ B7)
    (hO : OutH F w1 Tx z.1.n at_ innerS d z.1.next z.1.P q c w2) (hB8 : wc.heap[B8]? = some (spotO q)) (h8 : wr.heap.size ≤ B8) (h87 : B8 ≠ B7) (hor : B8 < w1.heap.size ∨ w2.heap.size ≤ B8)
    (ho : ∀ j, j ≠ B8 → j < w2.heap.size → wc.heap[j]? = w2.heap[j]?) (hos : wc.os = w2.os) (htp : wc.tape = w2.tape) (hop : wc.output = w2.output) (hsz : w2.heap.size ≤ wc.heap.size) :
    R3 wr Hx Hy X Y Tx Ty B7 at_ z d KA Kcap i (.pointer (some ⟨B8, 0, none⟩)) (.int .i64 c) (.int .i64 (i : Nat)) wc := by
  obtain ⟨nowy, Fy, Ay, capy, Ly, KB, Kc, hny, hY⟩ := hY
  have hX1 := hX.below hb
  have hY1 := hY.below hb
  have hchg := hO.chg
  have l7 := lt_of_block hB7
  have hfx : ∀ k, F k → k < wr.heap.size := fun k hf => hX.lim k (hX.fG k hf).1
  have h27 : w2.heap[B7]? = some (spotO d) := (hchg.block B7 l7 fun hf => by have := hfx B7 hf; omega).trans hB7
  have hY2 := hY1.other hchg fun k hk hf => hdis k (hX.fG k hf).1 hk
  have hw12 := hchg.size
  have hwr1 := hb.size
  -- from w2 to wc
  have hYc := hY2.keep (w' := wc) (fun k hk => ho k (fun e => by have := hY.lim k hk; omega) (by have := hY.lim k hk; omega)) hsz
  have hcc : Chg Hx wr wc := (Chg.of_below (F := Hx) hb).trans ⟨hos.trans hchg.os, htp.trans hchg.tape, hop.trans hchg.output, by omega, fun k hk hn => by
    by_cases e : k = B8
    · exact absurd (.inr (by omega)) hn
    · exact (ho k e (by omega)).trans (hchg.block k hk fun hf => hn (.inl (hX.fG k hf).1))⟩
  refine ⟨B8, q, c, ?_⟩
  rcases hO with ⟨h1, rfl, rfl, hb2⟩ | ⟨port, next', P', h1, rfl, rfl, hc2, A2, cap2, L2, ht2, hP2⟩
  · have hXc := (hX1.below hb2).keep (w' := wc) (fun k hk => ho k (fun e => by have := hX.lim k hk; omega) (by have := hX.lim k hk; omega)) hsz
    exact ⟨z.1, Hx, rfl, rfl, rfl, hB8, (ho B7 (Ne.symm h87) (by omega)).trans h27, ⟨⟨_, _, _, _, _, hnx, hXc⟩, ⟨_, _, _, _, _, _, _, hny, hYc⟩, hdis⟩, hcc, fun j hj => ⟨.inl hj, by have := hX.lim j hj; omega, by have := hX.lim j hj; omega⟩, ⟨h7, h8⟩, .inl ⟨h1, rfl, rfl⟩⟩
  · have hX2 := hX1.sent hc2 ht2 hP2
    have hn8 : ∀ k, Plus Hx w1 k ∧ k < w2.heap.size → k ≠ B8 := by
      rintro k ⟨hk | hk, hl⟩
      · have := hX.lim k hk; omega
      · omega
    have hXc := hX2.keep (w' := wc) (fun k hk => ho k (hn8 k hk) hk.2) hsz
    refine ⟨_, _, rfl, rfl, rfl, hB8, (ho B7 (Ne.symm h87) (by omega)).trans h27, ⟨⟨_, _, _, _, _, Int.le_refl _, hXc⟩, ⟨_, _, _, _, _, _, _, hny, hYc⟩, fun j hj hy => ?_⟩, hcc, fun j hj => ⟨?_, ?_, hn8 j hj⟩, ⟨h7, h8⟩, .inr ⟨port, next', P', h1, rfl, rfl, rfl⟩⟩
    · rcases hj with ⟨hj | hj, _⟩
      · exact hdis j hj hy
      · have := hY.lim j hy; omega
    · rcases hj with ⟨hj | hj, _⟩
      · exact .inl hj
      · exact .inr (by omega)
    · rcases hj with ⟨hj | hj, _⟩
      · have := hX.lim j hj; omega
      · omega

/-- Behind In, in a round. -/
def R5 (wc : World) (Hx Hy : Nat → Prop) (X Y Tx Ty B8 : Nat) (at_ : Int) (z1 z2 : PP) (q : Spot) (p : Int) (KA : Option Addr) (Kcap i : Nat) (v11 v18 : Value) (wd : World) : Prop :=
  ∃ ok : Bool, v11 = .bool ok ∧ v18 = .int .i64 (i : Nat) ∧ wd.heap[B8]? = some (spotO q) ∧ Two wd Hx Hy X Y Tx Ty at_ z1 { z2 with P := (inP z2.n at_ q p z2.P).2 } KA Kcap ∧ Chg Hy wc wd ∧ (inP z2.n at_ q p z2.P).1 = ok
theorem mk_R5 {wc w1 w2 wd : World} {Hx Hy : Nat → Prop} {X Y Tx Ty B8 : Nat} {at_ nowy p : Int} {z1 z2 : PP} {q : Spot} {KA KB : Option Addr} {Kcap Kc i : Nat} {F : Nat → Prop} {A : Option Addr} {cap : Nat} {L : List Ent} {ok : Bool}
    (hX : ∃ now F A cap L, now ≤ at_ ∧ PeerX wc Hx X Tx now z1 F A cap L KA Kcap) (hY : PeerX wc Hy Y Ty nowy z2 F A cap L KB Kc) (hdis : ∀ j, Hx j → ¬ Hy j) (hb : Below wc.heap.size wc w1) (hI : InH F w1 Ty z2.n at_ q p z2.next z2.P ok w2)
    (hB8 : wc.heap[B8]? = some (spotO q)) (h8 : ¬ Hy B8) (ho : ∀ j, j < wc.heap.size → wd.heap[j]? = w2.heap[j]?) (hos : wd.os = w2.os) (htp : wd.tape = w2.tape) (hop : wd.output = w2.output) (hsz : w2.heap.size ≤ wd.heap.size) :
    R5 wc Hx Hy X Y Tx Ty B8 at_ z1 z2 q p KA Kcap i (.bool ok) (.int .i64 (i : Nat)) wd := by
  obtain ⟨nowx, Fx, Ax, capx, Lx, hnx, hX⟩ := hX
  obtain ⟨hc, ⟨A2, cap2, L2, ht2, hP2⟩, hok⟩ := hI
  have hY1 := hY.below hb
  have hY2 := hY1.came hc ht2 hP2
  have hs1 := hb.size
  have hs2 := hc.size
  have hYd := hY2.keep (w' := wd) (fun k hk => ho k (hY.lim k hk)) hsz
  have hall : ∀ k, k < wc.heap.size → ¬ F k → wd.heap[k]? = wc.heap[k]? := fun k hk hf => (ho k hk).trans ((hc.block k (by omega) hf).trans (hb.block k hk))
  have hXd := hX.keep (w' := wd) (fun k hk => hall k (hX.lim k hk) fun hf => hdis k hk (hY.fG k hf).1) (by omega)
  exact ⟨ok, rfl, rfl, (hall B8 (lt_of_block hB8) fun hf => h8 (hY.fG _ hf).1).trans hB8, ⟨⟨_, _, _, _, _, hnx, hXd⟩, ⟨_, _, _, _, _, _, _, Int.le_refl _, hYd⟩, hdis⟩, ⟨hos.trans (hc.os.trans hb.os), htp.trans (hc.tape.trans hb.tape), hop.trans (hc.output.trans hb.output), by omega, fun k hk hn => hall k hk fun hf => hn (hY.fG k hf).1⟩, hok⟩
theorem port_of {d : Spot} (h : spotCode d = 0) : portCode d.port = 0 := by
  unfold spotCode at h
  split at h
  · contradiction
  · exact h
theorem step_none {at_ : Int} {z : PP × PP} {d : Spot} (h : outP z.1.n at_ innerS d z.1.next z.1.P = none) : stepP at_ z d = z := by
  unfold stepP
  rw [h]
theorem step_some {at_ port next' : Int} {z : PP × PP} {d : Spot} {P' : List Ent} (h : outP z.1.n at_ innerS d z.1.next z.1.P = some (port, next', P')) : stepP at_ z d = ({ z.1 with next := next', P := P' }, hearP at_ (outer z.1.n port) d.port z.2) := by
  unfold stepP
  rw [h]

theorem hear_no {at_ p : Int} {q : Spot} {o : PP} (h : (inP o.n at_ q p o.P).1 = false) : hearP at_ q p o = { o with P := (inP o.n at_ q p o.P).2 } := by
  unfold hearP
  rw [h]
  rfl
theorem hear_yes {at_ p : Int} {q : Spot} {o : PP} (h : (inP o.n at_ q p o.P).1 = true) : hearP at_ q p o = { o with P := (inP o.n at_ q p o.P).2, heard := if o.heard = 0 then at_ else o.heard, K := if o.K.any (fun k => q.beq k) then o.K else o.K ++ [q] } := by
  unfold hearP
  rw [h, if_pos rfl]

set_option maxRecDepth 100000 in
set_option maxHeartbeats 4000000 in
theorem turn_any (Gx Gy : Nat → Prop) (X Y Tx Ty : Nat) (x y : PP) (k c c' : Nat) (at_ : Int) (KA : Option Addr) (Kcap : Nat) (w : World) (h : Two w Gx Gy X Y Tx Ty at_ x y KA Kcap) (gx : GoodP x k c) (gy : GoodP y k c') (hk : k + c ≤ 900) (hc' : c' + c ≤ 900)
    (ha0 : 1 ≤ at_) (ha1 : at_ ≤ 50) :
    Calls Tryz.prog 45 #[.pointer (some ⟨X, 0, none⟩), .pointer (some ⟨Y, 0, none⟩), .int .i64 at_] w fun e w' => e = .returned (.tuple #[]) ∧ TurnI w Gx Gy X Y Tx Ty at_ x y KA Kcap x.K.length w' := by
  have hI : TurnI w Gx Gy X Y Tx Ty at_ x y KA Kcap 0 w := ⟨Gx, Gy, h, Chg.refl _ _, fun j hj => .inl hj, fun j hj => .inl hj⟩
  obtain ⟨⟨now, F, A, cap, L, hn, hX⟩, _, _⟩ := h
  have x1 := cell_of hX.obj 1
  simp only [List.getElem?_toArray, List.getElem?_cons_zero, List.getElem?_cons_succ] at x1
  have lX := lt_of_block hX.obj
  have HI := Lib.hid hI
  have GX := Lib.hid gx
  have GY := Lib.hid gy
  have hlen := gx.len
  clear hI gx gy hX
  go_enter Tryz.func45, Tryz.ntmps45
  go_wp2_with fail
  clear x1 lX
  go_loopw [18] (fun v wr => ∃ i : Nat, i ≤ x.K.length ∧ v = .int .i64 i ∧ TurnI w Gx Gy X Y Tx Ty at_ x y KA Kcap i wr) (fun v _ => x.K.length - (intOf v).toNat)
  case atStart => exact ⟨0, by omega, rfl, HI.out⟩
  case round =>
    obtain ⟨i, hi, rfl, hI⟩ := hrel
    have HI2 := Lib.hid hI
    clear hI HI
    by_cases hlt : i < x.K.length
    · have hdl : decide (i < x.K.length) = true := by simpa using hlt
      obtain ⟨Hx, Hy, ⟨⟨nowx, F, A, cap, L, hnx, hX⟩, hY, hdis⟩, hch, hpx, hpy⟩ := HI2.out
      have htl : (x.K.take i).length = i := by simp; omega
      obtain ⟨gz1, gz2, gzK⟩ := fold_good (at_ := at_) (by omega) (by omega) (x.K.take i) (x, y) k c c' GX.out GY.out
      rw [htl] at gz1 gz2
      have hsucc : (x.K.take (i + 1)).foldl (stepP at_) (x, y) = stepP at_ ((x.K.take i).foldl (stepP at_) (x, y)) (x.K.getD i noSpot) := by
        rw [List.take_succ_eq_append_getElem hlt, List.foldl_append, List.getD_eq_getElem?_getD, List.getElem?_eq_getElem hlt]
        rfl
      obtain ⟨hd0, hdc⟩ := GX.out.ks (x.K.getD i noSpot) (by rw [List.getD_eq_getElem?_getD, List.getElem?_eq_getElem hlt]; exact List.getElem_mem hlt)
      generalize (x.K.take i).foldl (stepP at_) (x, y) = z at *
      have hsp := spots_at hX.ks
      rw [gzK] at hsp
      obtain ⟨g5, off, rfl, hgB, c0, c1, c2, c3⟩ := hsp i hlt
      generalize x.K.getD i noSpot = d at *
      have x0 := cell_of hX.obj 0
      simp only [List.getElem?_toArray, List.getElem?_cons_zero] at x0
      have lX := lt_of_block hX.obj
      have HX := Lib.hid hX
      have HY := Lib.hid hY
      have HDIS := Lib.hid hdis
      have HCH := Lib.hid hch
      have HPX := Lib.hid hpx
      have HPY := Lib.hid hpy
      have HS := Lib.hid hsucc
      have HDC := Lib.hid hdc
      have GZ1 := Lib.hid gz1
      have GZ2 := Lib.hid gz2
      have GK := Lib.hid gzK
      clear hX hY hdis hch hpx hpy hsucc hdc gz1 gz2 gzK hsp HI2 htl
      go_upto_region 3 with (fail)
      generalize hW : World.alloc _ _ = W7
      have hb7 : Below wr.heap.size wr W7 := by rw [← hW]; exact (Below.refl _ _).alloc (Nat.le_refl _) _
      have h7 : W7.heap[wr.heap.size]? = some (spotO d) := by rw [← hW]; exact heap_alloc_new wr _
      have l7 := lt_of_block h7
      have x0' := (hb7.cell (p := ⟨X, 0, none⟩) lX).trans x0
      obtain ⟨⟨t0, t1, t2, t3⟩, -⟩ := res4 h7
      have hfx : ∀ j, F j → j < wr.heap.size ∧ j ≠ X := fun j hj => ⟨HX.out.lim j (HX.out.fG j hj).1, (HX.out.fG j hj).2⟩
      have hout := fun W (hbW : Below W7.heap.size W7 W) => out_gen Tx z.1.n nowx z.1.next F A cap L z.1.P (k + i) at_ innerS d W (HX.out.below (hb7.trans (hbW.mono hb7.size))).tr HX.out.core (GZ1.out.good.at nowx) (by omega) (by omega) hnx (by omega) (fun j hj => by have := (hfx j hj).1; have := hb7.size; have := hbW.size; omega) (by decide) hd0 rfl HDC.out
      unfold innerS at hout
      dsimp only at hout
      have hlW : wr.heap.size ≤ W7.heap.size := hb7.size
      have lX7 : X < W7.heap.size := by omega
      have HFX := Lib.hid hfx
      have HB7 := Lib.hid hb7
      have H7 := Lib.hid h7
      clear hW c0 c1 c2 c3 x0 hb7 h7 hfx
      go_cut [8, 9, 18] from 18 to 76 (fun v8 v9 v18 wc => R3 wr Hx Hy X Y Tx Ty wr.heap.size at_ z d (some ⟨g5, off, none⟩) Kcap i v8 v9 v18 wc)
      case first =>
        go_region_held3 (fun w' => w'.cell? ⟨X, 0, none⟩ = some (.pointer (some ⟨Tx, 0, none⟩)) ∧ w'.cell? ⟨wr.heap.size, 0, none⟩ = some (.bool d.six) ∧ w'.cell? ⟨wr.heap.size, 1, none⟩ = some (.int .u64 d.hi) ∧ w'.cell? ⟨wr.heap.size, 2, none⟩ = some (.int .u64 d.lo) ∧ w'.cell? ⟨wr.heap.size, 3, none⟩ = some (.int .i64 d.port))
          ((repeat' apply And.intro) <;> (first | (go_simp; done) | with_reducible assumption))
          (first
            | (go_at_call 44; refine (inner_any _).mono ?_; rintro e w1 ⟨rfl, hb1⟩; have y0 : w1.cell? ⟨X, 0, none⟩ = some (.pointer (some ⟨Tx, 0, none⟩)) := (hb1.cell (p := ⟨X, 0, none⟩) (by simp; omega)).trans (by go_simp); have y1 : w1.cell? ⟨wr.heap.size, 0, none⟩ = some (.bool d.six) := (hb1.cell (p := ⟨wr.heap.size, 0, none⟩) (by simp; omega)).trans (by go_simp); have y2 : w1.cell? ⟨wr.heap.size, 1, none⟩ = some (.int .u64 d.hi) := (hb1.cell (p := ⟨wr.heap.size, 1, none⟩) (by simp; omega)).trans (by go_simp); have y3 : w1.cell? ⟨wr.heap.size, 2, none⟩ = some (.int .u64 d.lo) := (hb1.cell (p := ⟨wr.heap.size, 2, none⟩) (by simp; omega)).trans (by go_simp); have y4 : w1.cell? ⟨wr.heap.size, 3, none⟩ = some (.int .i64 d.port) := (hb1.cell (p := ⟨wr.heap.size, 3, none⟩) (by simp; omega)).trans (by go_simp); have l71 : wr.heap.size < w1.heap.size := (by have := hb1.size; (try simp at this); omega); have lX1 : X < w1.heap.size := (by omega); (try (have HZ7 : Hid (w1.heap[W7.heap.size]? = some (.cells #[.bool false, .int .u64 0, .int .u64 0, .int .i64 0] 42 (0, 0))) := Lib.hid ((hb1.block _ (by simp)).trans (heap_alloc_new _ _)))))
            | (go_at_call 13; refine Calls.mono (hout _ (by first | exact drewB hb1 | exact (drewB hb1).alloc (drewB hb1).size _ | exact below_box (Below.refl _ _).drew (Nat.le_refl _) hb1)) ?_; rintro e w2 hO0; obtain ⟨q, co, rfl, hO⟩ := out_h hO0; have p0 : w2.cell? ⟨X, 0, none⟩ = some (.pointer (some ⟨Tx, 0, none⟩)) := (hO.chg.cell (by (try simp); omega) (fun hf => (HFX.out _ hf).2 rfl) 0).trans (by go_simp); have p1 : w2.cell? ⟨wr.heap.size, 0, none⟩ = some (.bool d.six) := (hO.chg.cell (by (try simp); omega) (fun hf => by have := (HFX.out _ hf).1; omega) 0).trans (by go_simp); have p2 : w2.cell? ⟨wr.heap.size, 1, none⟩ = some (.int .u64 d.hi) := (hO.chg.cell (by (try simp); omega) (fun hf => by have := (HFX.out _ hf).1; omega) 1).trans (by go_simp); have p3 : w2.cell? ⟨wr.heap.size, 2, none⟩ = some (.int .u64 d.lo) := (hO.chg.cell (by (try simp); omega) (fun hf => by have := (HFX.out _ hf).1; omega) 2).trans (by go_simp); have p4 : w2.cell? ⟨wr.heap.size, 3, none⟩ = some (.int .i64 d.port) := (hO.chg.cell (by (try simp); omega) (fun hf => by have := (HFX.out _ hf).1; omega) 3).trans (by go_simp); have l72 : wr.heap.size < w2.heap.size := (by have := hO.chg.size; (try simp at this); omega); have lX2 : X < w2.heap.size := (by omega); (try (have HZ8 : Hid (w2.heap[w1.heap.size]? = some (.cells #[.bool false, .int .u64 0, .int .u64 0, .int .i64 0] 42 (0, 0))) := Lib.hid ((hO.chg.block w1.heap.size (by simp) (fun hf => by have := (HFX.out _ hf).1; omega)).trans (heap_alloc_new w1 _)); obtain ⟨⟨z80, z81, z82, z83⟩, z84, z85, z86, z87⟩ := res4 HZ8.out)); (try (have HZ9 : Hid (w2.heap[W7.heap.size]? = some (.cells #[.bool false, .int .u64 0, .int .u64 0, .int .i64 0] 42 (0, 0))) := Lib.hid ((hO.chg.block W7.heap.size (by have := lt_of_block HZ7.out; (try simp); omega) (fun hf => by have := (HFX.out _ hf).1; omega)).trans HZ7.out); obtain ⟨⟨z90, z91, z92, z93⟩, z94, z95, z96, z97⟩ := res4 HZ9.out))))
        all_goals (go_wp2_with fail; go_meet)
        all_goals clear hout
        all_goals first
          | (have hbc := HB7.out.trans ((drewB hb1).mono HB7.out.size)
             have h7c := (hb1.block wr.heap.size l7).trans H7.out
             exact mk_R3 HX.out hnx HY.out HDIS.out hbc h7c (Nat.le_refl _) hO (heap_alloc_new w2 _) (by omega) (by omega) (.inr (Nat.le_refl _)) (fun j _ hj => heap_alloc_old w2 _ hj) rfl rfl rfl (by simp))
          | (generalize hW : World.setCell _ _ _ = W9
             have hbc := (HB7.out.trans ((drewB hb1).mono HB7.out.size)).alloc (by omega) (.cells #[.bool false, .int .u64 0, .int .u64 0, .int .i64 0] 42)
             have h7c := (heap_alloc_old w1 (.cells #[.bool false, .int .u64 0, .int .u64 0, .int .i64 0] 42) (lt_of_block ((hb1.block wr.heap.size l7).trans H7.out))).trans ((hb1.block wr.heap.size l7).trans H7.out)
             have hr := re4 HZ8.out hW
             exact mk_R3 HX.out hnx HY.out HDIS.out hbc h7c (Nat.le_refl _) hO hr.blk (by omega) (by omega) (.inl (by simp)) (fun j hj _ => hr.oth j hj) hr.os hr.tape hr.output (Nat.le_of_eq hr.size.symm))
          | (generalize hW : World.setCell _ _ _ = W9
             have hb7' : Below W7.heap.size W7 w1 := below_box (Below.refl _ _).drew (Nat.le_refl _) hb1
             have hbc := HB7.out.trans (hb7'.mono HB7.out.size)
             have h7c := (hb7'.block wr.heap.size l7).trans H7.out
             have hr := re4 HZ9.out hW
             exact mk_R3 HX.out hnx HY.out HDIS.out hbc h7c (Nat.le_refl _) hO hr.blk (by omega) (by omega) (.inl (lt_of_block HZ7.out)) (fun j hj _ => hr.oth j hj) hr.os hr.tape hr.output (Nat.le_of_eq hr.size.symm))
      case rest =>
        obtain ⟨B8, q, co, z1, Hx', rfl, rfl, rfl, hq8, hd7, ⟨hX', ⟨nowy, Fy, Ay, capy, Ly, KB, Kc, hny, hY'⟩, hdis'⟩, hch', hsub', ⟨h77, h78⟩, hcase⟩ := hcut
        have HCH2 := Lib.hid (show Chg (fun j => Gx j ∨ Gy j) w wc from HCH.out.trans (hch'.mono fun j _ hj => by
          rcases HPX.out j hj with e | e
          · exact .inl (.inl e)
          · exact .inr e))
        have HPX2 := Lib.hid (show ∀ j, Hx' j → Plus Gx w j from fun j hj => by
          rcases (hsub' j hj).1 with e | e
          · exact HPX.out j e
          · have := HCH.out.size; exact .inr (by omega))
        have HYL := Lib.hid (show ∀ j, Hy j → j < wr.heap.size from fun j hj => by obtain ⟨_, _, _, _, _, _, _, _, hY0⟩ := HY.out; exact hY0.lim j hj)
        clear l7 t0 t1 t2 t3 hlW lX7 HFX HB7 H7 hout hch' HX HY HDIS
        rcases hcase with ⟨ho, rfl, rfl⟩ | ⟨port, next', P', ho, rfl, rfl, rfl⟩
        · have HTW := Lib.hid (show Two wc Hx' Hy X Y Tx Ty at_ z.1 z.2 (some ⟨g5, off, none⟩) Kcap from ⟨hX', ⟨_, _, _, _, _, _, _, hny, hY'⟩, hdis'⟩)
          have HON := Lib.hid (step_none ho)
          clear ho hX' hY' hdis' hsub' hq8 hd7 h77 h78
          go_wp2_with fail
          go_roundw
          case rel => exact ⟨i + 1, by omega, by go_num, Hx', Hy, by rw [HS.out, HON.out]; exact HTW.out, HCH2.out, HPX2.out, HPY.out⟩
          case measure => simp [intOf]; omega
        · obtain ⟨_, hport⟩ := out_good GZ1.out.good (by omega) (by omega) ho
          have hoc := outer_code GZ1.out.code hport
          have hoh : 0 ≤ (outer z.1.n port).hi := GZ1.out.hi
          have HON := Lib.hid (step_some ho)
          generalize outer z.1.n port = q at *
          generalize hzz : ({ z.1 with next := next', P := P' } : PP) = z1 at *
          have hin := fun W (hbW : Below wc.heap.size wc W) => in_gen Ty z.2.n nowy z.2.next Fy Ay capy Ly z.2.P (k + i) at_ q d.port W (hY'.below hbW).tr hY'.core (GZ2.out.good.at nowy) (by omega) (by omega) hny (by omega) (fun j hj => by have := hY'.lim j (hY'.fG j hj).1; have := hbW.size; omega) hoh hoc (port_of HDC.out)
          have y0 := cell_of hY'.obj 0
          simp only [List.getElem?_toArray, List.getElem?_cons_zero] at y0
          have lY := lt_of_block hY'.obj
          obtain ⟨⟨t0, t1, t2, t3⟩, -⟩ := res4 hd7
          obtain ⟨⟨s0, s1, s2, s3⟩, -⟩ := res4 hq8
          have l7 := lt_of_block hd7
          have l8 := lt_of_block hq8
          have hn8 : ¬ Hy B8 := fun c => by have := HYL.out _ c; omega
          have hn7 : ¬ Hy wr.heap.size := fun c => by have := HYL.out _ c; omega
          have HN7 := Lib.hid hn7
          have HX' := Lib.hid hX'
          have HY' := Lib.hid hY'
          have HDIS' := Lib.hid hdis'
          have HQ8 := Lib.hid hq8
          have HN8 := Lib.hid hn8
          have hfy : ∀ j, Fy j → j < wc.heap.size ∧ Hy j ∧ j ≠ Y := fun j hj => ⟨hY'.lim j (hY'.fG j hj).1, (hY'.fG j hj).1, (hY'.fG j hj).2⟩
          have HFY := Lib.hid hfy
          clear hX' hY' hdis' hq8 hd7 hn8 hn7 hsub' ho hport hoc hoh hzz hfy
          generalize wr.heap.size = B7 at *
          go_upto_region 5 with (fail)
          go_cut [10, 11, 12, 18] from 18 to 76 (fun _ v11 _ v18 wd => R5 wc Hx' Hy X Y Tx Ty B8 at_ z1 z.2 q d.port (some ⟨g5, off, none⟩) Kcap i v11 v18 wd)
          case first =>
            go_region_held3 (fun w' => w'.cell? ⟨Y, 0, none⟩ = some (.pointer (some ⟨Ty, 0, none⟩)) ∧ w'.cell? ⟨B8, 0, none⟩ = some (.bool q.six) ∧ w'.cell? ⟨B8, 1, none⟩ = some (.int .u64 q.hi) ∧ w'.cell? ⟨B8, 2, none⟩ = some (.int .u64 q.lo) ∧ w'.cell? ⟨B8, 3, none⟩ = some (.int .i64 q.port) ∧ w'.cell? ⟨B7, 3, none⟩ = some (.int .i64 d.port))
              ((repeat' apply And.intro) <;> (first | (go_simp; done) | with_reducible assumption))
              (first
                | (go_at_call 14; refine Calls.mono (hin _ (by first | exact (Below.refl _ _).drew | exact ((Below.refl _ _).alloc (Nat.le_refl _) _).drew)) ?_; rintro e w2 hI0; obtain ⟨r, ok, rfl, hI⟩ := in_h hI0; have p0 : w2.cell? ⟨Y, 0, none⟩ = some (.pointer (some ⟨Ty, 0, none⟩)) := (hI.1.cell (by (try simp); omega) (fun hf => (HFY.out _ hf).2.2 rfl) 0).trans (by go_simp); have p1 : w2.cell? ⟨B8, 0, none⟩ = some (.bool q.six) := (hI.1.cell (by (try simp); omega) (fun hf => HN8.out (HFY.out _ hf).2.1) 0).trans (by go_simp); have p2 : w2.cell? ⟨B8, 1, none⟩ = some (.int .u64 q.hi) := (hI.1.cell (by (try simp); omega) (fun hf => HN8.out (HFY.out _ hf).2.1) 1).trans (by go_simp); have p3 : w2.cell? ⟨B8, 2, none⟩ = some (.int .u64 q.lo) := (hI.1.cell (by (try simp); omega) (fun hf => HN8.out (HFY.out _ hf).2.1) 2).trans (by go_simp); have p4 : w2.cell? ⟨B8, 3, none⟩ = some (.int .i64 q.port) := (hI.1.cell (by (try simp); omega) (fun hf => HN8.out (HFY.out _ hf).2.1) 3).trans (by go_simp); have p5 : w2.cell? ⟨B7, 3, none⟩ = some (.int .i64 d.port) := (hI.1.cell (by (try simp); omega) (fun hf => HN7.out (HFY.out _ hf).2.1) 3).trans (by go_simp); have lw2 : wc.heap.size ≤ w2.heap.size := (by have := hI.1.size; (try simp at this); omega); have lY2 : Y < w2.heap.size := (by omega); have l82 : B8 < w2.heap.size := (by omega); have l72 : B7 < w2.heap.size := (by omega); (try (have HZ9 : Hid (w2.heap[wc.heap.size]? = some (.cells #[.bool false, .int .u64 0, .int .u64 0, .int .i64 0] 42 (0, 0))) := Lib.hid ((hI.1.block wc.heap.size (by simp) (fun hf => by have := (HFY.out _ hf).1; omega)).trans (heap_alloc_new wc _)); obtain ⟨⟨z90, z91, z92, z93⟩, z94, z95, z96, z97⟩ := res4 HZ9.out))))
            all_goals (go_wp2_with fail; go_meet)
            all_goals clear hin
            all_goals first
              | exact mk_R5 HX'.out HY'.out HDIS'.out (Below.refl _ _).drew hI HQ8.out HN8.out (fun j hj => heap_alloc_old w2 _ (by omega)) rfl rfl rfl (by simp)
              | (generalize hW : World.setCell _ _ _ = W9
                 have hr := re4 HZ9.out hW
                 exact mk_R5 HX'.out HY'.out HDIS'.out ((Below.refl _ _).alloc (Nat.le_refl _) _).drew hI HQ8.out HN8.out (fun j hj => hr.oth j (by omega)) hr.os hr.tape hr.output (Nat.le_of_eq hr.size.symm))
          case rest =>
            obtain ⟨wd, rfl⟩ : ∃ wd, wd = wc := ⟨_, rfl⟩
            obtain ⟨ok, rfl, rfl, hq2, ⟨hX2, ⟨nowy2, Fy2, Ay2, capy2, Ly2, KB2, Kc2, hny2, hY2⟩, hdis2⟩, hch2, hok⟩ := hcut
            have HCH3 := Lib.hid (show Chg (fun j => Gx j ∨ Gy j) w wd from HCH2.out.trans (hch2.mono fun j _ hj => by
              rcases HPY.out j hj with e | e
              · exact .inl (.inr e)
              · exact .inr e))
            clear hin y0 lY t0 t1 t2 t3 s0 s1 s2 s3 l7 l8 hch2 HX' HY' HDIS' HQ8 HFY HYL HCH2 h77 h78
            cases ok
            · have HTW := Lib.hid (show Two wd Hx' Hy X Y Tx Ty at_ z1 _ (some ⟨g5, off, none⟩) Kcap from ⟨hX2, ⟨_, _, _, _, _, _, _, hny2, hY2⟩, hdis2⟩)
              have HON2 := Lib.hid (hear_no hok)
              clear hX2 hY2 hdis2 hq2 hok
              go_wp2_with fail
              go_roundw
              case rel => exact ⟨i + 1, by omega, by go_num, Hx', Hy, by rw [HS.out, HON.out, HON2.out]; exact HTW.out, HCH3.out, HPX2.out, HPY.out⟩
              case measure => simp [intOf]; omega
            · have HON2 := Lib.hid (hear_yes hok)
              have lY := lt_of_block hY2.obj
              have lB := lt_of_block hq2
              have y2 := cell_of hY2.obj 2
              simp only [List.getElem?_toArray, List.getElem?_cons_zero, List.getElem?_cons_succ] at y2
              have yf : wd.frozen? ⟨Y, 2, none⟩ = false := by simp [World.frozen?, hY2.obj]
              have HX2 := Lib.hid hX2
              have HY2 := Lib.hid hY2
              have HDIS2 := Lib.hid hdis2
              have HQ2 := Lib.hid hq2
              clear hX2 hY2 hdis2 hq2 hok
              by_cases hz : z.2.heard = 0
              · have hzb : (z.2.heard == 0) = true := by simpa using hz
                rw [if_pos hz] at HON2
                go_upto_region 9 with (fail)
                clear y2 yf
                generalize hW : World.setCell _ _ _ = we
                have HYe := Lib.hid (HY2.out.hears hW)
                have hoth : ∀ j, j ≠ Y → we.heap[j]? = wd.heap[j]? := fun j hj => by rw [← hW, heap_set_other hj]
                have hsze : we.heap.size = wd.heap.size := by rw [← hW]; simp
                have HQe := Lib.hid ((hoth B8 (fun e => HN8.out (by rw [e]; exact HY2.out.gX))).trans HQ2.out)
                have HXe := Lib.hid (show ∃ now F A cap L, now ≤ at_ ∧ PeerX we Hx' X Tx now z1 F A cap L (some ⟨g5, off, none⟩) Kcap from by
                  obtain ⟨n1, F1, A1, c1, L1, hn1, hX1⟩ := HX2.out
                  exact ⟨n1, F1, A1, c1, L1, hn1, hX1.keep (fun j hj => hoth j (fun e => HDIS2.out j hj (by rw [e]; exact HY2.out.gX))) (by omega)⟩)
                have HCHe := Lib.hid (show Chg (fun j => Gx j ∨ Gy j) w we from by
                  rw [← hW]
                  exact HCH3.out.set (by
                    rcases HPY.out Y HY2.out.gX with e | e
                    · exact .inl (.inr e)
                    · exact .inr e) _ _)
                clear hW hoth hsze HX2 HY2 HQ2 HCH3 lY lB
                obtain ⟨KBn, hKBn⟩ : ∃ m, m = z.2.K.length := ⟨_, rfl⟩
                have k1 := cell_of HYe.out.obj 1
                simp only [List.getElem?_toArray, List.getElem?_cons_zero, List.getElem?_cons_succ] at k1
                obtain ⟨⟨s0, s1, s2, s3⟩, -⟩ := res4 HQe.out
                have lYe := lt_of_block HYe.out.obj
                have lBe := lt_of_block HQe.out
                have hlen2 : z.2.K.length ≤ 900 := by have := GZ2.out.len; omega
                have hhas := hasSpot_any KB2 Kc2 z.2.K q we.drew ((spots_at HYe.out.ks).below (Below.refl _ _).drew) (by omega)
                cases hq : z.2.K.any (fun x => q.beq x)
                · rw [hq] at hhas
                  have HK := Lib.hid hq
                  clear hq
                  go_region_held3 (fun w' => w'.cell? ⟨Y, 1, none⟩ = some (.slice KB2 z.2.K.length Kc2) ∧ w'.cell? ⟨B8, 0, none⟩ = some (.bool q.six) ∧ w'.cell? ⟨B8, 1, none⟩ = some (.int .u64 q.hi) ∧ w'.cell? ⟨B8, 2, none⟩ = some (.int .u64 q.lo) ∧ w'.cell? ⟨B8, 3, none⟩ = some (.int .i64 q.port))
                    ((repeat' apply And.intro) <;> (repeat (first | with_reducible assumption | rw [cell_drew] | rw [Below.cell hb1 (by simp; omega)])))
                    ((go_at_call 37; refine hhas.mono ?_; rintro e w9 ⟨rfl, hb1⟩))
                  have hb9 := drewB hb1
                  have hY9 := HYe.out.below hb9
                  obtain ⟨nowx9, Fx9, Ax9, capx9, Lx9, hnx9, hX9⟩ := HXe.out
                  have hX9 := hX9.below hb9
                  have HCH9 := Lib.hid (show Chg (fun j => Gx j ∨ Gy j) w w9 from HCHe.out.trans (Chg.of_below hb9))
                  have hq9 := (hb9.block B8 lBe).trans HQe.out
                  obtain ⟨⟨x0, x1, x2, x3⟩, -⟩ := res4 hq9
                  have k1' := cell_of hY9.obj 1
                  simp only [List.getElem?_toArray, List.getElem?_cons_zero, List.getElem?_cons_succ] at k1'
                  have f1' : w9.frozen? ⟨Y, 1, none⟩ = false := by simp [World.frozen?, hY9.obj]
                  have lY9 := lt_of_block hY9.obj
                  have lB9 := lt_of_block hq9
                  have hsT : (Value.slice KB2 z.2.K.length Kc2).ownBlock ≠ some Y := fun c => (hY9.kb Y c).2.1 rfl
                  have hks9 := hY9.ks
                  have HY9 := Lib.hid hY9
                  have HX9 := Lib.hid hX9
                  clear hb1 hb9 hY9 hX9 hhas k1 s0 s1 s2 s3 lYe lBe HYe HXe HQe HCHe hq9
                  go_wp2_with fail
                  obtain ⟨i0, hi0, hz0, hz1, hz2⟩ := info_parts Tryz.infoSpot
                  have n0 := World.new_ne w9 _ x0
                  have n4 := World.new_ne w9 _ k1'
                  go_region_law ((refine step_append_lies _ (by rfl) _ _ 95 (by rfl) 0 42 i0 _ 4 32 Tryz.underlying95 hi0 hz0 hz1 hz2 rfl (by omega) (.slice KB2 z.2.K.length Kc2) z.2.K.length (spotsC z.2.K) (by rfl) ((hks9.alloc _).drew) ⟨w9.heap.size, 0, none⟩ 1 1 [.bool q.six, .int .u64 q.hi, .int .u64 q.lo, .int .i64 q.port] (by rfl) (by rfl) (World.news_of_block (cs := #[.bool q.six, .int .u64 q.hi, .int .u64 q.lo, .int .i64 q.port]) (t := 42) (fr := (0, 0)) (heap_alloc_new w9 _)) (by simp [Value.oneCell']) (by omega) (by unfold maxLen; omega) (by omega) (Nat.zero_le _) (w9.heap.size + 1) (by simp) ?_; intro g2 cap2 w10 hown hgrow hat hlt; have zz := appended_far hgrow lY9 (Ne.symm hsT) 1; rw [k1', f1'] at zz))
                  all_goals
                    generalize hW : World.setCell _ _ _ = W9
                    have hgr9 := grown_box hgrow
                    have hPK := HY9.out.knows (s := q) hgr9 (by rw [spotsC_snoc]; exact hown) (by
                      rcases hat with c | c
                      · exact .inl c
                      · exact .inr (by omega)) hW
                    have hsz9 : w9.heap.size ≤ W9.heap.size := by rw [← hW]; have := hgr9.size; simpa using this
                    have hXn := HX9.out.keep (w' := W9) (fun j hj => by
                      rw [← hW, heap_set_other (fun e => HDIS2.out j hj (by rw [e]; exact HY9.out.gX))]
                      exact hgr9.block j (HX9.out.lim j hj) (fun e => HDIS2.out j hj (HY9.out.kb j e.symm).1)) hsz9
                    have HTW := Lib.hid (show Two W9 Hx' (fun j => Plus Hy w9 j ∧ j < W9.heap.size) X Y Tx Ty at_ z1 _ (some ⟨g5, off, none⟩) Kcap from ⟨⟨_, _, _, _, _, hnx9, hXn⟩, ⟨_, _, _, _, _, _, _, hny2, hPK⟩, fun j hj hh => by
                      rcases hh with ⟨hh | hh, _⟩
                      · exact HDIS2.out j hj hh
                      · have := HX9.out.lim j hj; omega⟩)
                    have HCHn := Lib.hid (show Chg (fun j => Gx j ∨ Gy j) w W9 from by
                      rw [← hW]
                      refine (HCH9.out.trans (Chg.of_grown hgr9 fun j e _ => ?_)).set ?_ _ _
                      · rcases HPY.out j (HY9.out.kb j e).1 with e | e
                        · exact .inl (.inr e)
                        · exact .inr e
                      · rcases HPY.out Y HY9.out.gX with e | e
                        · exact .inl (.inr e)
                        · exact .inr e)
                    have HPYn := Lib.hid (show ∀ j, (Plus Hy w9 j ∧ j < W9.heap.size) → Plus Gy w j from fun j hj => by
                      rcases hj with ⟨hj | hj, _⟩
                      · exact HPY.out j hj
                      · have := HCH9.out.size; exact .inr (by omega))
                    clear hW hown hgrow hat hlt hgr9 hPK hsz9 hXn zz x0 x1 x2 x3 k1' f1' n0 n4 hks9 HY9 HX9 HCH9
                    go_wp2_with fail
                    go_roundw
                    case rel => exact ⟨i + 1, by omega, by go_num, Hx', _, by rw [HS.out, HON.out, HON2.out, HK.out, if_neg (by simp)]; exact HTW.out, HCHn.out, HPX2.out, HPYn.out⟩
                    case measure => simp [intOf]; omega
                · rw [hq] at hhas
                  have HK := Lib.hid hq
                  clear hq
                  go_region_held3 (fun w' => w'.cell? ⟨Y, 1, none⟩ = some (.slice KB2 z.2.K.length Kc2) ∧ w'.cell? ⟨B8, 0, none⟩ = some (.bool q.six) ∧ w'.cell? ⟨B8, 1, none⟩ = some (.int .u64 q.hi) ∧ w'.cell? ⟨B8, 2, none⟩ = some (.int .u64 q.lo) ∧ w'.cell? ⟨B8, 3, none⟩ = some (.int .i64 q.port))
                    ((repeat' apply And.intro) <;> (repeat (first | with_reducible assumption | rw [cell_drew] | rw [Below.cell hb1 (by simp; omega)])))
                    ((go_at_call 37; refine hhas.mono ?_; rintro e w9 ⟨rfl, hb1⟩))
                  have hb9 := drewB hb1
                  have hY9 := HYe.out.below hb9
                  obtain ⟨nowx9, Fx9, Ax9, capx9, Lx9, hnx9, hX9⟩ := HXe.out
                  have hX9 := hX9.below hb9
                  have HTW := Lib.hid (show Two w9 Hx' Hy X Y Tx Ty at_ z1 _ (some ⟨g5, off, none⟩) Kcap from ⟨⟨_, _, _, _, _, hnx9, hX9⟩, ⟨_, _, _, _, _, _, _, hny2, hY9⟩, HDIS2.out⟩)
                  have HCH9 := Lib.hid (show Chg (fun j => Gx j ∨ Gy j) w w9 from HCHe.out.trans (Chg.of_below hb9))
                  clear hb1 hb9 hY9 hX9 hhas k1 s0 s1 s2 s3 lYe lBe HYe HXe HQe HCHe
                  go_wp2_with fail
                  go_roundw
                  case rel => exact ⟨i + 1, by omega, by go_num, Hx', Hy, by rw [HS.out, HON.out, HON2.out, HK.out, if_pos rfl]; exact HTW.out, HCH9.out, HPX2.out, HPY.out⟩
                  case measure => simp [intOf]; omega
              · have hzb : (z.2.heard == 0) = false := by simpa using hz
                rw [if_neg hz] at HON2
                go_upto_region 9 with (fail)
                clear y2 yf
                obtain ⟨we, rfl⟩ : ∃ we, we = wd := ⟨_, rfl⟩
                have HYe := HY2
                have HXe := HX2
                have HQe := HQ2
                have HCHe := HCH3
                clear HX2 HY2 HQ2 HCH3 lY lB
                obtain ⟨KBn, hKBn⟩ : ∃ m, m = z.2.K.length := ⟨_, rfl⟩
                have k1 := cell_of HYe.out.obj 1
                simp only [List.getElem?_toArray, List.getElem?_cons_zero, List.getElem?_cons_succ] at k1
                obtain ⟨⟨s0, s1, s2, s3⟩, -⟩ := res4 HQe.out
                have lYe := lt_of_block HYe.out.obj
                have lBe := lt_of_block HQe.out
                have hlen2 : z.2.K.length ≤ 900 := by have := GZ2.out.len; omega
                have hhas := hasSpot_any KB2 Kc2 z.2.K q we.drew ((spots_at HYe.out.ks).below (Below.refl _ _).drew) (by omega)
                cases hq : z.2.K.any (fun x => q.beq x)
                · rw [hq] at hhas
                  have HK := Lib.hid hq
                  clear hq
                  go_region_held3 (fun w' => w'.cell? ⟨Y, 1, none⟩ = some (.slice KB2 z.2.K.length Kc2) ∧ w'.cell? ⟨B8, 0, none⟩ = some (.bool q.six) ∧ w'.cell? ⟨B8, 1, none⟩ = some (.int .u64 q.hi) ∧ w'.cell? ⟨B8, 2, none⟩ = some (.int .u64 q.lo) ∧ w'.cell? ⟨B8, 3, none⟩ = some (.int .i64 q.port))
                    ((repeat' apply And.intro) <;> (repeat (first | with_reducible assumption | rw [cell_drew] | rw [Below.cell hb1 (by simp; omega)])))
                    ((go_at_call 37; refine hhas.mono ?_; rintro e w9 ⟨rfl, hb1⟩))
                  have hb9 := drewB hb1
                  have hY9 := HYe.out.below hb9
                  obtain ⟨nowx9, Fx9, Ax9, capx9, Lx9, hnx9, hX9⟩ := HXe.out
                  have hX9 := hX9.below hb9
                  have HCH9 := Lib.hid (show Chg (fun j => Gx j ∨ Gy j) w w9 from HCHe.out.trans (Chg.of_below hb9))
                  have hq9 := (hb9.block B8 lBe).trans HQe.out
                  obtain ⟨⟨x0, x1, x2, x3⟩, -⟩ := res4 hq9
                  have k1' := cell_of hY9.obj 1
                  simp only [List.getElem?_toArray, List.getElem?_cons_zero, List.getElem?_cons_succ] at k1'
                  have f1' : w9.frozen? ⟨Y, 1, none⟩ = false := by simp [World.frozen?, hY9.obj]
                  have lY9 := lt_of_block hY9.obj
                  have lB9 := lt_of_block hq9
                  have hsT : (Value.slice KB2 z.2.K.length Kc2).ownBlock ≠ some Y := fun c => (hY9.kb Y c).2.1 rfl
                  have hks9 := hY9.ks
                  have HY9 := Lib.hid hY9
                  have HX9 := Lib.hid hX9
                  clear hb1 hb9 hY9 hX9 hhas k1 s0 s1 s2 s3 lYe lBe HYe HXe HQe HCHe hq9
                  go_wp2_with fail
                  obtain ⟨i0, hi0, hz0, hz1, hz2⟩ := info_parts Tryz.infoSpot
                  have n0 := World.new_ne w9 _ x0
                  have n4 := World.new_ne w9 _ k1'
                  go_region_law ((refine step_append_lies _ (by rfl) _ _ 95 (by rfl) 0 42 i0 _ 4 32 Tryz.underlying95 hi0 hz0 hz1 hz2 rfl (by omega) (.slice KB2 z.2.K.length Kc2) z.2.K.length (spotsC z.2.K) (by rfl) ((hks9.alloc _).drew) ⟨w9.heap.size, 0, none⟩ 1 1 [.bool q.six, .int .u64 q.hi, .int .u64 q.lo, .int .i64 q.port] (by rfl) (by rfl) (World.news_of_block (cs := #[.bool q.six, .int .u64 q.hi, .int .u64 q.lo, .int .i64 q.port]) (t := 42) (fr := (0, 0)) (heap_alloc_new w9 _)) (by simp [Value.oneCell']) (by omega) (by unfold maxLen; omega) (by omega) (Nat.zero_le _) (w9.heap.size + 1) (by simp) ?_; intro g2 cap2 w10 hown hgrow hat hlt; have zz := appended_far hgrow lY9 (Ne.symm hsT) 1; rw [k1', f1'] at zz))
                  all_goals
                    generalize hW : World.setCell _ _ _ = W9
                    have hgr9 := grown_box hgrow
                    have hPK := HY9.out.knows (s := q) hgr9 (by rw [spotsC_snoc]; exact hown) (by
                      rcases hat with c | c
                      · exact .inl c
                      · exact .inr (by omega)) hW
                    have hsz9 : w9.heap.size ≤ W9.heap.size := by rw [← hW]; have := hgr9.size; simpa using this
                    have hXn := HX9.out.keep (w' := W9) (fun j hj => by
                      rw [← hW, heap_set_other (fun e => HDIS2.out j hj (by rw [e]; exact HY9.out.gX))]
                      exact hgr9.block j (HX9.out.lim j hj) (fun e => HDIS2.out j hj (HY9.out.kb j e.symm).1)) hsz9
                    have HTW := Lib.hid (show Two W9 Hx' (fun j => Plus Hy w9 j ∧ j < W9.heap.size) X Y Tx Ty at_ z1 _ (some ⟨g5, off, none⟩) Kcap from ⟨⟨_, _, _, _, _, hnx9, hXn⟩, ⟨_, _, _, _, _, _, _, hny2, hPK⟩, fun j hj hh => by
                      rcases hh with ⟨hh | hh, _⟩
                      · exact HDIS2.out j hj hh
                      · have := HX9.out.lim j hj; omega⟩)
                    have HCHn := Lib.hid (show Chg (fun j => Gx j ∨ Gy j) w W9 from by
                      rw [← hW]
                      refine (HCH9.out.trans (Chg.of_grown hgr9 fun j e _ => ?_)).set ?_ _ _
                      · rcases HPY.out j (HY9.out.kb j e).1 with e | e
                        · exact .inl (.inr e)
                        · exact .inr e
                      · rcases HPY.out Y HY9.out.gX with e | e
                        · exact .inl (.inr e)
                        · exact .inr e)
                    have HPYn := Lib.hid (show ∀ j, (Plus Hy w9 j ∧ j < W9.heap.size) → Plus Gy w j from fun j hj => by
                      rcases hj with ⟨hj | hj, _⟩
                      · exact HPY.out j hj
                      · have := HCH9.out.size; exact .inr (by omega))
                    clear hW hown hgrow hat hlt hgr9 hPK hsz9 hXn zz x0 x1 x2 x3 k1' f1' n0 n4 hks9 HY9 HX9 HCH9
                    go_wp2_with fail
                    go_roundw
                    case rel => exact ⟨i + 1, by omega, by go_num, Hx', _, by rw [HS.out, HON.out, HON2.out, HK.out, if_neg (by simp)]; exact HTW.out, HCHn.out, HPX2.out, HPYn.out⟩
                    case measure => simp [intOf]; omega
                · rw [hq] at hhas
                  have HK := Lib.hid hq
                  clear hq
                  go_region_held3 (fun w' => w'.cell? ⟨Y, 1, none⟩ = some (.slice KB2 z.2.K.length Kc2) ∧ w'.cell? ⟨B8, 0, none⟩ = some (.bool q.six) ∧ w'.cell? ⟨B8, 1, none⟩ = some (.int .u64 q.hi) ∧ w'.cell? ⟨B8, 2, none⟩ = some (.int .u64 q.lo) ∧ w'.cell? ⟨B8, 3, none⟩ = some (.int .i64 q.port))
                    ((repeat' apply And.intro) <;> (repeat (first | with_reducible assumption | rw [cell_drew] | rw [Below.cell hb1 (by simp; omega)])))
                    ((go_at_call 37; refine hhas.mono ?_; rintro e w9 ⟨rfl, hb1⟩))
                  have hb9 := drewB hb1
                  have hY9 := HYe.out.below hb9
                  obtain ⟨nowx9, Fx9, Ax9, capx9, Lx9, hnx9, hX9⟩ := HXe.out
                  have hX9 := hX9.below hb9
                  have HTW := Lib.hid (show Two w9 Hx' Hy X Y Tx Ty at_ z1 _ (some ⟨g5, off, none⟩) Kcap from ⟨⟨_, _, _, _, _, hnx9, hX9⟩, ⟨_, _, _, _, _, _, _, hny2, hY9⟩, HDIS2.out⟩)
                  have HCH9 := Lib.hid (show Chg (fun j => Gx j ∨ Gy j) w w9 from HCHe.out.trans (Chg.of_below hb9))
                  clear hb1 hb9 hY9 hX9 hhas k1 s0 s1 s2 s3 lYe lBe HYe HXe HQe HCHe
                  go_wp2_with fail
                  go_roundw
                  case rel => exact ⟨i + 1, by omega, by go_num, Hx', Hy, by rw [HS.out, HON.out, HON2.out, HK.out, if_pos rfl]; exact HTW.out, HCH9.out, HPX2.out, HPY.out⟩
                  case measure => simp [intOf]; omega
    · have hdl : decide (i < x.K.length) = false := by simpa using hlt
      have hie : i = x.K.length := by omega
      subst hie
      go_wp2_with fail
      go_end0
      exact ⟨rfl, HI2.out⟩
end Go.Proofs.YtphjgjcbolmdiaaGreatDoor
