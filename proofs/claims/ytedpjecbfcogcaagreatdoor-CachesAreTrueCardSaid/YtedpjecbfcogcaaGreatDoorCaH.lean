/- Caches: Put. -/
import Derived.Test.YtedpjecbfcogcaaGreatDoorCaG
import Derived.Deep.AppendLies
import Derived.Deep.RegionLaw
import Derived.Deep.Cut
import Derived.Deep.CutRange
namespace Go.Proofs.YtedpjecbfcogcaaGreatDoor
open Go.RowKit Go.Hw Go.Shelf

/-- The row that is handed in. -/
structure PutRow (w : World) (T : Nat) (A rA : Option Addr) (R : List Rec) : Prop where
  row : rcAt w rA R
  nil : rA = none → R = []
  ne : ∀ a, rA = some a → a.block ≠ T ∧ aB A ≠ some a.block
  few : R.length ≤ 50
  ok : ∀ r ∈ R, RecOk r
theorem PutRow.chg {w w' : World} {T : Nat} {A rA : Option Addr} {R : List Rec} (h : PutRow w T A rA R) (hc : Rchg (CaF T A) w w') : PutRow w' T A rA R :=
  ⟨h.row.kept hc.size fun a ha hl => hc.block _ hl (fun c => by
    obtain ⟨h2, h3⟩ := h.ne a ha
    rcases c with c | c
    · exact h2 c
    · exact h3 c), h.nil, h.ne, h.few, h.ok⟩
theorem PutRow.below {w w' : World} {T : Nat} {A rA : Option Addr} {R : List Rec} (h : PutRow w T A rA R) (hb : Below w.heap.size w w') : PutRow w' T A rA R := h.chg (Rchg.of_below hb)

/-- What Put leaves behind. -/
def PutOut (w : World) (T : Nat) (most at_ calls : Int) (A : Option Addr) (L : List Kp) (n : ByteArray) (R : List Rec) (e : Ending) (w' : World) : Prop :=
  ∃ c : Int, e = .returned (.int .i64 c) ∧ (c ≠ 0 → Below w.heap.size w w') ∧
    (c = 0 → (∀ r ∈ R, 0 ≤ r.life ∧ r.life ≤ 1000000) ∧ ∃ A' cap' L', CaAt w' T most at_ (calls + 1) A' cap' L' ∧ Rchg (CaF T A) w w' ∧ (∀ k, aB A' = some k → aB A = some k ∨ w.heap.size ≤ k) ∧ (L'.length : Int) ≤ most ∧
      ∀ x ∈ L', KpRow w' T A' x ∧ ((x ∈ L ∧ goesB at_ x = false ∧ sameB n 1 x = false) ∨ (x.name = n ∧ x.kind = 1 ∧ x.put = at_ ∧ x.recs = R ∧ x.life ≤ 30 ∧ (∀ r ∈ R, x.life ≤ r.life) ∧ ∀ a, x.lA = some a → w.heap.size ≤ a.block)))

theorem bqK {B : Nat} {a w : World} (h : Below B a w) (n : Nat) : Below B a (w.drewN n) := ⟨h.os, h.tape, h.output, h.size, h.block⟩
theorem rqK (F : Nat → Prop) (w : World) (n : Nat) : Rchg F w (w.drewN n) := ⟨rfl, rfl, rfl, Nat.le_refl _, fun _ _ _ => rfl⟩
def newKp (n : ByteArray) (at_ lf calls : Int) (vA : Option Addr) (vcap : Nat) (R : List Rec) : Kp := ⟨n, 1, at_, lf, calls + 1, vA, vcap, R⟩
/-- Behind the append. -/
def PutMid (w : World) (T : Nat) (most at_ calls : Int) (A : Option Addr) (n : ByteArray) (R : List Rec) (lf : Int) (K2 : List Kp) (wc : World) : Prop :=
  ∃ g2 cap2 vA vcap, CaAt wc T most at_ (calls + 1) (some ⟨g2, 0, none⟩) cap2 (K2 ++ [newKp n at_ lf calls vA vcap R]) ∧ Rchg (CaF T A) w wc ∧ (aB A = some g2 ∨ w.heap.size ≤ g2) ∧ (∀ a, vA = some a → w.heap.size ≤ a.block) ∧ ∀ x ∈ K2 ++ [newKp n at_ lf calls vA vcap R], KpRow wc T (some ⟨g2, 0, none⟩) x
/-- What the clone of the row leaves. -/
structure PutCl (W6 w9 : World) (T Q : Nat) (most at_ calls : Int) (A : Option Addr) (cap : Nat) (K2 : List Kp) (n : ByteArray) (R : List Rec) (vA : Option Addr) (vcap : Nat) : Prop where
  below : Below W6.heap.size W6 w9
  own : rcOwn w9 W6.heap.size (.slice vA R.length vcap) R
  t0 : w9.cell? ⟨T, 0, none⟩ = some (.int .i64 most)
  t2 : w9.cell? ⟨T, 2, none⟩ = some (.int .i64 (calls + 1))
  t3 : w9.cell? ⟨T, 3, none⟩ = some (.slice A K2.length cap)
  q0 : w9.cell? ⟨Q, 0, none⟩ = some (.string n)
  q1 : w9.cell? ⟨Q, 1, none⟩ = some (.int .i64 1)
  row : kpOwn w9 0 (.slice A K2.length cap) K2
  lT : T < w9.heap.size
  lQ : Q < w9.heap.size
  fT : w9.frozen? ⟨T, 3, none⟩ = false
theorem put_far {w9 w10 : World} {o : Obj} {row : Option Nat} {g : Nat} (h : (w9.alloc o).grownBy w10 row) (hg : g < w9.heap.size) (hr : some g ≠ row) (j : Nat) : w10.cell? ⟨g, j, none⟩ = w9.cell? ⟨g, j, none⟩ ∧ w10.frozen? ⟨g, j, none⟩ = w9.frozen? ⟨g, j, none⟩ := by
  have h1 : w10.heap[g]? = w9.heap[g]? := (h.block g (by simp; omega) hr).trans (heap_alloc_old w9 o hg)
  exact ⟨World.cell?_of_block (w := w9) h1, World.frozen?_of_block (w := w9) h1⟩
theorem put_end {w W3 W6 w9 w10 W11 : World} {T Q : Nat} {most at_ calls lf : Int} {A : Option Addr} {cap g2 cap2 : Nat} {K2 L : List Kp} {n : ByteArray} {R : List Rec} {vA : Option Addr} {vcap : Nat} {o : Obj}
    (hca : CaAt W6 T most at_ (calls + 1) A cap K2) (hch : Rchg (CaF T A) w W6) (_hs3 : w.heap.size ≤ W3.heap.size) (h36 : Rchg (CaF T A) W3 W6) (hAl : ∀ k, aB A = some k → k < w.heap.size) (_hTw : T < w.heap.size)
    (hK2 : ∀ e ∈ K2, e ∈ L) (hR3 : ∀ e ∈ L, KpRow W3 T A e) (hlv : ∀ r ∈ R, 0 ≤ r.life ∧ r.life ≤ 1000000) (hfew : R.length ≤ 50)
    (h9 : PutCl W6 w9 T Q most at_ calls A cap K2 n R vA vcap)
    (hown : w10.ownsRow 0 66 6 (.slice (some ⟨g2, 0, none⟩) (K2.length + 1) cap2) (K2.length + 1) (rwC kpC K2 ++ [.string n, .int .i64 1, .int .i64 at_, .int .i64 lf, .int .i64 (calls + 1), .slice vA R.length vcap]))
    (hgrow : (w9.alloc o).grownBy w10 (Value.slice A K2.length cap).ownBlock) (hat : (Value.slice A K2.length cap).ownBlock = some g2 ∨ g2 = w9.heap.size + 1)
    (hW : w10.setCell ⟨T, 3, none⟩ (.slice (some ⟨g2, 0, none⟩) (K2.length + 1) cap2) = W11) : PutMid w T most at_ calls A n R lf K2 W11 := by
  have hg9 : w9.grownBy w10 (aB A) := by
    rw [own_aB] at hgrow
    exact (World.grownBy_alloc w9 o _).andThen hgrow (fun _ h => .inr h)
  rw [own_aB] at hat
  have hT9 : w9.heap[T]? = some (caObj most at_ (calls + 1) (.slice A K2.length cap)) := (h9.below.block T hca.lt).trans hca.blk
  have hT10 : w10.heap[T]? = some (caObj most at_ (calls + 1) (.slice A K2.length cap)) := (hg9.block T h9.lT (fun c => hca.ne c.symm)).trans hT9
  have hlen : (K2 ++ [newKp n at_ lf calls vA vcap R]).length = K2.length + 1 := by simp
  have hgT : g2 ≠ T := by
    rcases hat with c | c
    · intro e; exact hca.ne (by rw [c, e])
    · have := h9.lT; omega
  have hs6 := hch.size
  have hs9 := h9.below.size
  have hs36 := h36.size
  have hgw : aB A = some g2 ∨ w.heap.size ≤ g2 := by
    rcases hat with c | c
    · exact .inl c
    · right; omega
  have hc69 : Rchg (CaF T A) W6 w10 := (Rchg.of_below (F := CaF T A) h9.below).trans (Rchg.of_grown (F := CaF T A) hg9 (fun k e _ => .inr e)) (fun _ _ h => h)
  have hc6 : Rchg (CaF T A) W6 W11 := by rw [← hW]; exact hc69.set (fun _ => .inl rfl) _ _
  have h3 : Rchg (CaF T A) W3 W11 := h36.trans hc6 (fun _ _ h => h)
  refine ⟨g2, cap2, vA, vcap, ⟨?_, ?_, fun c => hgT (Option.some.inj c)⟩, hch.trans hc6 (fun _ _ h => h), hgw, fun a ha => by have := (h9.own.lt a.block (by rw [own_aB, ha]; rfl)).1; omega, ?_⟩
  · rw [hlen, ← hW]; exact ca_set3 hT10 _
  · unfold kpOwn
    rw [hlen, show rwC kpC (K2 ++ [newKp n at_ lf calls vA vcap R]) = rwC kpC K2 ++ [.string n, .int .i64 1, .int .i64 at_, .int .i64 lf, .int .i64 (calls + 1), .slice vA R.length vcap] by simp [rwC, kpC, newKp], ← hW]
    exact rw_same hown fun k hk => Below.heap_setCell _ _ _ _ (fun c => hgT (by have e : g2 = k := Option.some.inj hk; rw [e]; exact c))
  · intro x hx
    rcases List.mem_append.1 hx with hx | hx
    · have hr := (hR3 x (hK2 x hx)).chg h3
      refine ⟨hr.row, hr.nil, fun a ha => ?_, hr.few, hr.lives⟩
      obtain ⟨h1, h2, h4⟩ := (hR3 x (hK2 x hx)).ne a ha
      obtain ⟨h1', _, _⟩ := hr.ne a ha
      refine ⟨h1', h2, fun c => ?_⟩
      have c' : g2 = a.block := Option.some.inj c
      rcases hat with e | e
      · exact h4 (by rw [e, c'])
      · omega
    · have hx' := List.mem_singleton.1 hx
      subst hx'
      have hva : ∀ a, vA = some a → W6.heap.size ≤ a.block ∧ a.block < w9.heap.size := fun a ha => by
        have := h9.own.lt a.block (by rw [own_aB, ha]; rfl)
        exact this
      have hrow9 : rcAt w9 vA R := rw_at' rcC_len h9.own
      refine ⟨?_, ?_, fun a ha => ?_, hfew, hlv⟩
      · show rcAt W11 vA R
        refine hrow9.kept (by rw [← hW]; have := hg9.size; simpa using this) fun a ha hl => ?_
        obtain ⟨h1, h2⟩ := hva a ha
        rw [← hW, Below.heap_setCell _ _ _ _ (by show a.block ≠ T; have := hca.lt; omega)]
        exact hg9.block _ h2 (fun c => by have := hAl _ c.symm; omega)
      · intro e
        rcases h9.own.2 with ⟨h1, h2⟩ | ⟨g, cap', cur, h1, _⟩
        · exact List.length_eq_zero_iff.1 h2
        · injection h1 with h1
          rw [show vA = none from e] at h1
          cases h1
      · obtain ⟨h1, h2⟩ := hva a ha
        refine ⟨?_, ?_, fun c => ?_⟩
        · rw [← hW]; have := hg9.size; simp; omega
        · have := hca.lt; omega
        · have c' : g2 = a.block := Option.some.inj c
          rcases hat with e | e
          · have := hAl g2 e; omega
          · omega

set_option maxRecDepth 100000 in
set_option maxHeartbeats 4000000 in
theorem putK (T : Nat) (most now calls : Int) (A : Option Addr) (cap : Nat) (L : List Kp) (at_ m : Int) (n : ByteArray) (rA : Option Addr) (rcap : Nat) (R : List Rec) (w : World) (h : CaAt w T most now calls A cap L) (hlm0 : (L.length : Int) ≤ most) (hl : L.length ≤ 1000) (hnow : now ≤ at_) (h0 : 0 ≤ at_) (h1 : at_ ≤ 1000000) (hc0 : 0 ≤ calls) (hc1 : calls ≤ 1000000) (hL : KpIn L)
    (hR : ∀ e ∈ L, KpRow w T A e) (hp : PutRow w T A rA R) (hn : NameOk n) (hm : w.cell? ⟨2, 0, none⟩ = some (.int .i64 m)) :
    Calls Tryz.prog 11 #[.pointer (some ⟨T, 0, none⟩), .int .i64 at_, .string n, .int .i64 1, .slice rA R.length rcap, .int .i64 30] w (PutOut w T most at_ calls A L n R) := by
  have hlm := World.block_lt_of_cell? _ _ hm
  have hTl := h.lt
  have hAl := fun k (hk : aB A = some k) => h.ltA hk
  have HN := Lib.hid hn
  have H := Lib.hid h
  have HM := Lib.hid hm
  have HR := Lib.hid hR
  have HL := Lib.hid hL
  have HP := Lib.hid hp
  have HAL := Lib.hid hAl
  have hfew := hp.few
  clear h hm hR hn hL hAl hp
  go_enter Tryz.func11, Tryz.ntmps11
  go_wp2_with fail
  refine (nameFaultK T most now calls _ at_ m n w H.out.blk hnow h0 h1 HN.out HM.out).mono ?_
  rintro e W1 ⟨rfl, hb1⟩
  have HB1 := Lib.hid hb1
  have d50 : decide ((R.length : Int) > 50) = false := by simp; omega
  clear hb1
  go_wp2_with fail
  go_loopw [36] (fun v36 wr => ∃ k : Nat, k ≤ R.length ∧ v36 = .int .i64 k ∧ Below w.heap.size w wr ∧ ∀ j, j < k → 0 ≤ (R.getD j noRec).life ∧ (R.getD j noRec).life ≤ 1000000) (fun v36 _ => R.length - (intOf v36).toNat)
  case atStart => exact ⟨0, by omega, rfl, HB1.out, fun j hj => by omega⟩
  case round =>
    obtain ⟨k, hk, rfl, hb, hlv⟩ := hrel
    by_cases hlt : k < R.length
    · have hpr := HP.out.below hb
      obtain ⟨g5, off, rfl, hgB, hcc⟩ := hpr.row k hlt
      obtain ⟨c0, c1, c2, c3, c4, c5, c6, c7⟩ := rc_cells hcc
      have hrec := recordFault_some (R.getD k noRec) m (wr.alloc (recBox (R.getD k noRec))) (by rw [World.cell?_alloc_lt _ _ _ (by have := hb.size; exact Nat.lt_of_lt_of_le hlm this)]; exact (hb.cell hlm).trans HM.out) (HP.out.ok _ (rw_mem hlt))
      unfold recBox at hrec
      generalize hx : R.getD k noRec = x at *
      have HX := Lib.hid hx
      have HLV := Lib.hid hlv
      have HB := Lib.hid (hb.alloc hb.size (.cells #[.string x.name, .int .i64 x.kind, .bool x.six, .int .u64 x.hi, .int .u64 x.lo, .string x.to, .string x.words, .int .i64 x.life] 50 (0, 0)))
      clear hpr hcc hb hlv hx
      go_wp2_with fail
      refine hrec.mono ?_
      rintro e W2 ⟨c, rfl, hcl, hb2⟩
      have HB2 := Lib.hid (HB.out.trans (hb2.mono HB.out.size))
      clear hb2 hrec
      by_cases hcz : c = 0
      · have hlx := hcl hcz
        subst hcz
        go_wp2_with fail
        go_roundw
        case rel => exact ⟨k + 1, hlt, by go_num, HB2.out, fun j hj => by
          by_cases e : j = k
          · rw [e, HX.out]; exact hlx
          · exact HLV.out j (by omega)⟩
        case measure => simp [intOf]; omega
      · have hcn : (c != 0) = true := by simpa using hcz
        go_wp2_with fail
        go_ret
        exact ⟨c, rfl, fun _ => HB2.out, fun e => absurd e hcz⟩
    · have hkk : k = R.length := by omega
      subst hkk
      have HLV := Lib.hid (fun r (hr : r ∈ R) => (show 0 ≤ r.life ∧ r.life ≤ 1000000 from by
        obtain ⟨j, hj, rfl⟩ := List.getElem_of_mem hr
        have := hlv j hj
        rwa [List.getD_eq_getElem?_getD, List.getElem?_eq_getElem hj] at this))
      have HB2 := Lib.hid hb
      clear hb hlv
      go_wp2_with fail
      refine (outside_any 30 0 1000000 wr).mono ?_
      rintro e w2 ⟨rfl, rfl⟩
      go_wp2_with fail
      refine (passK T most now calls A cap L at_ wr (H.out.below HB2.out) hl h0 h1 hc0 hc1 HL.out).mono ?_
      rintro e W3 ⟨rfl, hca3, hch3⟩
      have HCH3 := Lib.hid ((Rchg.of_below (F := CaF T A) HB2.out).trans hch3 (fun _ _ h => h))
      have hR3 : ∀ e ∈ L, KpRow W3 T A e := fun e he => ((HR.out e he).below HB2.out).chg hch3
      have HP3 := Lib.hid ((HP.out.below HB2.out).chg hch3)
      have HR3 := Lib.hid hR3
      have hKsub : ∀ e ∈ L.filter (fun e => !goesB at_ e), e ∈ L ∧ goesB at_ e = false := fun e he => by
        have := List.mem_filter.1 he
        exact ⟨this.1, by simpa using this.2⟩
      have hKL : (L.filter (fun e => !goesB at_ e)).length ≤ L.length := List.length_filter_le _ _
      have HKS := Lib.hid hKsub
      have HCA3 := Lib.hid hca3
      have hs3 := HCH3.out.size
      clear hca3 hch3 hR3 hKsub HR HP HB2 H
      generalize L.filter (fun e => !goesB at_ e) = K at *
      go_wp2_with fail
      go_loopw [53, 5] (fun v53 v5 wq => ∃ (k : Nat) (lf : Int), k ≤ R.length ∧ v53 = .int .i64 k ∧ v5 = .int .i64 lf ∧ 0 ≤ lf ∧ lf ≤ 30 ∧ (∀ j, j < k → lf ≤ (R.getD j noRec).life) ∧ Below W3.heap.size W3 wq) (fun v53 _ _ => R.length - (intOf v53).toNat)
      case atStart => exact ⟨0, 30, by omega, rfl, rfl, by omega, by omega, fun j hj => by omega, Below.refl _ _⟩
      case round =>
        obtain ⟨k, lf, hk, rfl, rfl, hl0, hl30, hlf, hb⟩ := hrel
        by_cases hlt : k < R.length
        · have hpr := HP3.out.below hb
          obtain ⟨g5, off, rfl, hgB, hcc⟩ := hpr.row k hlt
          obtain ⟨c0, c1, c2, c3, c4, c5, c6, c7⟩ := rc_cells hcc
          obtain ⟨hx0, hx1⟩ := HLV.out _ (rw_mem (d := noRec) hlt)
          generalize hx : R.getD k noRec = x at *
          have HX := Lib.hid hx
          have HLF := Lib.hid hlf
          have HB := Lib.hid (hb.alloc hb.size (.cells #[.string x.name, .int .i64 x.kind, .bool x.six, .int .u64 x.hi, .int .u64 x.lo, .string x.to, .string x.words, .int .i64 x.life] 50 (0, 0)))
          clear hpr hcc hb hlf hx
          go_wp2_with fail
          go_roundw
          case rel =>
            exact ⟨k + 1, min lf x.life, hlt, by go_num, rfl, by omega, by omega, fun j hj => by
              by_cases e : j = k
              · rw [e, HX.out]; omega
              · have := HLF.out j (by omega); omega, HB.out⟩
          case measure => simp [intOf]; omega
        · have hkk : k = R.length := by omega
          subst hkk
          have HLF := Lib.hid (fun r (hr : r ∈ R) => (show lf ≤ r.life from by
            obtain ⟨j, hj, rfl⟩ := List.getElem_of_mem hr
            have := hlf j hj
            rwa [List.getD_eq_getElem?_getD, List.getElem?_eq_getElem hj] at this))
          have hbq := hb.alloc hb.size (.cells #[.string n, .int .i64 1] 63 (0, 0))
          have hQ := heap_alloc_new wr (.cells #[.string n, .int .i64 1] 63 (0, 0))
          have hbs := hb.size
          clear hlf hb
          have hca4 := HCA3.out.below hbq
          have HB4 := Lib.hid hbq
          have HQ := Lib.hid hQ
          have hTq : T < (wr.alloc (.cells #[.string n, .int .i64 1] 63 (0, 0))).heap.size := hca4.lt
          obtain ⟨⟨c0, c1, c2, c3⟩, f0, f1, f2, f3⟩ := ca_res hca4.blk
          have hne : aB A ≠ some T := hca4.ne
          have hqs : (wr.alloc (.cells #[.string n, .int .i64 1] 63 (0, 0))).heap.size = wr.heap.size + 1 := by simp
          have HCA4 := Lib.hid hca4
          clear hbq hQ hca4
          go_wp2_with fail
          generalize World.alloc wr _ = W4 at *
          have hnQ : (Value.slice A K.length cap).ownBlock ≠ some wr.heap.size := fun e => by rw [own_aB] at e; have := HAL.out _ e; omega
          have hnT : (Value.slice A K.length cap).ownBlock ≠ some T := by rw [own_aB]; exact hne
          have hdel := kp_del A cap K 22 #[.pointer (some ⟨wr.heap.size, 0, none⟩)] (sameB n 1) W4 entersPut HCA4.out.own (by omega)
            (fun wx hg2 => putPredK wr.heap.size n 1 K wx ((hg2.block _ (lt_of_block HQ.out) (fun e => hnQ e.symm)).trans HQ.out))
          refine hdel.mono ?_
          rintro e W5 ⟨rfl, hg5, ho5⟩
          have hT5 : W5.heap[T]? = some (caObj most at_ (calls + 1) (.slice A K.length cap)) := (hg5.block T hTq (fun c => hnT c.symm)).trans HCA4.out.blk
          have hQ5 : W5.heap[wr.heap.size]? = some (.cells #[.string n, .int .i64 1] 63 (0, 0)) := (hg5.block _ (lt_of_block HQ.out) (fun c => hnQ c.symm)).trans HQ.out
          have hch5 : Rchg (CaF T A) w W5 := (HCH3.out.trans (Rchg.of_below (F := CaF T A) HB4.out) (fun _ _ h => h)).trans (Rchg.of_grown (F := CaF T A) hg5 (fun k e _ => .inr (by rw [own_aB] at e; exact e))) (fun _ _ h => h)
          have hc35 : Rchg (CaF T A) W3 W5 := (Rchg.of_below (F := CaF T A) HB4.out).trans (Rchg.of_grown (F := CaF T A) hg5 (fun k e _ => .inr (by rw [own_aB] at e; exact e))) (fun _ _ h => h)
          have HO5 := Lib.hid ho5
          have HCH5 := Lib.hid hch5
          have HC35 := Lib.hid hc35
          have HT5 := Lib.hid hT5
          have HQ5 := Lib.hid hQ5
          clear c0 c1 c2 c3 f0 f1 f2 f3 hdel hg5 ho5 hch5 hc35 HB4 HCH3 HCA4 HQ HCA3
          obtain ⟨⟨c0, c1, c2, c3⟩, f0, f1, f2, f3⟩ := ca_res hT5
          have hT5l := lt_of_block hT5
          clear hT5 hQ5 hnQ hnT
          have hK2L : (K.filter (fun e => !sameB n 1 e)).length ≤ K.length := List.length_filter_le _ _
          have HK2 := Lib.hid (fun e (he : e ∈ K.filter (fun e => !sameB n 1 e)) => (show e ∈ L ∧ goesB at_ e = false ∧ sameB n 1 e = false from by
            have := List.mem_filter.1 he
            have h2 := HKS.out e this.1
            exact ⟨h2.1, h2.2, by simpa using this.2⟩))
          generalize K.filter (fun e => !sameB n 1 e) = K2 at *
          by_cases hz : lf = 0
          · subst hz
            go_wp2_with fail
            go_ret
            have hca6 : CaAt (W5.setCell ⟨T, 3, none⟩ (.slice A K2.length cap)) T most at_ (calls + 1) A cap K2 :=
              ⟨ca_set3 HT5.out _, rw_same HO5.out fun k hk => Below.heap_setCell _ _ _ _ (fun c => hne (by rw [own_aB] at hk; rw [hk]; exact congrArg some c)), hne⟩
            have hch6 := HCH5.out.set (fun _ => .inl rfl) 3 (.slice A K2.length cap)
            refine ⟨0, rfl, fun c => absurd rfl c, fun _ => ⟨HLV.out, A, cap, K2, hca6, hch6, fun k hk => .inl hk, by omega, fun x hx => ?_⟩⟩
            obtain ⟨h1', h2', h3'⟩ := HK2.out x hx
            exact ⟨(HR3.out x h1').chg (HC35.out.set (fun _ => .inl rfl) _ _), .inl ⟨h1', h2', h3'⟩⟩
          · have hzz : (lf == 0) = false := by simpa using hz
            go_upto_region 25 with (fail)
            go_cut [76] from 76 to 94 (fun _ wc => PutMid w T most at_ calls A n R lf K2 wc)
            case first =>
              have hca6 : CaAt (W5.setCell ⟨T, 3, none⟩ (.slice A K2.length cap)) T most at_ (calls + 1) A cap K2 :=
                ⟨ca_set3 HT5.out _, rw_same HO5.out fun k hk => Below.heap_setCell _ _ _ _ (fun c => hne (by rw [own_aB] at hk; rw [hk]; exact congrArg some c)), hne⟩
              have hch6 := HCH5.out.set (fun _ => .inl rfl) 3 (.slice A K2.length cap)
              have h36 := HC35.out.set (fun _ => .inl rfl) 3 (.slice A K2.length cap)
              have hq6 : (W5.setCell ⟨T, 3, none⟩ (.slice A K2.length cap)).heap[wr.heap.size]? = some (.cells #[.string n, .int .i64 1] 63 (0, 0)) := (Below.heap_setCell _ _ _ _ (by show wr.heap.size ≠ T; omega)).trans HQ5.out
              have hp6 : PutRow (W5.setCell ⟨T, 3, none⟩ (.slice A K2.length cap)) T A rA R := HP3.out.chg h36
              clear c0 c1 c2 c3 f0 f1 f2 f3 HQ5 HT5 HC35 HCH5 HO5
              generalize World.setCell W5 _ _ = W6 at *
              obtain ⟨⟨c0, c1, c2, c3⟩, f0, f1, f2, f3⟩ := ca_res hca6.blk
              obtain ⟨⟨b0, b1⟩, -⟩ := res2 hq6
              have lT := hca6.lt
              have lQ := lt_of_block hq6
              have HCA6 := Lib.hid hca6
              have HCH6 := Lib.hid hch6
              have H36 := Lib.hid h36
              have HQ6 := Lib.hid hq6
              have HK3 := Lib.hid (fun e he => (HK2.out e he).1)
              obtain ⟨i0, hi0, hz0, hz1, hz2⟩ := info_parts kp_info
              have hcl : Hid (Calls Tryz.prog 23 #[.slice rA R.length rcap] W6.drew fun e w9 => ∃ vA vcap, e = .returned (.slice vA R.length vcap) ∧ PutCl W6 w9 T wr.heap.size most at_ calls A cap K2 n R vA vcap) := Lib.hid (by
                refine (rc_clone rA rcap R W6.drew (hp6.row.kept (Nat.le_refl _) fun _ _ _ => rfl) hp6.nil (by omega)).mono ?_
                rintro e w9 ⟨v, rfl, ho9, hb9'⟩
                obtain ⟨vA, vcap, rfl, -⟩ := rw_at (d := noRec) rcC_len ho9
                have hb9 : Below W6.heap.size W6 w9 := ⟨hb9'.os, hb9'.tape, hb9'.output, hb9'.size, hb9'.block⟩
                have hca9 := HCA6.out.below hb9
                obtain ⟨⟨d0, d1, d2, d3⟩, g0, g1, g2, g3⟩ := ca_res hca9.blk
                obtain ⟨⟨e0, e1⟩, -⟩ := res2 ((hb9.block _ (lt_of_block HQ6.out)).trans HQ6.out)
                exact ⟨vA, vcap, rfl, hb9, ho9, d0, d2, d3, e0, e1, hca9.own, hca9.lt, Nat.lt_of_lt_of_le (lt_of_block HQ6.out) hb9.size, g3⟩)
              have hTA : some T ≠ (Value.slice A K2.length cap).ownBlock := by rw [own_aB]; exact fun c => hne c.symm
              clear hca6 hch6 h36 hq6 hp6
              go_region_law (first | (refine step_append_lies _ (by rfl) _ _ 54 (by rfl) 0 66 i0 _ 6 72 Tryz.underlying54 hi0 hz0 hz1 hz2 rfl (by omega) (.slice A K2.length cap) K2.length (rwC kpC K2) (by rfl) (hrow9.alloc _) ⟨w9.heap.size, 0, none⟩ 1 1 [.string n, .int .i64 1, .int .i64 at_, .int .i64 lf, .int .i64 (calls + 1), .slice vA R.length vcap] (by rfl) (by rfl) (World.news_of_block (cs := #[.string n, .int .i64 1, .int .i64 at_, .int .i64 lf, .int .i64 (calls + 1), .slice vA R.length vcap]) (t := 66) (fr := (0, 0)) (heap_alloc_new w9 _)) (by simp [Value.oneCell']) (by omega) (by unfold maxLen; omega) (by omega) (Nat.zero_le _) (w9.heap.size + 1) (by simp) ?_; intro g2 cap2 w10 hown hgrow hat hlt; have z := put_far hgrow lT9 hTA 3; rw [t3, fT9] at z) | (go_simp; go_at_call 23; refine hcl.out.mono ?_; rintro e w9 ⟨vA, vcap, rfl, h9⟩; obtain ⟨hb9, ho9, t0, t2, t3, q0, q1, hrow9, lT9, lQ9, fT9⟩ := h9))
              all_goals (
                generalize hW : World.setCell _ _ _ = W11
                have hend := put_end HCA6.out HCH6.out hs3 H36.out HAL.out hTl HK3.out HR3.out HLV.out hfew ⟨hb9, ho9, t0, t2, t3, q0, q1, hrow9, lT9, lQ9, fT9⟩ hown hgrow hat hW
                clear hW hown hgrow hat hlt hb9 ho9 hrow9 z t0 t2 t3 q0 q1
                go_wp2_with fail
                go_meet
                exact hend)
            obtain ⟨g2, cap2, vA, vcap, hca7, hch7, hg2, hvn, hrw7⟩ := hcut
            have hknew : ∀ x ∈ K2 ++ [newKp n at_ lf calls vA vcap R], (x ∈ L ∧ goesB at_ x = false ∧ sameB n 1 x = false) ∨ (x.name = n ∧ x.kind = 1 ∧ x.put = at_ ∧ x.recs = R ∧ x.life ≤ 30 ∧ (∀ r ∈ R, x.life ≤ r.life) ∧ ∀ a, x.lA = some a → w.heap.size ≤ a.block) := by
              intro x hx
              rcases List.mem_append.1 hx with hx | hx
              · exact .inl (HK2.out x hx)
              · rw [List.mem_singleton.1 hx]
                exact .inr ⟨rfl, rfl, rfl, rfl, hl30, HLF.out, hvn⟩
            have HK3L := Lib.hid (show (K2 ++ [newKp n at_ lf calls vA vcap R]).length = K2.length + 1 by simp)
            have hK3b : (K2 ++ [newKp n at_ lf calls vA vcap R]).length ≤ 1001 := by have := HK3L.out; omega
            have HKN := Lib.hid hknew
            have HCH7 := Lib.hid hch7
            have HRW7 := Lib.hid hrw7
            have hg2' : ∀ k, aB (some (⟨g2, 0, none⟩ : Addr)) = some k → aB A = some k ∨ w.heap.size ≤ k := fun k hk => by
              have e : g2 = k := Option.some.inj hk
              rw [← e]; exact hg2
            clear hknew hch7 hrw7 hg2 c0 c1 c2 c3 f0 f1 f2 f3
            generalize K2 ++ [newKp n at_ lf calls vA vcap R] = K3 at *
            obtain ⟨⟨c0, c1, c2, c3⟩, f0, f1, f2, f3⟩ := ca_res hca7.blk
            have hT7l := hca7.lt
            have HCA7 := Lib.hid hca7
            clear hca7 HQ5 HT5 HC35 HCH5 HO5
            by_cases hbig : (K3.length : Int) > most
            rotate_left
            · have hbd : decide ((K3.length : Int) > most) = false := by simpa using hbig
              go_wp2_with fail
              go_quiet (fail)
              go_wp2_with fail
              go_ret
              exact ⟨0, rfl, fun c => absurd rfl c, fun _ => ⟨HLV.out, _, _, K3, HCA7.out.keep rfl (fun _ _ => rfl), HCH7.out.trans (rqK _ _ _) (fun _ _ h => h), hg2', by omega, fun x hx => ⟨(HRW7.out x hx).chg (rqK _ _ _), HKN.out x hx⟩⟩⟩
            · have hbd : decide ((K3.length : Int) > most) = true := by simpa using hbig
              go_wp2_with fail
              go_quiet (fail)
              go_wp2_with fail
              clear c0 c1 c2 c3 f0 f1 f2 f3
              go_loopw [110, 20] (fun v110 v20 wq => ∃ (k fi : Nat), k ≤ K3.length ∧ fi < K3.length ∧ v110 = .int .i64 k ∧ v20 = .int .i64 fi ∧ Below wc.heap.size wc wq) (fun v110 _ _ => K3.length - (intOf v110).toNat)
              case atStart => exact ⟨0, 0, by omega, by omega, rfl, rfl, bqK (Below.refl _ _) _⟩
              case round =>
                obtain ⟨k, fi, hk3, hf, rfl, rfl, hb⟩ := hrel
                have hcaq := HCA7.out.below hb
                by_cases hlt3 : k < K3.length
                · have HB := Lib.hid (hb.alloc hb.size (.cells #[.string (K3.getD k noKp).name, .int .i64 (K3.getD k noKp).kind, .int .i64 (K3.getD k noKp).put, .int .i64 (K3.getD k noKp).life, .int .i64 (K3.getD k noKp).used, .slice (K3.getD k noKp).lA (K3.getD k noKp).recs.length (K3.getD k noKp).lcap] 66 (0, 0)))
                  obtain ⟨g5, off, e1, hgB, hcc⟩ := hcaq.kp k hlt3
                  injection e1 with e1
                  simp only [Addr.mk.injEq, and_true] at e1
                  obtain ⟨rfl, rfl⟩ := e1
                  rw [Nat.zero_add] at hcc
                  obtain ⟨a0, a1, a2, a3, a4, a5⟩ := kp_cells hcc
                  obtain ⟨g6, off, e1, _, hcd⟩ := hcaq.kp fi hf
                  injection e1 with e1
                  simp only [Addr.mk.injEq, and_true] at e1
                  obtain ⟨rfl, rfl⟩ := e1
                  rw [Nat.zero_add] at hcd
                  obtain ⟨-, -, -, -, b4, -⟩ := kp_cells hcd
                  obtain ⟨⟨c0, c1, c2, c3⟩, f0, f1, f2, f3⟩ := ca_res hcaq.blk
                  have hTq := hcaq.lt
                  have hfi : (fi : Int) < (K3.length : Int) := by omega
                  generalize K3.getD k noKp = x at *
                  generalize K3.getD fi noKp = y at *
                  clear hcc hcd hcaq hb
                  by_cases hu : x.used < y.used
                  · have hud : decide (x.used < y.used) = true := by simpa using hu
                    go_wp2_with fail
                    go_quiet (fail)
                    go_wp2_with fail
                    go_roundw
                    case rel => exact ⟨k + 1, k, hlt3, hlt3, by go_num, rfl, bqK HB.out _⟩
                    case measure => simp [intOf]; omega
                  · have hud : decide (x.used < y.used) = false := by simpa using hu
                    go_wp2_with fail
                    go_quiet (fail)
                    go_wp2_with fail
                    go_roundw
                    case rel => exact ⟨k + 1, fi, hlt3, hf, by go_num, rfl, bqK HB.out _⟩
                    case measure => simp [intOf]; omega
                · have hkk : k = K3.length := by omega
                  subst hkk
                  have hq : IntKind.i64.wrap ((fi : Int) + 1) = (fi : Int) + 1 := IntWalk.i64_in _ (by have := HK3L.out; omega)
                  obtain ⟨⟨c0, c1, c2, c3⟩, f0, f1, f2, f3⟩ := ca_res hcaq.blk
                  have hTq := hcaq.lt
                  have hdl := kp_cut g2 cap2 fi K3 wr hcaq.own hf
                  rw [show ((fi + 1 : Nat) : Int) = (fi : Int) + 1 from by omega] at hdl
                  have HCAQ := Lib.hid hcaq
                  have HBQ := Lib.hid hb
                  have hgT : g2 ≠ T := fun c => hcaq.ne (by rw [c]; rfl)
                  have hkl : (K3.take fi ++ K3.drop (fi + 1)).length + 1 = K3.length := by simp; omega
                  have HKS' := Lib.hid (fun x (hx : x ∈ K3.take fi ++ K3.drop (fi + 1)) => (show x ∈ K3 from by
                    rcases List.mem_append.1 hx with hx | hx
                    · exact List.mem_of_mem_take hx
                    · exact List.mem_of_mem_drop hx))
                  generalize K3.take fi ++ K3.drop (fi + 1) = K4 at *
                  clear hcaq hb
                  go_wp2_with fail
                  refine hdl.mono ?_
                  rintro e W9 ⟨rfl, hg9, ho9⟩
                  have hT9 : W9.heap[T]? = some (caObj most at_ (calls + 1) (.slice (some ⟨g2, 0, none⟩) K3.length cap2)) := (hg9.block T hTq (fun c => hgT (Option.some.inj c).symm)).trans HCAQ.out.blk
                  have HT9 := Lib.hid hT9
                  have HO9 := Lib.hid ho9
                  have HG9 := Lib.hid hg9
                  clear c0 c1 c2 c3 f0 f1 f2 f3 hdl ho9 hg9
                  obtain ⟨⟨c0, c1, c2, c3⟩, f0, f1, f2, f3⟩ := ca_res hT9
                  have hT9l := lt_of_block hT9
                  clear hT9
                  go_wp2_with fail
                  go_ret
                  have hc89 : Rchg (CaF T (some (⟨g2, 0, none⟩ : Addr))) wc (W9.setCell ⟨T, 3, none⟩ (.slice (some ⟨g2, 0, none⟩) K4.length cap2)) :=
                    ((Rchg.of_below HBQ.out).trans (Rchg.of_grown (F := CaF T (some (⟨g2, 0, none⟩ : Addr))) HG9.out (fun k e _ => .inr e)) (fun _ _ h => h)).set (fun _ => .inl rfl) _ _
                  have hK3 := HK3L.out
                  refine ⟨0, rfl, fun c => absurd rfl c, fun _ => ⟨HLV.out, some ⟨g2, 0, none⟩, cap2, K4, ⟨ca_set3 HT9.out _, rw_same HO9.out fun k hk => Below.heap_setCell _ _ _ _ (fun c => hgT (by have e : g2 = k := Option.some.inj hk; rw [e]; exact c)), fun c => hgT (Option.some.inj c)⟩, ?_, hg2', by omega, fun x hx => ⟨(HRW7.out x (HKS'.out x hx)).chg hc89, HKN.out x (HKS'.out x hx)⟩⟩⟩
                  refine HCH7.out.trans hc89 (fun j hj c => ?_)
                  rcases c with c | c
                  · exact .inl c
                  · rcases hg2' j c with c | c
                    · exact .inr c
                    · omega
end Go.Proofs.YtedpjecbfcogcaaGreatDoor
