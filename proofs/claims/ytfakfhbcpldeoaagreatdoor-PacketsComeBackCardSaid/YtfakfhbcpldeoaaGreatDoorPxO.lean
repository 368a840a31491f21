/- Packets as bytes: filter.Write. Packets as bytes: ReadPacket. -/
import Derived.Test.YtfakfhbcpldeoaaGreatDoorPxH
import Derived.Test.YtfakfhbcpldeoaaGreatDoorPkC
import Derived.Test.YtfakfhbcpldeoaaGreatDoorPxN
namespace Go.Proofs.YtfakfhbcpldeoaaGreatDoor
open Go.RowKit Go.Hw

set_option maxRecDepth 100000 in
set_option maxHeartbeats 4000000 in
theorem writeApi_any (p : Pk) (h : PkOk p) (pay : List UInt8) (w : World) (hp : PayAt w p pay) :
    Calls Tryz.prog 5 #[.agg (pkA p)] w fun e w' => ∃ A n cap, e = .returned (.tuple #[.slice A n cap, .int .i64 0]) ∧ bOwn w' (w.heap.size + 1) A n cap (writeP p pay) ∧ Below w.heap.size w w' := by
  have h41 := al1 w (.cells (pkA p) 31)
  have HBA := Lib.hid (bl_alloc w (.cells (pkA p) 31))
  have hsz1 : (w.alloc (.cells (pkA p) 31)).heap.size = w.heap.size + 1 := by simp
  have hp1 := hp.below HBA.out
  go_enter Tryz.func5, Tryz.ntmps5
  go_upto_region 1 with (fail)
  generalize hW : World.alloc w _ = W0
  have h4' : W0.heap[w.heap.size]? = some (.cells (pkA p) 31 (0, 0)) := by rw [← hW]; exact h41
  have HBw : Hid (Below w.heap.size w W0) := Lib.hid (by rw [← hW]; exact HBA.out)
  have HSZ : Hid (W0.heap.size = w.heap.size + 1) := Lib.hid (by rw [← hW]; exact hsz1)
  have HP : Hid (PayAt W0 p pay) := Lib.hid (by rw [← hW]; exact hp1)
  clear hW h41 hsz1 hp1 hp HBA
  go_step
  go_step
  first | refine load_step rfl h4' (by kernel_rfl) (by kernel_rfl) ?_ | (go_step; refine load_step rfl h4' (by kernel_rfl) (by kernel_rfl) ?_)
  go_wp2_with fail
  refine (checkPacket_any p h W0).mono ?_
  rintro e W2 ⟨rfl, hb2⟩
  have h42 := (hb2.block _ (lt_of_block h4')).trans h4'
  have HB2 := Lib.hid (HBw.out.trans (hb2.mono HBw.out.size))
  have HP2 := Lib.hid (HP.out.below hb2)
  have HLE := Lib.hid hb2.size
  clear hb2 h4'
  go_upto_region 4 with (fail)
  go_step
  go_step
  first | refine load_step rfl h42 (by kernel_rfl) (by kernel_rfl) ?_ | (go_step; refine load_step rfl h42 (by kernel_rfl) (by kernel_rfl) ?_)
  clear h42
  go_wp2_with fail
  refine (write_any p h pay W2 HP2.out).mono ?_
  rintro e W3 ⟨A, n, cap, rfl, ho, hb3⟩
  have HFIN := Lib.hid (And.intro (show bOwn W3 (w.heap.size + 1) A n cap (writeP p pay) from ⟨ho.1, own_base ho.2 (by have := HLE.out; have := HSZ.out; omega)⟩) (HB2.out.trans (hb3.mono HB2.out.size)))
  clear ho hb3
  go_wp2_with fail
  go_ret2
  exact ⟨A, n, cap, rfl, HFIN.out.1, HFIN.out.2⟩
end Go.Proofs.YtfakfhbcpldeoaaGreatDoor

namespace Go.Proofs.YtfakfhbcpldeoaaGreatDoor
open Go.RowKit Go.Hw

theorem results_cell2 {P : Program} {fn : Func} {tmps : Array Value} {w : World} {a c R : Nat} {T T' : TypeId} {cs : Array Value} {v : Value} (hfn : fn.results = #[.cell a T, .tmp c]) (hp : tmps.getD a undef = .pointer (some ⟨R, 0, none⟩)) (hv : tmps.getD c undef = v) (hb : w.heap[R]? = some (.cells cs T' (0, 0))) (ha : (isAgg T).run P w = .ok true w) (hs : (sizeOf T).run P w = .ok cs.size w) :
    (results fn tmps).run P w = .ok (.tuple #[.agg cs, v]) w := by
  have hl := run_loadCells_list (P := P) w ⟨R, 0, none⟩ cs.toList (fun j v hv => by
    have hadd : (⟨R, 0, none⟩ : Addr).add j = ⟨R, j, none⟩ := by unfold Addr.add; split <;> simp_all
    rw [hadd, cell_of hb j]
    simpa using hv)
  have hl' : (loadCellsFrom ⟨R, 0, none⟩ 0 cs.size #[]).run P w = .ok cs w := by
    simp only [loadCells] at hl
    simpa using hl
  have hp' : tmps[a]?.getD undef = .pointer (some ⟨R, 0, none⟩) := by rw [← hp]; simp
  have hv' : tmps[c]?.getD undef = v := by rw [← hv]; simp
  unfold results
  rw [hfn]
  simp [hp', hv', asAddr, go_sem, ha, hs, hl']
theorem bl_chg {P : Nat} {w w1 w2 : World} (h : Below w.heap.size w w1) (k : Rchg (fun j => j = P) w1 w2) (hP : w.heap.size ≤ P) : Below w.heap.size w w2 :=
  ⟨k.os.trans h.os, k.tape.trans h.tape, k.output.trans h.output, Nat.le_trans h.size k.size, fun j hj => (k.block j (Nat.lt_of_lt_of_le hj h.size) (by show ¬ j = P; omega)).trans (h.block j hj)⟩
theorem bOwn.nilc {W : World} {base n cap : Nat} {A : Option Addr} {bs : List UInt8} (h : bOwn W base A n cap bs) (e : A = none) : cap = 0 := by
  rcases h.2.2 with ⟨h1, h2⟩ | ⟨g, cap', cur, h1, _⟩
  · injection h1
  · injection h1 with h1
    rw [e] at h1
    cases h1
theorem PayAt.re {W WZ : World} {p q : Pk} {pay : List UInt8} {R : Nat} {cs : Array Value} {T T' : TypeId} (h : PayAt W p pay) (hb : W.heap[R]? = some (.cells (pkA q) T (0, 0))) (hr : Re W WZ R cs T') : PayAt WZ p pay := by
  refine ⟨fun i c hi => ?_, h.len, h.nil, h.le⟩
  obtain ⟨g, off, e, hl, hx⟩ := h.at_ i c hi
  refine ⟨g, off, e, by rw [hr.size]; exact hl, (World.cell?_of_block (w := W) (a := ⟨g, off + i, none⟩) (hr.oth g (fun c1 => ?_))).trans hx⟩
  subst c1
  rw [cell_of hb (off + i)] at hx
  generalize off + i = j at hx
  unfold pkA at hx
  rcases j with _ | _ | _ | _ | _ | _ | _ | _ | _ | _ | _ | _ | _ | _ | _ | _ | _ | _ | _ | j <;> simp at hx
/-- What ReadPacket does. -/
def RdOut (w : World) (b : List UInt8) (e : Ending) (w' : World) : Prop :=
  (∀ q pay, readP b = some (q, pay) → ∃ A c, e = .returned (.tuple #[.agg (pkA { q with pA := A, pn := pay.length, pc := c }), .int .i64 0]) ∧ PayAt w' { q with pA := A, pn := pay.length, pc := c } pay) ∧
  (readP b = none → ∃ (q : Pk) (c : Int), c ≠ 0 ∧ e = .returned (.tuple #[.agg (pkA q), .int .i64 c])) ∧ Below w.heap.size w w'
theorem readPart_any (p : Pk) (hbare : Bare p) (hpa : p.pA = none ∧ p.pc = 0) (hk : knownP p.f.proto = true) (P g off n cap : Nat) (b : List UInt8) (w : World) (hb : bAt w (some ⟨g, off, none⟩) b) (hl : b.length = n) (hc : n ≤ cap) (hs : n ≤ 5000) (hP : w.heap[P]? = some (.cells (pkA p) 31 (0, 0))) (hgP : g ≠ P) :
    Calls Tryz.prog 21 #[.pointer (some ⟨P, 0, none⟩), .slice (some ⟨g, off, none⟩) n cap] w (RpOut P w p b) := by
  obtain ⟨⟨proto, s6, sh, sl, t6, th, tl, fp, tp⟩, hops, syn, fin, rst, has, seq, ack, reply, id_, pA, pn, pc⟩ := p
  have hbb := hbare
  obtain ⟨g1, g2, g3, g4, g5, g6, g7, g8, g9, g10, g11, g12, g13, g14, g15⟩ := hbare
  dsimp only at g1 g2 g3 g4 g5 g6 g7 g8 g9 g10 g11 g12 g13 g14 g15 hpa hk
  obtain ⟨hpa, hpc⟩ := hpa
  subst g4 g5 g7 g8 g9 g10 g11 g12 g13 g14 g15 hpa hpc
  rcases known_or hk with rfl | rfl | rfl
  · exact readPartTcp s6 sh sl t6 th tl hops P g off n cap b w hb hl hc hs _ rfl hbb hP hgP
  · exact readPartUdp s6 sh sl t6 th tl hops P g off n cap b w hb hl hc hs _ rfl hbb hP hgP
  · exact readPartIcmp s6 sh sl t6 th tl hops P g off n cap b w hb hl hc hs _ rfl hbb hP hgP
theorem isKnown_all (n : Int) (w : World) : Calls Tryz.prog 20 #[.int .i64 n] w fun e w' => e = .returned (.bool (knownP n)) ∧ w = w' := by
  by_cases h : n = 6 ∨ n = 17 ∨ n = 1
  · refine (isKnown_any n w h).mono ?_
    rintro e w' ⟨rfl, rfl⟩
    exact ⟨by rcases h with rfl | rfl | rfl <;> rfl, rfl⟩
  · have h6 : ¬ n = 6 := fun c => h (.inl c)
    have h17 : ¬ n = 17 := fun c => h (.inr (.inl c))
    have h1 : ¬ n = 1 := fun c => h (.inr (.inr c))
    have HK : Hid (knownP n = false) := Lib.hid (by simp [knownP, h6, h17, h1])
    have e1 : (n == 1) = false := by simp [h1]
    have hp := hasPorts_any n w
    rw [show (n == 6 || n == 17) = false from by simp [h6, h17]] at hp
    go_enter Tryz.func20, Tryz.ntmps20
    go_wp2_with (refine hp.mono ?_; rintro e w9 ⟨rfl, rfl⟩)
    go_ret
    exact ⟨by rw [HK.out]; rfl, rfl⟩
set_option maxRecDepth 100000 in
set_option maxHeartbeats 4000000 in
theorem readPacket_any (g n cap : Nat) (b : List UInt8) (w : World) (hb : bAt w (some ⟨g, 0, none⟩) b) (hl : b.length = n) (hn : 28 ≤ n) (hc : n ≤ cap) (hs : n ≤ 5000) (hgl : g < w.heap.size) :
    Calls Tryz.prog 6 #[.slice (some ⟨g, 0, none⟩) n cap] w (RdOut w b) := by
  have d0 : decide ((n : Int) < 20) = false := by simp; omega
  have HA := Lib.hid hb
  have h41 := al21 w (.cells (pkA noPk) 31) (.cells (pkA noPk) 31)
  have h42 := al22 w (.cells (pkA noPk) 31) (.cells (pkA noPk) 31)
  have HB0 := Lib.hid (bl_al (bl_alloc w (.cells (pkA noPk) 31)) (o := .cells (pkA noPk) 31))
  clear hb
  go_enter Tryz.func6, Tryz.ntmps6
  go_upto_region 3 with (fail)
  first | refine store_step (vs := pkA noPk) rfl rfl h42 (by rfl) (by kernel_rfl) (by simp [Value.oneCell', pkA]) (fun W1 hr => ?_) | (go_step; first | refine store_step (vs := pkA noPk) rfl rfl h42 (by rfl) (by kernel_rfl) (by simp [Value.oneCell', pkA]) (fun W1 hr => ?_) | (go_step; first | refine store_step (vs := pkA noPk) rfl rfl h42 (by rfl) (by kernel_rfl) (by simp [Value.oneCell', pkA]) (fun W1 hr => ?_) | (go_step; first | refine store_step (vs := pkA noPk) rfl rfl h42 (by rfl) (by kernel_rfl) (by simp [Value.oneCell', pkA]) (fun W1 hr => ?_) | (go_step; first | refine store_step (vs := pkA noPk) rfl rfl h42 (by rfl) (by kernel_rfl) (by simp [Value.oneCell', pkA]) (fun W1 hr => ?_) | (go_step; first | refine store_step (vs := pkA noPk) rfl rfl h42 (by rfl) (by kernel_rfl) (by simp [Value.oneCell', pkA]) (fun W1 hr => ?_) | (go_step; first | refine store_step (vs := pkA noPk) rfl rfl h42 (by rfl) (by kernel_rfl) (by simp [Value.oneCell', pkA]) (fun W1 hr => ?_) | (go_step; first | refine store_step (vs := pkA noPk) rfl rfl h42 (by rfl) (by kernel_rfl) (by simp [Value.oneCell', pkA]) (fun W1 hr => ?_) | (go_step; first | refine store_step (vs := pkA noPk) rfl rfl h42 (by rfl) (by kernel_rfl) (by simp [Value.oneCell', pkA]) (fun W1 hr => ?_) | (go_step; first | refine store_step (vs := pkA noPk) rfl rfl h42 (by rfl) (by kernel_rfl) (by simp [Value.oneCell', pkA]) (fun W1 hr => ?_) | (go_step; first | refine store_step (vs := pkA noPk) rfl rfl h42 (by rfl) (by kernel_rfl) (by simp [Value.oneCell', pkA]) (fun W1 hr => ?_) | (go_step; first | refine store_step (vs := pkA noPk) rfl rfl h42 (by rfl) (by kernel_rfl) (by simp [Value.oneCell', pkA]) (fun W1 hr => ?_) | (go_step; first | refine store_step (vs := pkA noPk) rfl rfl h42 (by rfl) (by kernel_rfl) (by simp [Value.oneCell', pkA]) (fun W1 hr => ?_) | (go_step; first | refine store_step (vs := pkA noPk) rfl rfl h42 (by rfl) (by kernel_rfl) (by simp [Value.oneCell', pkA]) (fun W1 hr => ?_) | (go_step; refine store_step (vs := pkA noPk) rfl rfl h42 (by rfl) (by kernel_rfl) (by simp [Value.oneCell', pkA]) (fun W1 hr => ?_)))))))))))))))
  have h41' := (hr.oth w.heap.size (by simp)).trans h41
  have hB1 := hr.below HB0.out (by simp)
  have HP1 := Lib.hid hr.blk
  have HR1 := Lib.hid h41'
  have HB1 := Lib.hid hB1
  have HA1 := Lib.hid (HA.out.below hB1)
  clear hr h41' hB1 h41 h42
  have q0 := HA1.out.get 0 (by omega)
  obtain ⟨y0, hy0⟩ : ∃ y, b.getD 0 0 = y := ⟨_, rfl⟩
  rw [hy0] at q0
  have c0 : W1.cell? ⟨g, 0, none⟩ = some (.int .u8 y0.toNat) := q0.1
  have gl1 : g < W1.heap.size := q0.2
  have m0 : (0 : Int) < (n : Int) := by omega
  have HY : Hid (bytB b 0 = y0.toNat) := Lib.hid (by unfold bytB; rw [hy0])
  have nP : g ≠ w.heap.size + 1 := by omega
  have hPl : w.heap.size + 1 < W1.heap.size := lt_of_block HP1.out
  clear q0 hy0
  obtain ⟨P, hPe⟩ : ∃ P : Nat, w.heap.size + 1 = P := ⟨_, rfl⟩
  rw [hPe] at HP1 nP hPl ⊢
  have hPw : w.heap.size ≤ P := by omega
  have hPn : w.heap.size ≠ P := by omega
  have HPE := Lib.hid hPe
  clear hPe
  have hRl : w.heap.size < W1.heap.size := lt_of_block HR1.out
  have HNO : Hid (readP b = none → ∀ (W' : World) (c : Int), c ≠ 0 → Below w.heap.size w W' → RdOut w b (.returned (.tuple #[.agg (pkA noPk), .int .i64 c])) W') := Lib.hid (fun hr W' c hc hb => ⟨fun q pay hq => absurd (hq.symm.trans hr) (by simp), fun _ => ⟨noPk, c, hc, rfl⟩, hb⟩)
  go_upto_region 6 with (fail)
  by_cases h45 : y0.toNat = 69
  · have e45 : ((y0.toNat : Int) == 69) = true := by simp; omega
    have HRP : Hid (readP b = if ok4 b then restP (pk4 b) (b.drop 20) else none) := Lib.hid (by unfold readP; rw [if_neg (by omega), HY.out, if_pos h45])
    clear h45
    have hrd : Calls Tryz.prog 18 #[.pointer (some ⟨P, 0, none⟩), .slice (some ⟨g, 0, none⟩) n cap] W1 (HeadOut P g n W1 (ok4 b) 20 (pk4 b) b) := (readFour_any P g n cap b W1 HA1.out hl (by omega) hc hs HP1.out nP).mono (fun e w' h => h.head HA1.out nP hc)
    go_wp2_with fail
    refine hrd.mono ?_
    rintro e W2 ⟨h1, h2, hrc⟩
    clear hrd c0
    have HR2 : Hid (W2.heap[w.heap.size]? = some (.cells (pkA noPk) 31 (0, 0))) := Lib.hid ((hrc.block _ hRl hPn).trans HR1.out)
    have HB2 : Hid (Below w.heap.size w W2) := Lib.hid (bl_chg HB1.out hrc hPw)
    clear hrc
    cases hok : ok4 b
    · obtain ⟨c, hc0, rfl⟩ := h2 hok
      have HF : Hid (readP b = none) := Lib.hid (by rw [HRP.out, hok]; rfl)
      have ec : (c != 0) = true := by simp [hc0]
      have HC0 := Lib.hid hc0
      clear h1 h2 hok hc0
      go_upto_region 12 with (fail)
      first | refine store_step (vs := pkA noPk) rfl rfl HR2.out (by rfl) (by kernel_rfl) (by simp [Value.oneCell', pkA]) (fun WZ hz => ?_) | (go_step; first | refine store_step (vs := pkA noPk) rfl rfl HR2.out (by rfl) (by kernel_rfl) (by simp [Value.oneCell', pkA]) (fun WZ hz => ?_) | (go_step; first | refine store_step (vs := pkA noPk) rfl rfl HR2.out (by rfl) (by kernel_rfl) (by simp [Value.oneCell', pkA]) (fun WZ hz => ?_) | (go_step; first | refine store_step (vs := pkA noPk) rfl rfl HR2.out (by rfl) (by kernel_rfl) (by simp [Value.oneCell', pkA]) (fun WZ hz => ?_) | (go_step; first | refine store_step (vs := pkA noPk) rfl rfl HR2.out (by rfl) (by kernel_rfl) (by simp [Value.oneCell', pkA]) (fun WZ hz => ?_) | (go_step; first | refine store_step (vs := pkA noPk) rfl rfl HR2.out (by rfl) (by kernel_rfl) (by simp [Value.oneCell', pkA]) (fun WZ hz => ?_) | (go_step; first | refine store_step (vs := pkA noPk) rfl rfl HR2.out (by rfl) (by kernel_rfl) (by simp [Value.oneCell', pkA]) (fun WZ hz => ?_) | (go_step; first | refine store_step (vs := pkA noPk) rfl rfl HR2.out (by rfl) (by kernel_rfl) (by simp [Value.oneCell', pkA]) (fun WZ hz => ?_) | (go_step; first | refine store_step (vs := pkA noPk) rfl rfl HR2.out (by rfl) (by kernel_rfl) (by simp [Value.oneCell', pkA]) (fun WZ hz => ?_) | (go_step; first | refine store_step (vs := pkA noPk) rfl rfl HR2.out (by rfl) (by kernel_rfl) (by simp [Value.oneCell', pkA]) (fun WZ hz => ?_) | (go_step; first | refine store_step (vs := pkA noPk) rfl rfl HR2.out (by rfl) (by kernel_rfl) (by simp [Value.oneCell', pkA]) (fun WZ hz => ?_) | (go_step; first | refine store_step (vs := pkA noPk) rfl rfl HR2.out (by rfl) (by kernel_rfl) (by simp [Value.oneCell', pkA]) (fun WZ hz => ?_) | (go_step; first | refine store_step (vs := pkA noPk) rfl rfl HR2.out (by rfl) (by kernel_rfl) (by simp [Value.oneCell', pkA]) (fun WZ hz => ?_) | (go_step; first | refine store_step (vs := pkA noPk) rfl rfl HR2.out (by rfl) (by kernel_rfl) (by simp [Value.oneCell', pkA]) (fun WZ hz => ?_) | (go_step; refine store_step (vs := pkA noPk) rfl rfl HR2.out (by rfl) (by kernel_rfl) (by simp [Value.oneCell', pkA]) (fun WZ hz => ?_)))))))))))))))
      have HZ := Lib.hid (And.intro hz.blk (hz.below HB2.out (Nat.le_refl _)))
      clear hz
      go_wp2_with fail
      exact bodyPost_ret (v := .tuple #[.agg (pkA noPk), .int .i64 c]) (results_cell2 Tryz.results6 rfl rfl HZ.out.1 (by kernel_rfl) (by kernel_rfl)) rfl (HNO.out HF.out _ _ HC0.out HZ.out.2)
    · have hd : True := trivial
      obtain ⟨off, cp, rfl, hat, hncp, hP2⟩ := h1 hok
      have HRD : Hid (readP b = restP (pk4 b) (b.drop 20)) := Lib.hid (by rw [HRP.out, hok]; rfl)
      have HBare : Hid (Bare (pk4 b)) := Lib.hid (bare4 b)
      have HQA : Hid ((pk4 b).pA = none ∧ (pk4 b).pc = 0) := Lib.hid ⟨rfl, rfl⟩
      have hlb : (b.drop 20).length = n - 20 := by rw [List.length_drop, hl]
      have hms : n - 20 ≤ 5000 := by omega
      generalize (pk4 b) = q at HRD HBare HQA hP2
      generalize (b.drop 20) = bd at HRD hat hlb
      generalize (n - 20) = m at hlb hncp hms ⊢
      have HAT := Lib.hid hat
      have HP2 := Lib.hid hP2
      have c7 : W2.cell? ⟨P, 7, none⟩ = some (.int .i64 q.f.proto) := cell_of hP2 7
      have hPl2 : P < W2.heap.size := lt_of_block hP2
      clear hat hP2 h1 h2 hok HRP hPl
      go_wp2_with fail
      refine (isKnown_all q.f.proto W2).mono ?_
      rintro e w9 ⟨rfl, rfl⟩
      cases hk : knownP q.f.proto
      · have HF : Hid (readP b = none) := Lib.hid (by rw [HRD.out]; unfold restP; rw [hk]; simp)
        go_upto_region 14 with (fail)
        first | refine store_step (vs := pkA noPk) rfl rfl HR2.out (by rfl) (by kernel_rfl) (by simp [Value.oneCell', pkA]) (fun WZ hz => ?_) | (go_step; first | refine store_step (vs := pkA noPk) rfl rfl HR2.out (by rfl) (by kernel_rfl) (by simp [Value.oneCell', pkA]) (fun WZ hz => ?_) | (go_step; first | refine store_step (vs := pkA noPk) rfl rfl HR2.out (by rfl) (by kernel_rfl) (by simp [Value.oneCell', pkA]) (fun WZ hz => ?_) | (go_step; first | refine store_step (vs := pkA noPk) rfl rfl HR2.out (by rfl) (by kernel_rfl) (by simp [Value.oneCell', pkA]) (fun WZ hz => ?_) | (go_step; first | refine store_step (vs := pkA noPk) rfl rfl HR2.out (by rfl) (by kernel_rfl) (by simp [Value.oneCell', pkA]) (fun WZ hz => ?_) | (go_step; first | refine store_step (vs := pkA noPk) rfl rfl HR2.out (by rfl) (by kernel_rfl) (by simp [Value.oneCell', pkA]) (fun WZ hz => ?_) | (go_step; first | refine store_step (vs := pkA noPk) rfl rfl HR2.out (by rfl) (by kernel_rfl) (by simp [Value.oneCell', pkA]) (fun WZ hz => ?_) | (go_step; first | refine store_step (vs := pkA noPk) rfl rfl HR2.out (by rfl) (by kernel_rfl) (by simp [Value.oneCell', pkA]) (fun WZ hz => ?_) | (go_step; first | refine store_step (vs := pkA noPk) rfl rfl HR2.out (by rfl) (by kernel_rfl) (by simp [Value.oneCell', pkA]) (fun WZ hz => ?_) | (go_step; first | refine store_step (vs := pkA noPk) rfl rfl HR2.out (by rfl) (by kernel_rfl) (by simp [Value.oneCell', pkA]) (fun WZ hz => ?_) | (go_step; first | refine store_step (vs := pkA noPk) rfl rfl HR2.out (by rfl) (by kernel_rfl) (by simp [Value.oneCell', pkA]) (fun WZ hz => ?_) | (go_step; first | refine store_step (vs := pkA noPk) rfl rfl HR2.out (by rfl) (by kernel_rfl) (by simp [Value.oneCell', pkA]) (fun WZ hz => ?_) | (go_step; first | refine store_step (vs := pkA noPk) rfl rfl HR2.out (by rfl) (by kernel_rfl) (by simp [Value.oneCell', pkA]) (fun WZ hz => ?_) | (go_step; first | refine store_step (vs := pkA noPk) rfl rfl HR2.out (by rfl) (by kernel_rfl) (by simp [Value.oneCell', pkA]) (fun WZ hz => ?_) | (go_step; refine store_step (vs := pkA noPk) rfl rfl HR2.out (by rfl) (by kernel_rfl) (by simp [Value.oneCell', pkA]) (fun WZ hz => ?_)))))))))))))))
        have HZ := Lib.hid (And.intro hz.blk (hz.below HB2.out (Nat.le_refl _)))
        clear hz
        go_wp2_with fail
        exact bodyPost_ret (v := .tuple #[.agg (pkA noPk), .int .i64 4]) (results_cell2 Tryz.results6 rfl rfl HZ.out.1 (by kernel_rfl) (by kernel_rfl)) rfl (HNO.out HF.out _ _ (by decide) HZ.out.2)
      · have HK := Lib.hid hk
        clear hk c7
        go_wp2_with fail
        refine (readPart_any q HBare.out HQA.out HK.out P g off m cp bd W2 HAT.out hlb hncp hms HP2.out nP).mono ?_
        rintro e W3 ⟨rfl, h2, hrc3⟩
        have HR3 : Hid (W3.heap[w.heap.size]? = some (.cells (pkA noPk) 31 (0, 0))) := Lib.hid ((hrc3.block _ (lt_of_block HR2.out) hPn).trans HR2.out)
        have HB3 : Hid (Below w.heap.size w W3) := Lib.hid (bl_chg HB2.out hrc3 hPw)
        have HAT3 := Lib.hid (HAT.out.rc hrc3 nP)
        cases hok : partOk q bd
        · have HF : Hid (readP b = none) := Lib.hid (by rw [HRD.out]; unfold restP; rw [hok]; simp)
          clear h2 hrc3 hok
          go_upto_region 16 with (fail)
          first | refine store_step (vs := pkA noPk) rfl rfl HR3.out (by rfl) (by kernel_rfl) (by simp [Value.oneCell', pkA]) (fun WZ hz => ?_) | (go_step; first | refine store_step (vs := pkA noPk) rfl rfl HR3.out (by rfl) (by kernel_rfl) (by simp [Value.oneCell', pkA]) (fun WZ hz => ?_) | (go_step; first | refine store_step (vs := pkA noPk) rfl rfl HR3.out (by rfl) (by kernel_rfl) (by simp [Value.oneCell', pkA]) (fun WZ hz => ?_) | (go_step; first | refine store_step (vs := pkA noPk) rfl rfl HR3.out (by rfl) (by kernel_rfl) (by simp [Value.oneCell', pkA]) (fun WZ hz => ?_) | (go_step; first | refine store_step (vs := pkA noPk) rfl rfl HR3.out (by rfl) (by kernel_rfl) (by simp [Value.oneCell', pkA]) (fun WZ hz => ?_) | (go_step; first | refine store_step (vs := pkA noPk) rfl rfl HR3.out (by rfl) (by kernel_rfl) (by simp [Value.oneCell', pkA]) (fun WZ hz => ?_) | (go_step; first | refine store_step (vs := pkA noPk) rfl rfl HR3.out (by rfl) (by kernel_rfl) (by simp [Value.oneCell', pkA]) (fun WZ hz => ?_) | (go_step; first | refine store_step (vs := pkA noPk) rfl rfl HR3.out (by rfl) (by kernel_rfl) (by simp [Value.oneCell', pkA]) (fun WZ hz => ?_) | (go_step; first | refine store_step (vs := pkA noPk) rfl rfl HR3.out (by rfl) (by kernel_rfl) (by simp [Value.oneCell', pkA]) (fun WZ hz => ?_) | (go_step; first | refine store_step (vs := pkA noPk) rfl rfl HR3.out (by rfl) (by kernel_rfl) (by simp [Value.oneCell', pkA]) (fun WZ hz => ?_) | (go_step; first | refine store_step (vs := pkA noPk) rfl rfl HR3.out (by rfl) (by kernel_rfl) (by simp [Value.oneCell', pkA]) (fun WZ hz => ?_) | (go_step; first | refine store_step (vs := pkA noPk) rfl rfl HR3.out (by rfl) (by kernel_rfl) (by simp [Value.oneCell', pkA]) (fun WZ hz => ?_) | (go_step; first | refine store_step (vs := pkA noPk) rfl rfl HR3.out (by rfl) (by kernel_rfl) (by simp [Value.oneCell', pkA]) (fun WZ hz => ?_) | (go_step; first | refine store_step (vs := pkA noPk) rfl rfl HR3.out (by rfl) (by kernel_rfl) (by simp [Value.oneCell', pkA]) (fun WZ hz => ?_) | (go_step; refine store_step (vs := pkA noPk) rfl rfl HR3.out (by rfl) (by kernel_rfl) (by simp [Value.oneCell', pkA]) (fun WZ hz => ?_)))))))))))))))
          have HZ := Lib.hid (And.intro hz.blk (hz.below HB3.out (Nat.le_refl _)))
          clear hz
          go_wp2_with fail
          exact bodyPost_ret (v := .tuple #[.agg (pkA noPk), .int .i64 3]) (results_cell2 Tryz.results6 rfl rfl HZ.out.1 (by kernel_rfl) (by kernel_rfl)) rfl (HNO.out HF.out _ _ (by decide) HZ.out.2)
        · obtain ⟨A, c, hP3, hpay⟩ := h2 hok
          obtain ⟨q2, hq2⟩ : ∃ q2 : Pk, { fieldsP q bd with pA := A, pn := bd.length - leastP q.f.proto, pc := c } = q2 := ⟨_, rfl⟩
          rw [hq2] at hP3 hpay
          have hpn : q2.pn = bd.length - leastP q.f.proto := by rw [← hq2]
          have HQ2 := Lib.hid hq2
          have HOK := Lib.hid hok
          have hpr : q2.f.proto = q.f.proto := by rw [← hq2]; exact (prot_fields q bd).1
          have HPR := Lib.hid hpr
          have HPN := Lib.hid hpn
          have HP3 := Lib.hid hP3
          have HPY := Lib.hid hpay
          have c18 : W3.cell? ⟨P, 18, none⟩ = some (.slice q2.pA q2.pn q2.pc) := cell_of hP3 18
          have c7 : W3.cell? ⟨P, 7, none⟩ = some (.int .i64 q2.f.proto) := cell_of hP3 7
          have hPl3 : P < W3.heap.size := lt_of_block hP3
          clear h2 hrc3 hok hq2 hpn hpr hP3 hpay HP2 HR2 HAT HB2
          by_cases hle : q2.pn ≤ 1400
          · have d14 : decide ((1400 : Int) < (q2.pn : Int)) = false := by simp; omega
            have HLE := Lib.hid hle
            have hleast : atP q2.f.proto + 1 < leastP q.f.proto := by
              rw [HPR.out]
              unfold atP leastP
              split <;> (try split) <;> omega
            have hlm : leastP q.f.proto ≤ m := by
              have := HOK.out
              unfold partOk at this
              simp only [Bool.and_eq_true, decide_eq_true_eq] at this
              rw [← hlb]
              exact this.1.1
            have hsum := fun W => sumAt_any q2.f.proto W
            obtain ⟨at_, hat⟩ : ∃ at_ : Nat, atP q2.f.proto = at_ := ⟨_, rfl⟩
            rw [hat] at hsum hleast
            have HATE := Lib.hid hat
            obtain ⟨pay, hpay⟩ : ∃ pay : List UInt8, bd.drop (leastP q.f.proto) = pay := ⟨_, rfl⟩
            rw [hpay] at HPY
            have HPAYE := Lib.hid hpay
            have HRR : Hid (PkR q2) := Lib.hid (by rw [← HQ2.out]; exact (fields_r HBare.out HK.out bd).pay _ _ _)
            have sa : IntKind.i64.wrap ((at_ : Int) + 2) = (at_ : Int) + 2 := IntWalk.i64_in _ (by omega)
            have ta : ((at_ : Int) + 2).toNat = at_ + 2 := by omega
            have ca : (at_ : Int) + 2 ≤ (cp : Int) := by omega
            have ca1 : at_ + 2 ≤ cp := by omega
            have na : ¬ cp = at_ := by omega
            have la : (at_ : Int) ≤ (at_ : Int) + 2 := by omega
            have la0 : (0 : Int) ≤ (at_ : Int) + 2 := by omega
            have aam : at_ + 2 ≤ bd.length := by omega
            have htl : takeN (subB bd at_ (at_ + 2)) < 65536 := by
              have h1 := takeN_lt (subB bd at_ (at_ + 2))
              have h2 : (subB bd at_ (at_ + 2)).length = 2 := by simp [subB]; omega
              rw [h2] at h1
              omega
            obtain ⟨tv, htv⟩ : ∃ tv : Nat, takeN (subB bd at_ (at_ + 2)) = tv := ⟨_, rfl⟩
            rw [htv] at htl
            have HTV := Lib.hid htv
            have stv : IntKind.i64.wrap (tv : Int) = (tv : Int) := IntWalk.i64_in _ (by omega)
            obtain ⟨sv, hsv⟩ : ∃ sv : Nat, partSumP q2 (partP q2 pay) = sv := ⟨_, rfl⟩
            have HSV := Lib.hid hsv
            have hplen := (part_len q2 pay).2
            have hpaylen : pay.length = q2.pn := HPY.out.len
            clear hat hpay htv hsv hleast hlm
            go_upto_region 19 with (fail)
            go_wp2_with (refine (hsum _).mono ?_; rintro e w9 ⟨rfl, rfl⟩)
            have HRES : Hid (readP b = if tv = sv then some (fieldsP q bd, pay) else none) := Lib.hid (by
              have h1 : takeN (subB bd (atP q.f.proto) (atP q.f.proto + 2)) = tv := by rw [← HPR.out, HATE.out]; exact HTV.out
              have h2 : partSumP (fieldsP q bd) (partP (fieldsP q bd) (bd.drop (leastP q.f.proto))) = sv := by rw [HPAYE.out, ← HSV.out, ← HQ2.out]; rfl
              rw [HRD.out]
              unfold restP
              rw [HK.out, HOK.out, ← HPN.out, decide_eq_true HLE.out, h1, h2, HPAYE.out]
              by_cases h : tv = sv <;> simp [h])
            have HYES : Hid (tv = sv → ∀ W, PayAt W q2 pay → Below w.heap.size w W → RdOut w b (.returned (.tuple #[.agg (pkA q2), .int .i64 0])) W) := Lib.hid (fun hts W h1 h2 => by
              have hr := HRES.out
              rw [if_pos hts] at hr
              refine ⟨fun q' pay' hq' => ?_, fun hq' => absurd (hq'.symm.trans hr) (by simp), h2⟩
              have hq' := Option.some.inj (hr.symm.trans hq')
              injection hq' with e1 e2
              subst e1 e2
              have e3 : { fieldsP q bd with pA := A, pn := pay.length, pc := c } = q2 := by rw [← HQ2.out, HPY.out.len, HPN.out]
              subst e3
              exact ⟨A, c, rfl, h1⟩)
            clear hpaylen
            have hpaylen : pay.length ≤ 1400 := by rw [HPY.out.len]; exact HLE.out
            go_upto_region 20 with (fail)
            go_cut [62] from 51 to 61 (fun v62 wc => v62 = .bool ((tv : Int) != (sv : Int)) ∧ Below W3.heap.size W3 wc)
            case first =>
              refine wp_region_drawn 11 (fun f' => ⟨#[.slice (some ⟨g, 0, none⟩) n cap, undef, .pointer (some ⟨w.heap.size, 0, none⟩), .int .i64 0, .pointer (some ⟨P, 0, none⟩), .slice (some ⟨g, off, none⟩) m cp, .int .i64 0, .int .i64 at_, .slice (some ⟨g, 0, none⟩) n cap, .int .i64 n, .bool false, undef, .agg #[Value.bool false, Value.int IntKind.u64 0, Value.int IntKind.u64 0, Value.bool false, Value.int IntKind.u64 0, Value.int IntKind.u64 0, Value.int IntKind.i64 0, Value.int IntKind.i64 0, Value.int IntKind.i64 0, Value.int IntKind.i64 0, Value.bool false, Value.bool false, Value.bool false, Value.bool false, Value.int IntKind.i64 0, Value.int IntKind.i64 0, Value.bool false, Value.int IntKind.i64 0, Value.slice none 0 0], .slice (some ⟨g, 0, none⟩) n cap, .pointer (some ⟨g, 0, none⟩), .int .u8 y0.toNat, .bool true, .bool true, .tuple #[Value.slice (some { block := g, off := off }) m cp, Value.int IntKind.i64 0], .slice (some ⟨g, 0, none⟩) n cap, .tuple #[Value.slice (some { block := g, off := off }) m cp, Value.int IntKind.i64 0], .slice (some ⟨g, off, none⟩) m cp, .int .i64 0, undef, undef, undef, undef, undef, undef, undef, .int .i64 0, .bool false, undef, undef, .pointer (some ⟨P, 7, none⟩), .int .i64 q.f.proto, .bool true, .bool false, undef, .slice (some ⟨g, off, none⟩) m cp, .bool true, .bool false, undef, .pointer (some ⟨P, 18, none⟩), .slice q2.pA q2.pn q2.pc, .int .i64 q2.pn, .bool false, undef, .pointer (some ⟨P, 7, none⟩), .int .i64 q2.f.proto, .int .i64 at_, f' 0, f' 1, f' 2, f' 3, f' 4, f' 5, f' 6, f' 7, f' 8, f' 9, f' 10, undef, undef, undef], []⟩) (VL [VIs (.slice (some ⟨g, off, none⟩) m cp), VIs (.int .i64 at_), VIs (.int .i64 at_), VIs (.int .i64 ((at_ : Int) + 2)), VIs (.slice (some ⟨g, off + at_, none⟩) 2 (cp - at_)), VIs (.int .u64 tv), VIs (.int .i64 tv), VIs (.agg (pkA q2)), VIs (.agg (pkA q2)), (fun w' v => ∃ A6 n6 c6, v = .slice A6 n6 c6 ∧ bAt w' A6 (partP q2 pay) ∧ (partP q2 pay).length = n6 ∧ (A6 = none → c6 = 0)), VIs (.int .i64 sv)]) (fun _ w' => Below W3.heap.size W3 w') (fun w w' => w.grownBy w' none) (fun _ => undef) (show Tryz.prog.follows .mixedOrders = true from by kernel_rfl) (by kernel_rfl) ?_ ?_ ?_ ((Below.refl _ _).drew)
              · exact fun i w w' v h hg => VL.stabG (Gr := fun w w' => w.grownBy w' none) (by
                  intro q hq w w' v hv hg
                  simp only [List.mem_cons, List.mem_nil_iff, or_false] at hq
                  rcases hq with rfl | rfl | rfl | rfl | rfl | rfl | rfl | rfl | rfl | rfl | rfl <;> first | exact hv | (obtain ⟨A6, n6, c6, h1, h2, h3, h4⟩ := hv; exact ⟨A6, n6, c6, h1, h2.below ⟨hg.os, hg.tape, hg.output, hg.size, fun k hk => hg.block k hk (by simp)⟩, h3, h4⟩)) i w w' v h hg
              · intro i o hi ho f' w' k hk hG hd
                have HBW := Lib.hid (HAT3.out.below hG)
                have HPW := Lib.hid ((hG.block P hPl3).trans HP3.out)
                have HPYW := Lib.hid (HPY.out.below hG)
                have HG := Lib.hid hG
                clear hG
                have hcase : i = 0 ∨ i = 1 ∨ i = 2 ∨ i = 3 ∨ i = 4 ∨ i = 5 ∨ i = 6 ∨ i = 7 ∨ i = 8 ∨ i = 9 ∨ i = 10 := by omega
                rcases hcase with rfl | rfl | rfl | rfl | rfl | rfl | rfl | rfl | rfl | rfl | rfl <;> (replace ho := Option.some.inj ho; subst ho)
                · unfold Oper.wp
                  go_simp
                  exact ⟨_, (by first | (simp [upd]; done) | (simp [upd]; omega)), rfl, HG.out, World.grownBy.refl _ _⟩
                · unfold Oper.wp
                  go_simp
                  exact ⟨_, (by first | (simp [upd]; done) | (simp [upd]; omega)), rfl, HG.out, World.grownBy.refl _ _⟩
                · unfold Oper.wp
                  go_simp
                  exact ⟨_, (by first | (simp [upd]; done) | (simp [upd]; omega)), rfl, HG.out, World.grownBy.refl _ _⟩
                · have e2 : f' 2 = _ := hd ⟨2, .data⟩ (by simp) rfl
                  unfold Oper.wp
                  go_simp
                  exact ⟨_, (by first | (simp [upd, e2]; done) | (simp [upd, e2]; omega)), rfl, HG.out, World.grownBy.refl _ _⟩
                · have e0 : f' 0 = _ := hd ⟨0, .data⟩ (by simp) rfl
                  have e1 : f' 1 = _ := hd ⟨1, .data⟩ (by simp) rfl
                  have e3 : f' 3 = _ := hd ⟨3, .data⟩ (by simp) rfl
                  unfold Oper.wp
                  go_simp
                  exact ⟨_, (by first | (simp [upd, e0, e1, e3]; done) | (simp [upd, e0, e1, e3, ta]; done) | (simp [upd, e0, e1, e3]; omega)), rfl, HG.out, World.grownBy.refl _ _⟩
                · have e4 : f' 4 = _ := hd ⟨4, .data⟩ (by simp) rfl
                  unfold Oper.wp
                  go_simp
                  refine (take_sub g off (cp - at_) bd at_ 2 w' HBW.out (by omega) aam).mono ?_
                  rintro e w9 ⟨rfl, rfl⟩
                  exact ⟨_, (by simp [upd, e4, HTV.out]), rfl, HG.out, World.grownBy.refl _ _⟩
                · have e5 : f' 5 = _ := hd ⟨5, .data⟩ (by simp) rfl
                  unfold Oper.wp
                  go_simp
                  exact ⟨_, (by first | (simp [upd, e5]; done) | (simp [upd, e5]; omega)), rfl, HG.out, World.grownBy.refl _ _⟩
                · refine load_step rfl HPW.out (by kernel_rfl) (by kernel_rfl) ?_
                  exact ⟨_, rfl, rfl, HG.out, World.grownBy.refl _ _⟩
                · refine load_step rfl HPW.out (by kernel_rfl) (by kernel_rfl) ?_
                  exact ⟨_, rfl, rfl, HG.out, World.grownBy.refl _ _⟩
                · have e8 : f' 8 = _ := hd ⟨8, .data⟩ (by simp) rfl
                  unfold Oper.wp
                  go_simp
                  refine (partOf_any q2 HRR.out pay w' HPYW.out).mono ?_
                  rintro e W5 ⟨A6, n6, c6, rfl, ho6, hb6⟩
                  exact ⟨_, (by simp [upd, e8]), ⟨A6, n6, c6, rfl, ho6.at_, ho6.1, ho6.nilc⟩, HG.out.trans (hb6.mono HG.out.size), grownB hb6 none⟩
                · have e7 : f' 7 = _ := hd ⟨7, .data⟩ (by simp) rfl
                  have h9 : ∃ A6 n6 c6, f' 9 = .slice A6 n6 c6 ∧ bAt w' A6 (partP q2 pay) ∧ (partP q2 pay).length = n6 ∧ (A6 = none → c6 = 0) := hd ⟨9, .data⟩ (by simp) rfl
                  obtain ⟨A6, n6, c6, e9, hat6, hl6, hn6⟩ := h9
                  unfold Oper.wp
                  go_simp
                  refine (partSum_any q2 HRR.out A6 n6 c6 (partP q2 pay) _ hat6 hl6 hn6 (by have := HLE.out; omega)).mono ?_
                  rintro e W5 ⟨rfl, hb5⟩
                  exact ⟨_, (by simp [upd, e7, e9, HSV.out]), rfl, HG.out.trans (hb5.mono HG.out.size), grownB hb5 none⟩
              · intro o ho f' w' k hk hG hd
                have HBW := Lib.hid (HAT3.out.below hG)
                have HPW := Lib.hid ((hG.block P hPl3).trans HP3.out)
                have HPYW := Lib.hid (HPY.out.below hG)
                have HG := Lib.hid hG
                clear hG
                have e6 : f' 6 = _ := hd 6 (by omega)
                have e10 : f' 10 = _ := hd 10 (by omega)
                replace ho := Option.some.inj ho
                subst ho
                unfold Oper.wp
                go_simp
                go_step
                go_meet
                first | exact ⟨rfl, HG.out⟩ | exact ⟨by simp, HG.out⟩
            case rest =>
            obtain ⟨rfl, hb4⟩ := hcut
            obtain ⟨W4, rfl⟩ : ∃ W4 : World, W4 = wc := ⟨_, rfl⟩
            have HR4 : Hid (W4.heap[w.heap.size]? = some (.cells (pkA noPk) 31 (0, 0))) := Lib.hid ((hb4.block _ (lt_of_block HR3.out)).trans HR3.out)
            have HB4 : Hid (Below w.heap.size w W4) := Lib.hid (HB3.out.trans (hb4.mono HB3.out.size))
            have HPY4 := Lib.hid (HPY.out.below hb4)
            have hP4 := (hb4.block P hPl3).trans HP3.out
            clear hb4
            by_cases hts : tv = sv
            · have e62 : ((tv : Int) != (sv : Int)) = false := by simp [hts]
              have HTS := Lib.hid hts
              clear hts
              go_upto_region 22 with (fail)
              first | refine load_step rfl hP4 (by kernel_rfl) (by kernel_rfl) ?_ | (go_step; first | refine load_step rfl hP4 (by kernel_rfl) (by kernel_rfl) ?_ | (go_step; first | refine load_step rfl hP4 (by kernel_rfl) (by kernel_rfl) ?_ | (go_step; first | refine load_step rfl hP4 (by kernel_rfl) (by kernel_rfl) ?_ | (go_step; first | refine load_step rfl hP4 (by kernel_rfl) (by kernel_rfl) ?_ | (go_step; first | refine load_step rfl hP4 (by kernel_rfl) (by kernel_rfl) ?_ | (go_step; first | refine load_step rfl hP4 (by kernel_rfl) (by kernel_rfl) ?_ | (go_step; first | refine load_step rfl hP4 (by kernel_rfl) (by kernel_rfl) ?_ | (go_step; first | refine load_step rfl hP4 (by kernel_rfl) (by kernel_rfl) ?_ | (go_step; first | refine load_step rfl hP4 (by kernel_rfl) (by kernel_rfl) ?_ | (go_step; first | refine load_step rfl hP4 (by kernel_rfl) (by kernel_rfl) ?_ | (go_step; first | refine load_step rfl hP4 (by kernel_rfl) (by kernel_rfl) ?_ | (go_step; first | refine load_step rfl hP4 (by kernel_rfl) (by kernel_rfl) ?_ | (go_step; first | refine load_step rfl hP4 (by kernel_rfl) (by kernel_rfl) ?_ | (go_step; refine load_step rfl hP4 (by kernel_rfl) (by kernel_rfl) ?_))))))))))))))
              first | refine store_step (vs := pkA q2) rfl rfl HR4.out (by rfl) (by kernel_rfl) (by simp [Value.oneCell', pkA]) (fun WZ hz => ?_) | (go_step; first | refine store_step (vs := pkA q2) rfl rfl HR4.out (by rfl) (by kernel_rfl) (by simp [Value.oneCell', pkA]) (fun WZ hz => ?_) | (go_step; first | refine store_step (vs := pkA q2) rfl rfl HR4.out (by rfl) (by kernel_rfl) (by simp [Value.oneCell', pkA]) (fun WZ hz => ?_) | (go_step; first | refine store_step (vs := pkA q2) rfl rfl HR4.out (by rfl) (by kernel_rfl) (by simp [Value.oneCell', pkA]) (fun WZ hz => ?_) | (go_step; first | refine store_step (vs := pkA q2) rfl rfl HR4.out (by rfl) (by kernel_rfl) (by simp [Value.oneCell', pkA]) (fun WZ hz => ?_) | (go_step; first | refine store_step (vs := pkA q2) rfl rfl HR4.out (by rfl) (by kernel_rfl) (by simp [Value.oneCell', pkA]) (fun WZ hz => ?_) | (go_step; first | refine store_step (vs := pkA q2) rfl rfl HR4.out (by rfl) (by kernel_rfl) (by simp [Value.oneCell', pkA]) (fun WZ hz => ?_) | (go_step; first | refine store_step (vs := pkA q2) rfl rfl HR4.out (by rfl) (by kernel_rfl) (by simp [Value.oneCell', pkA]) (fun WZ hz => ?_) | (go_step; first | refine store_step (vs := pkA q2) rfl rfl HR4.out (by rfl) (by kernel_rfl) (by simp [Value.oneCell', pkA]) (fun WZ hz => ?_) | (go_step; first | refine store_step (vs := pkA q2) rfl rfl HR4.out (by rfl) (by kernel_rfl) (by simp [Value.oneCell', pkA]) (fun WZ hz => ?_) | (go_step; first | refine store_step (vs := pkA q2) rfl rfl HR4.out (by rfl) (by kernel_rfl) (by simp [Value.oneCell', pkA]) (fun WZ hz => ?_) | (go_step; first | refine store_step (vs := pkA q2) rfl rfl HR4.out (by rfl) (by kernel_rfl) (by simp [Value.oneCell', pkA]) (fun WZ hz => ?_) | (go_step; first | refine store_step (vs := pkA q2) rfl rfl HR4.out (by rfl) (by kernel_rfl) (by simp [Value.oneCell', pkA]) (fun WZ hz => ?_) | (go_step; first | refine store_step (vs := pkA q2) rfl rfl HR4.out (by rfl) (by kernel_rfl) (by simp [Value.oneCell', pkA]) (fun WZ hz => ?_) | (go_step; refine store_step (vs := pkA q2) rfl rfl HR4.out (by rfl) (by kernel_rfl) (by simp [Value.oneCell', pkA]) (fun WZ hz => ?_)))))))))))))))
              have HZ := Lib.hid (And.intro hz.blk (And.intro (hz.below HB4.out (Nat.le_refl _)) (HPY4.out.re HR4.out hz)))
              clear hz hP4
              go_wp2_with fail
              exact bodyPost_ret (v := .tuple #[.agg (pkA q2), .int .i64 0]) (results_cell2 Tryz.results6 rfl rfl HZ.out.1 (by kernel_rfl) (by kernel_rfl)) rfl (HYES.out HTS.out _ HZ.out.2.2 HZ.out.2.1)
            · have e62 : ((tv : Int) != (sv : Int)) = true := by simp; omega
              have HF : Hid (readP b = none) := Lib.hid (by rw [HRES.out, if_neg hts])
              clear hts hP4
              go_upto_region 21 with (fail)
              first | refine store_step (vs := pkA noPk) rfl rfl HR4.out (by rfl) (by kernel_rfl) (by simp [Value.oneCell', pkA]) (fun WZ hz => ?_) | (go_step; first | refine store_step (vs := pkA noPk) rfl rfl HR4.out (by rfl) (by kernel_rfl) (by simp [Value.oneCell', pkA]) (fun WZ hz => ?_) | (go_step; first | refine store_step (vs := pkA noPk) rfl rfl HR4.out (by rfl) (by kernel_rfl) (by simp [Value.oneCell', pkA]) (fun WZ hz => ?_) | (go_step; first | refine store_step (vs := pkA noPk) rfl rfl HR4.out (by rfl) (by kernel_rfl) (by simp [Value.oneCell', pkA]) (fun WZ hz => ?_) | (go_step; first | refine store_step (vs := pkA noPk) rfl rfl HR4.out (by rfl) (by kernel_rfl) (by simp [Value.oneCell', pkA]) (fun WZ hz => ?_) | (go_step; first | refine store_step (vs := pkA noPk) rfl rfl HR4.out (by rfl) (by kernel_rfl) (by simp [Value.oneCell', pkA]) (fun WZ hz => ?_) | (go_step; first | refine store_step (vs := pkA noPk) rfl rfl HR4.out (by rfl) (by kernel_rfl) (by simp [Value.oneCell', pkA]) (fun WZ hz => ?_) | (go_step; first | refine store_step (vs := pkA noPk) rfl rfl HR4.out (by rfl) (by kernel_rfl) (by simp [Value.oneCell', pkA]) (fun WZ hz => ?_) | (go_step; first | refine store_step (vs := pkA noPk) rfl rfl HR4.out (by rfl) (by kernel_rfl) (by simp [Value.oneCell', pkA]) (fun WZ hz => ?_) | (go_step; first | refine store_step (vs := pkA noPk) rfl rfl HR4.out (by rfl) (by kernel_rfl) (by simp [Value.oneCell', pkA]) (fun WZ hz => ?_) | (go_step; first | refine store_step (vs := pkA noPk) rfl rfl HR4.out (by rfl) (by kernel_rfl) (by simp [Value.oneCell', pkA]) (fun WZ hz => ?_) | (go_step; first | refine store_step (vs := pkA noPk) rfl rfl HR4.out (by rfl) (by kernel_rfl) (by simp [Value.oneCell', pkA]) (fun WZ hz => ?_) | (go_step; first | refine store_step (vs := pkA noPk) rfl rfl HR4.out (by rfl) (by kernel_rfl) (by simp [Value.oneCell', pkA]) (fun WZ hz => ?_) | (go_step; first | refine store_step (vs := pkA noPk) rfl rfl HR4.out (by rfl) (by kernel_rfl) (by simp [Value.oneCell', pkA]) (fun WZ hz => ?_) | (go_step; refine store_step (vs := pkA noPk) rfl rfl HR4.out (by rfl) (by kernel_rfl) (by simp [Value.oneCell', pkA]) (fun WZ hz => ?_)))))))))))))))
              have HZ := Lib.hid (And.intro hz.blk (hz.below HB4.out (Nat.le_refl _)))
              clear hz
              go_wp2_with fail
              exact bodyPost_ret (v := .tuple #[.agg (pkA noPk), .int .i64 15]) (results_cell2 Tryz.results6 rfl rfl HZ.out.1 (by kernel_rfl) (by kernel_rfl)) rfl (HNO.out HF.out _ _ (by decide) HZ.out.2)
          · have d14 : decide ((1400 : Int) < (q2.pn : Int)) = true := by simp; omega
            have HF : Hid (readP b = none) := Lib.hid (by rw [HRD.out]; unfold restP; rw [← HPN.out, decide_eq_false hle]; simp)
            clear hle
            go_upto_region 18 with (fail)
            first | refine store_step (vs := pkA noPk) rfl rfl HR3.out (by rfl) (by kernel_rfl) (by simp [Value.oneCell', pkA]) (fun WZ hz => ?_) | (go_step; first | refine store_step (vs := pkA noPk) rfl rfl HR3.out (by rfl) (by kernel_rfl) (by simp [Value.oneCell', pkA]) (fun WZ hz => ?_) | (go_step; first | refine store_step (vs := pkA noPk) rfl rfl HR3.out (by rfl) (by kernel_rfl) (by simp [Value.oneCell', pkA]) (fun WZ hz => ?_) | (go_step; first | refine store_step (vs := pkA noPk) rfl rfl HR3.out (by rfl) (by kernel_rfl) (by simp [Value.oneCell', pkA]) (fun WZ hz => ?_) | (go_step; first | refine store_step (vs := pkA noPk) rfl rfl HR3.out (by rfl) (by kernel_rfl) (by simp [Value.oneCell', pkA]) (fun WZ hz => ?_) | (go_step; first | refine store_step (vs := pkA noPk) rfl rfl HR3.out (by rfl) (by kernel_rfl) (by simp [Value.oneCell', pkA]) (fun WZ hz => ?_) | (go_step; first | refine store_step (vs := pkA noPk) rfl rfl HR3.out (by rfl) (by kernel_rfl) (by simp [Value.oneCell', pkA]) (fun WZ hz => ?_) | (go_step; first | refine store_step (vs := pkA noPk) rfl rfl HR3.out (by rfl) (by kernel_rfl) (by simp [Value.oneCell', pkA]) (fun WZ hz => ?_) | (go_step; first | refine store_step (vs := pkA noPk) rfl rfl HR3.out (by rfl) (by kernel_rfl) (by simp [Value.oneCell', pkA]) (fun WZ hz => ?_) | (go_step; first | refine store_step (vs := pkA noPk) rfl rfl HR3.out (by rfl) (by kernel_rfl) (by simp [Value.oneCell', pkA]) (fun WZ hz => ?_) | (go_step; first | refine store_step (vs := pkA noPk) rfl rfl HR3.out (by rfl) (by kernel_rfl) (by simp [Value.oneCell', pkA]) (fun WZ hz => ?_) | (go_step; first | refine store_step (vs := pkA noPk) rfl rfl HR3.out (by rfl) (by kernel_rfl) (by simp [Value.oneCell', pkA]) (fun WZ hz => ?_) | (go_step; first | refine store_step (vs := pkA noPk) rfl rfl HR3.out (by rfl) (by kernel_rfl) (by simp [Value.oneCell', pkA]) (fun WZ hz => ?_) | (go_step; first | refine store_step (vs := pkA noPk) rfl rfl HR3.out (by rfl) (by kernel_rfl) (by simp [Value.oneCell', pkA]) (fun WZ hz => ?_) | (go_step; refine store_step (vs := pkA noPk) rfl rfl HR3.out (by rfl) (by kernel_rfl) (by simp [Value.oneCell', pkA]) (fun WZ hz => ?_)))))))))))))))
            have HZ := Lib.hid (And.intro hz.blk (hz.below HB3.out (Nat.le_refl _)))
            clear hz
            go_wp2_with fail
            exact bodyPost_ret (v := .tuple #[.agg (pkA noPk), .int .i64 2]) (results_cell2 Tryz.results6 rfl rfl HZ.out.1 (by kernel_rfl) (by kernel_rfl)) rfl (HNO.out HF.out _ _ (by decide) HZ.out.2)
  · have e45 : ((y0.toNat : Int) == 69) = false := by simp; omega
    by_cases h60 : y0.toNat = 96
    · have e60 : ((y0.toNat : Int) == 96) = true := by simp; omega
      have HRP : Hid (readP b = if ok6 b then restP (pk6 b) (b.drop 40) else none) := Lib.hid (by unfold readP; rw [if_neg (by omega), HY.out, if_neg h45, if_pos h60])
      clear h45 h60
      have hrd : Calls Tryz.prog 19 #[.pointer (some ⟨P, 0, none⟩), .slice (some ⟨g, 0, none⟩) n cap] W1 (HeadOut P g n W1 (ok6 b) 40 (pk6 b) b) := readSix_any P g n cap b W1 HA1.out hl (by omega) hc hs HP1.out nP
      go_wp2_with fail
      refine hrd.mono ?_
      rintro e W2 ⟨h1, h2, hrc⟩
      clear hrd c0
      have HR2 : Hid (W2.heap[w.heap.size]? = some (.cells (pkA noPk) 31 (0, 0))) := Lib.hid ((hrc.block _ hRl hPn).trans HR1.out)
      have HB2 : Hid (Below w.heap.size w W2) := Lib.hid (bl_chg HB1.out hrc hPw)
      clear hrc
      cases hok : ok6 b
      · obtain ⟨c, hc0, rfl⟩ := h2 hok
        have HF : Hid (readP b = none) := Lib.hid (by rw [HRP.out, hok]; rfl)
        have ec : (c != 0) = true := by simp [hc0]
        have HC0 := Lib.hid hc0
        clear h1 h2 hok hc0
        go_upto_region 12 with (fail)
        first | refine store_step (vs := pkA noPk) rfl rfl HR2.out (by rfl) (by kernel_rfl) (by simp [Value.oneCell', pkA]) (fun WZ hz => ?_) | (go_step; first | refine store_step (vs := pkA noPk) rfl rfl HR2.out (by rfl) (by kernel_rfl) (by simp [Value.oneCell', pkA]) (fun WZ hz => ?_) | (go_step; first | refine store_step (vs := pkA noPk) rfl rfl HR2.out (by rfl) (by kernel_rfl) (by simp [Value.oneCell', pkA]) (fun WZ hz => ?_) | (go_step; first | refine store_step (vs := pkA noPk) rfl rfl HR2.out (by rfl) (by kernel_rfl) (by simp [Value.oneCell', pkA]) (fun WZ hz => ?_) | (go_step; first | refine store_step (vs := pkA noPk) rfl rfl HR2.out (by rfl) (by kernel_rfl) (by simp [Value.oneCell', pkA]) (fun WZ hz => ?_) | (go_step; first | refine store_step (vs := pkA noPk) rfl rfl HR2.out (by rfl) (by kernel_rfl) (by simp [Value.oneCell', pkA]) (fun WZ hz => ?_) | (go_step; first | refine store_step (vs := pkA noPk) rfl rfl HR2.out (by rfl) (by kernel_rfl) (by simp [Value.oneCell', pkA]) (fun WZ hz => ?_) | (go_step; first | refine store_step (vs := pkA noPk) rfl rfl HR2.out (by rfl) (by kernel_rfl) (by simp [Value.oneCell', pkA]) (fun WZ hz => ?_) | (go_step; first | refine store_step (vs := pkA noPk) rfl rfl HR2.out (by rfl) (by kernel_rfl) (by simp [Value.oneCell', pkA]) (fun WZ hz => ?_) | (go_step; first | refine store_step (vs := pkA noPk) rfl rfl HR2.out (by rfl) (by kernel_rfl) (by simp [Value.oneCell', pkA]) (fun WZ hz => ?_) | (go_step; first | refine store_step (vs := pkA noPk) rfl rfl HR2.out (by rfl) (by kernel_rfl) (by simp [Value.oneCell', pkA]) (fun WZ hz => ?_) | (go_step; first | refine store_step (vs := pkA noPk) rfl rfl HR2.out (by rfl) (by kernel_rfl) (by simp [Value.oneCell', pkA]) (fun WZ hz => ?_) | (go_step; first | refine store_step (vs := pkA noPk) rfl rfl HR2.out (by rfl) (by kernel_rfl) (by simp [Value.oneCell', pkA]) (fun WZ hz => ?_) | (go_step; first | refine store_step (vs := pkA noPk) rfl rfl HR2.out (by rfl) (by kernel_rfl) (by simp [Value.oneCell', pkA]) (fun WZ hz => ?_) | (go_step; refine store_step (vs := pkA noPk) rfl rfl HR2.out (by rfl) (by kernel_rfl) (by simp [Value.oneCell', pkA]) (fun WZ hz => ?_)))))))))))))))
        have HZ := Lib.hid (And.intro hz.blk (hz.below HB2.out (Nat.le_refl _)))
        clear hz
        go_wp2_with fail
        exact bodyPost_ret (v := .tuple #[.agg (pkA noPk), .int .i64 c]) (results_cell2 Tryz.results6 rfl rfl HZ.out.1 (by kernel_rfl) (by kernel_rfl)) rfl (HNO.out HF.out _ _ HC0.out HZ.out.2)
      · have hd : True := trivial
        obtain ⟨off, cp, rfl, hat, hncp, hP2⟩ := h1 hok
        have HRD : Hid (readP b = restP (pk6 b) (b.drop 40)) := Lib.hid (by rw [HRP.out, hok]; rfl)
        have HBare : Hid (Bare (pk6 b)) := Lib.hid (bare6 b)
        have HQA : Hid ((pk6 b).pA = none ∧ (pk6 b).pc = 0) := Lib.hid ⟨rfl, rfl⟩
        have hlb : (b.drop 40).length = n - 40 := by rw [List.length_drop, hl]
        have hms : n - 40 ≤ 5000 := by omega
        generalize (pk6 b) = q at HRD HBare HQA hP2
        generalize (b.drop 40) = bd at HRD hat hlb
        generalize (n - 40) = m at hlb hncp hms ⊢
        have HAT := Lib.hid hat
        have HP2 := Lib.hid hP2
        have c7 : W2.cell? ⟨P, 7, none⟩ = some (.int .i64 q.f.proto) := cell_of hP2 7
        have hPl2 : P < W2.heap.size := lt_of_block hP2
        clear hat hP2 h1 h2 hok HRP hPl
        go_wp2_with fail
        refine (isKnown_all q.f.proto W2).mono ?_
        rintro e w9 ⟨rfl, rfl⟩
        cases hk : knownP q.f.proto
        · have HF : Hid (readP b = none) := Lib.hid (by rw [HRD.out]; unfold restP; rw [hk]; simp)
          go_upto_region 14 with (fail)
          first | refine store_step (vs := pkA noPk) rfl rfl HR2.out (by rfl) (by kernel_rfl) (by simp [Value.oneCell', pkA]) (fun WZ hz => ?_) | (go_step; first | refine store_step (vs := pkA noPk) rfl rfl HR2.out (by rfl) (by kernel_rfl) (by simp [Value.oneCell', pkA]) (fun WZ hz => ?_) | (go_step; first | refine store_step (vs := pkA noPk) rfl rfl HR2.out (by rfl) (by kernel_rfl) (by simp [Value.oneCell', pkA]) (fun WZ hz => ?_) | (go_step; first | refine store_step (vs := pkA noPk) rfl rfl HR2.out (by rfl) (by kernel_rfl) (by simp [Value.oneCell', pkA]) (fun WZ hz => ?_) | (go_step; first | refine store_step (vs := pkA noPk) rfl rfl HR2.out (by rfl) (by kernel_rfl) (by simp [Value.oneCell', pkA]) (fun WZ hz => ?_) | (go_step; first | refine store_step (vs := pkA noPk) rfl rfl HR2.out (by rfl) (by kernel_rfl) (by simp [Value.oneCell', pkA]) (fun WZ hz => ?_) | (go_step; first | refine store_step (vs := pkA noPk) rfl rfl HR2.out (by rfl) (by kernel_rfl) (by simp [Value.oneCell', pkA]) (fun WZ hz => ?_) | (go_step; first | refine store_step (vs := pkA noPk) rfl rfl HR2.out (by rfl) (by kernel_rfl) (by simp [Value.oneCell', pkA]) (fun WZ hz => ?_) | (go_step; first | refine store_step (vs := pkA noPk) rfl rfl HR2.out (by rfl) (by kernel_rfl) (by simp [Value.oneCell', pkA]) (fun WZ hz => ?_) | (go_step; first | refine store_step (vs := pkA noPk) rfl rfl HR2.out (by rfl) (by kernel_rfl) (by simp [Value.oneCell', pkA]) (fun WZ hz => ?_) | (go_step; first | refine store_step (vs := pkA noPk) rfl rfl HR2.out (by rfl) (by kernel_rfl) (by simp [Value.oneCell', pkA]) (fun WZ hz => ?_) | (go_step; first | refine store_step (vs := pkA noPk) rfl rfl HR2.out (by rfl) (by kernel_rfl) (by simp [Value.oneCell', pkA]) (fun WZ hz => ?_) | (go_step; first | refine store_step (vs := pkA noPk) rfl rfl HR2.out (by rfl) (by kernel_rfl) (by simp [Value.oneCell', pkA]) (fun WZ hz => ?_) | (go_step; first | refine store_step (vs := pkA noPk) rfl rfl HR2.out (by rfl) (by kernel_rfl) (by simp [Value.oneCell', pkA]) (fun WZ hz => ?_) | (go_step; refine store_step (vs := pkA noPk) rfl rfl HR2.out (by rfl) (by kernel_rfl) (by simp [Value.oneCell', pkA]) (fun WZ hz => ?_)))))))))))))))
          have HZ := Lib.hid (And.intro hz.blk (hz.below HB2.out (Nat.le_refl _)))
          clear hz
          go_wp2_with fail
          exact bodyPost_ret (v := .tuple #[.agg (pkA noPk), .int .i64 4]) (results_cell2 Tryz.results6 rfl rfl HZ.out.1 (by kernel_rfl) (by kernel_rfl)) rfl (HNO.out HF.out _ _ (by decide) HZ.out.2)
        · have HK := Lib.hid hk
          clear hk c7
          go_wp2_with fail
          refine (readPart_any q HBare.out HQA.out HK.out P g off m cp bd W2 HAT.out hlb hncp hms HP2.out nP).mono ?_
          rintro e W3 ⟨rfl, h2, hrc3⟩
          have HR3 : Hid (W3.heap[w.heap.size]? = some (.cells (pkA noPk) 31 (0, 0))) := Lib.hid ((hrc3.block _ (lt_of_block HR2.out) hPn).trans HR2.out)
          have HB3 : Hid (Below w.heap.size w W3) := Lib.hid (bl_chg HB2.out hrc3 hPw)
          have HAT3 := Lib.hid (HAT.out.rc hrc3 nP)
          cases hok : partOk q bd
          · have HF : Hid (readP b = none) := Lib.hid (by rw [HRD.out]; unfold restP; rw [hok]; simp)
            clear h2 hrc3 hok
            go_upto_region 16 with (fail)
            first | refine store_step (vs := pkA noPk) rfl rfl HR3.out (by rfl) (by kernel_rfl) (by simp [Value.oneCell', pkA]) (fun WZ hz => ?_) | (go_step; first | refine store_step (vs := pkA noPk) rfl rfl HR3.out (by rfl) (by kernel_rfl) (by simp [Value.oneCell', pkA]) (fun WZ hz => ?_) | (go_step; first | refine store_step (vs := pkA noPk) rfl rfl HR3.out (by rfl) (by kernel_rfl) (by simp [Value.oneCell', pkA]) (fun WZ hz => ?_) | (go_step; first | refine store_step (vs := pkA noPk) rfl rfl HR3.out (by rfl) (by kernel_rfl) (by simp [Value.oneCell', pkA]) (fun WZ hz => ?_) | (go_step; first | refine store_step (vs := pkA noPk) rfl rfl HR3.out (by rfl) (by kernel_rfl) (by simp [Value.oneCell', pkA]) (fun WZ hz => ?_) | (go_step; first | refine store_step (vs := pkA noPk) rfl rfl HR3.out (by rfl) (by kernel_rfl) (by simp [Value.oneCell', pkA]) (fun WZ hz => ?_) | (go_step; first | refine store_step (vs := pkA noPk) rfl rfl HR3.out (by rfl) (by kernel_rfl) (by simp [Value.oneCell', pkA]) (fun WZ hz => ?_) | (go_step; first | refine store_step (vs := pkA noPk) rfl rfl HR3.out (by rfl) (by kernel_rfl) (by simp [Value.oneCell', pkA]) (fun WZ hz => ?_) | (go_step; first | refine store_step (vs := pkA noPk) rfl rfl HR3.out (by rfl) (by kernel_rfl) (by simp [Value.oneCell', pkA]) (fun WZ hz => ?_) | (go_step; first | refine store_step (vs := pkA noPk) rfl rfl HR3.out (by rfl) (by kernel_rfl) (by simp [Value.oneCell', pkA]) (fun WZ hz => ?_) | (go_step; first | refine store_step (vs := pkA noPk) rfl rfl HR3.out (by rfl) (by kernel_rfl) (by simp [Value.oneCell', pkA]) (fun WZ hz => ?_) | (go_step; first | refine store_step (vs := pkA noPk) rfl rfl HR3.out (by rfl) (by kernel_rfl) (by simp [Value.oneCell', pkA]) (fun WZ hz => ?_) | (go_step; first | refine store_step (vs := pkA noPk) rfl rfl HR3.out (by rfl) (by kernel_rfl) (by simp [Value.oneCell', pkA]) (fun WZ hz => ?_) | (go_step; first | refine store_step (vs := pkA noPk) rfl rfl HR3.out (by rfl) (by kernel_rfl) (by simp [Value.oneCell', pkA]) (fun WZ hz => ?_) | (go_step; refine store_step (vs := pkA noPk) rfl rfl HR3.out (by rfl) (by kernel_rfl) (by simp [Value.oneCell', pkA]) (fun WZ hz => ?_)))))))))))))))
            have HZ := Lib.hid (And.intro hz.blk (hz.below HB3.out (Nat.le_refl _)))
            clear hz
            go_wp2_with fail
            exact bodyPost_ret (v := .tuple #[.agg (pkA noPk), .int .i64 3]) (results_cell2 Tryz.results6 rfl rfl HZ.out.1 (by kernel_rfl) (by kernel_rfl)) rfl (HNO.out HF.out _ _ (by decide) HZ.out.2)
          · obtain ⟨A, c, hP3, hpay⟩ := h2 hok
            obtain ⟨q2, hq2⟩ : ∃ q2 : Pk, { fieldsP q bd with pA := A, pn := bd.length - leastP q.f.proto, pc := c } = q2 := ⟨_, rfl⟩
            rw [hq2] at hP3 hpay
            have hpn : q2.pn = bd.length - leastP q.f.proto := by rw [← hq2]
            have HQ2 := Lib.hid hq2
            have HOK := Lib.hid hok
            have hpr : q2.f.proto = q.f.proto := by rw [← hq2]; exact (prot_fields q bd).1
            have HPR := Lib.hid hpr
            have HPN := Lib.hid hpn
            have HP3 := Lib.hid hP3
            have HPY := Lib.hid hpay
            have c18 : W3.cell? ⟨P, 18, none⟩ = some (.slice q2.pA q2.pn q2.pc) := cell_of hP3 18
            have c7 : W3.cell? ⟨P, 7, none⟩ = some (.int .i64 q2.f.proto) := cell_of hP3 7
            have hPl3 : P < W3.heap.size := lt_of_block hP3
            clear h2 hrc3 hok hq2 hpn hpr hP3 hpay HP2 HR2 HAT HB2
            by_cases hle : q2.pn ≤ 1400
            · have d14 : decide ((1400 : Int) < (q2.pn : Int)) = false := by simp; omega
              have HLE := Lib.hid hle
              have hleast : atP q2.f.proto + 1 < leastP q.f.proto := by
                rw [HPR.out]
                unfold atP leastP
                split <;> (try split) <;> omega
              have hlm : leastP q.f.proto ≤ m := by
                have := HOK.out
                unfold partOk at this
                simp only [Bool.and_eq_true, decide_eq_true_eq] at this
                rw [← hlb]
                exact this.1.1
              have hsum := fun W => sumAt_any q2.f.proto W
              obtain ⟨at_, hat⟩ : ∃ at_ : Nat, atP q2.f.proto = at_ := ⟨_, rfl⟩
              rw [hat] at hsum hleast
              have HATE := Lib.hid hat
              obtain ⟨pay, hpay⟩ : ∃ pay : List UInt8, bd.drop (leastP q.f.proto) = pay := ⟨_, rfl⟩
              rw [hpay] at HPY
              have HPAYE := Lib.hid hpay
              have HRR : Hid (PkR q2) := Lib.hid (by rw [← HQ2.out]; exact (fields_r HBare.out HK.out bd).pay _ _ _)
              have sa : IntKind.i64.wrap ((at_ : Int) + 2) = (at_ : Int) + 2 := IntWalk.i64_in _ (by omega)
              have ta : ((at_ : Int) + 2).toNat = at_ + 2 := by omega
              have ca : (at_ : Int) + 2 ≤ (cp : Int) := by omega
              have ca1 : at_ + 2 ≤ cp := by omega
              have na : ¬ cp = at_ := by omega
              have la : (at_ : Int) ≤ (at_ : Int) + 2 := by omega
              have la0 : (0 : Int) ≤ (at_ : Int) + 2 := by omega
              have aam : at_ + 2 ≤ bd.length := by omega
              have htl : takeN (subB bd at_ (at_ + 2)) < 65536 := by
                have h1 := takeN_lt (subB bd at_ (at_ + 2))
                have h2 : (subB bd at_ (at_ + 2)).length = 2 := by simp [subB]; omega
                rw [h2] at h1
                omega
              obtain ⟨tv, htv⟩ : ∃ tv : Nat, takeN (subB bd at_ (at_ + 2)) = tv := ⟨_, rfl⟩
              rw [htv] at htl
              have HTV := Lib.hid htv
              have stv : IntKind.i64.wrap (tv : Int) = (tv : Int) := IntWalk.i64_in _ (by omega)
              obtain ⟨sv, hsv⟩ : ∃ sv : Nat, partSumP q2 (partP q2 pay) = sv := ⟨_, rfl⟩
              have HSV := Lib.hid hsv
              have hplen := (part_len q2 pay).2
              have hpaylen : pay.length = q2.pn := HPY.out.len
              clear hat hpay htv hsv hleast hlm
              go_upto_region 19 with (fail)
              go_wp2_with (refine (hsum _).mono ?_; rintro e w9 ⟨rfl, rfl⟩)
              have HRES : Hid (readP b = if tv = sv then some (fieldsP q bd, pay) else none) := Lib.hid (by
                have h1 : takeN (subB bd (atP q.f.proto) (atP q.f.proto + 2)) = tv := by rw [← HPR.out, HATE.out]; exact HTV.out
                have h2 : partSumP (fieldsP q bd) (partP (fieldsP q bd) (bd.drop (leastP q.f.proto))) = sv := by rw [HPAYE.out, ← HSV.out, ← HQ2.out]; rfl
                rw [HRD.out]
                unfold restP
                rw [HK.out, HOK.out, ← HPN.out, decide_eq_true HLE.out, h1, h2, HPAYE.out]
                by_cases h : tv = sv <;> simp [h])
              have HYES : Hid (tv = sv → ∀ W, PayAt W q2 pay → Below w.heap.size w W → RdOut w b (.returned (.tuple #[.agg (pkA q2), .int .i64 0])) W) := Lib.hid (fun hts W h1 h2 => by
                have hr := HRES.out
                rw [if_pos hts] at hr
                refine ⟨fun q' pay' hq' => ?_, fun hq' => absurd (hq'.symm.trans hr) (by simp), h2⟩
                have hq' := Option.some.inj (hr.symm.trans hq')
                injection hq' with e1 e2
                subst e1 e2
                have e3 : { fieldsP q bd with pA := A, pn := pay.length, pc := c } = q2 := by rw [← HQ2.out, HPY.out.len, HPN.out]
                subst e3
                exact ⟨A, c, rfl, h1⟩)
              clear hpaylen
              have hpaylen : pay.length ≤ 1400 := by rw [HPY.out.len]; exact HLE.out
              go_upto_region 20 with (fail)
              go_cut [62] from 51 to 61 (fun v62 wc => v62 = .bool ((tv : Int) != (sv : Int)) ∧ Below W3.heap.size W3 wc)
              case first =>
                refine wp_region_drawn 11 (fun f' => ⟨#[.slice (some ⟨g, 0, none⟩) n cap, undef, .pointer (some ⟨w.heap.size, 0, none⟩), .int .i64 0, .pointer (some ⟨P, 0, none⟩), .slice (some ⟨g, off, none⟩) m cp, .int .i64 0, .int .i64 at_, .slice (some ⟨g, 0, none⟩) n cap, .int .i64 n, .bool false, undef, .agg #[Value.bool false, Value.int IntKind.u64 0, Value.int IntKind.u64 0, Value.bool false, Value.int IntKind.u64 0, Value.int IntKind.u64 0, Value.int IntKind.i64 0, Value.int IntKind.i64 0, Value.int IntKind.i64 0, Value.int IntKind.i64 0, Value.bool false, Value.bool false, Value.bool false, Value.bool false, Value.int IntKind.i64 0, Value.int IntKind.i64 0, Value.bool false, Value.int IntKind.i64 0, Value.slice none 0 0], .slice (some ⟨g, 0, none⟩) n cap, .pointer (some ⟨g, 0, none⟩), .int .u8 y0.toNat, .bool false, .bool false, undef, undef, undef, undef, undef, .bool true, .bool true, .tuple #[Value.slice (some { block := g, off := off }) m cp, Value.int IntKind.i64 0], .slice (some ⟨g, 0, none⟩) n cap, .tuple #[Value.slice (some { block := g, off := off }) m cp, Value.int IntKind.i64 0], .slice (some ⟨g, off, none⟩) m cp, .int .i64 0, .int .i64 0, .bool false, undef, undef, .pointer (some ⟨P, 7, none⟩), .int .i64 q.f.proto, .bool true, .bool false, undef, .slice (some ⟨g, off, none⟩) m cp, .bool true, .bool false, undef, .pointer (some ⟨P, 18, none⟩), .slice q2.pA q2.pn q2.pc, .int .i64 q2.pn, .bool false, undef, .pointer (some ⟨P, 7, none⟩), .int .i64 q2.f.proto, .int .i64 at_, f' 0, f' 1, f' 2, f' 3, f' 4, f' 5, f' 6, f' 7, f' 8, f' 9, f' 10, undef, undef, undef], []⟩) (VL [VIs (.slice (some ⟨g, off, none⟩) m cp), VIs (.int .i64 at_), VIs (.int .i64 at_), VIs (.int .i64 ((at_ : Int) + 2)), VIs (.slice (some ⟨g, off + at_, none⟩) 2 (cp - at_)), VIs (.int .u64 tv), VIs (.int .i64 tv), VIs (.agg (pkA q2)), VIs (.agg (pkA q2)), (fun w' v => ∃ A6 n6 c6, v = .slice A6 n6 c6 ∧ bAt w' A6 (partP q2 pay) ∧ (partP q2 pay).length = n6 ∧ (A6 = none → c6 = 0)), VIs (.int .i64 sv)]) (fun _ w' => Below W3.heap.size W3 w') (fun w w' => w.grownBy w' none) (fun _ => undef) (show Tryz.prog.follows .mixedOrders = true from by kernel_rfl) (by kernel_rfl) ?_ ?_ ?_ ((Below.refl _ _).drew)
                · exact fun i w w' v h hg => VL.stabG (Gr := fun w w' => w.grownBy w' none) (by
                    intro q hq w w' v hv hg
                    simp only [List.mem_cons, List.mem_nil_iff, or_false] at hq
                    rcases hq with rfl | rfl | rfl | rfl | rfl | rfl | rfl | rfl | rfl | rfl | rfl <;> first | exact hv | (obtain ⟨A6, n6, c6, h1, h2, h3, h4⟩ := hv; exact ⟨A6, n6, c6, h1, h2.below ⟨hg.os, hg.tape, hg.output, hg.size, fun k hk => hg.block k hk (by simp)⟩, h3, h4⟩)) i w w' v h hg
                · intro i o hi ho f' w' k hk hG hd
                  have HBW := Lib.hid (HAT3.out.below hG)
                  have HPW := Lib.hid ((hG.block P hPl3).trans HP3.out)
                  have HPYW := Lib.hid (HPY.out.below hG)
                  have HG := Lib.hid hG
                  clear hG
                  have hcase : i = 0 ∨ i = 1 ∨ i = 2 ∨ i = 3 ∨ i = 4 ∨ i = 5 ∨ i = 6 ∨ i = 7 ∨ i = 8 ∨ i = 9 ∨ i = 10 := by omega
                  rcases hcase with rfl | rfl | rfl | rfl | rfl | rfl | rfl | rfl | rfl | rfl | rfl <;> (replace ho := Option.some.inj ho; subst ho)
                  · unfold Oper.wp
                    go_simp
                    exact ⟨_, (by first | (simp [upd]; done) | (simp [upd]; omega)), rfl, HG.out, World.grownBy.refl _ _⟩
                  · unfold Oper.wp
                    go_simp
                    exact ⟨_, (by first | (simp [upd]; done) | (simp [upd]; omega)), rfl, HG.out, World.grownBy.refl _ _⟩
                  · unfold Oper.wp
                    go_simp
                    exact ⟨_, (by first | (simp [upd]; done) | (simp [upd]; omega)), rfl, HG.out, World.grownBy.refl _ _⟩
                  · have e2 : f' 2 = _ := hd ⟨2, .data⟩ (by simp) rfl
                    unfold Oper.wp
                    go_simp
                    exact ⟨_, (by first | (simp [upd, e2]; done) | (simp [upd, e2]; omega)), rfl, HG.out, World.grownBy.refl _ _⟩
                  · have e0 : f' 0 = _ := hd ⟨0, .data⟩ (by simp) rfl
                    have e1 : f' 1 = _ := hd ⟨1, .data⟩ (by simp) rfl
                    have e3 : f' 3 = _ := hd ⟨3, .data⟩ (by simp) rfl
                    unfold Oper.wp
                    go_simp
                    exact ⟨_, (by first | (simp [upd, e0, e1, e3]; done) | (simp [upd, e0, e1, e3, ta]; done) | (simp [upd, e0, e1, e3]; omega)), rfl, HG.out, World.grownBy.refl _ _⟩
                  · have e4 : f' 4 = _ := hd ⟨4, .data⟩ (by simp) rfl
                    unfold Oper.wp
                    go_simp
                    refine (take_sub g off (cp - at_) bd at_ 2 w' HBW.out (by omega) aam).mono ?_
                    rintro e w9 ⟨rfl, rfl⟩
                    exact ⟨_, (by simp [upd, e4, HTV.out]), rfl, HG.out, World.grownBy.refl _ _⟩
                  · have e5 : f' 5 = _ := hd ⟨5, .data⟩ (by simp) rfl
                    unfold Oper.wp
                    go_simp
                    exact ⟨_, (by first | (simp [upd, e5]; done) | (simp [upd, e5]; omega)), rfl, HG.out, World.grownBy.refl _ _⟩
                  · refine load_step rfl HPW.out (by kernel_rfl) (by kernel_rfl) ?_
                    exact ⟨_, rfl, rfl, HG.out, World.grownBy.refl _ _⟩
                  · refine load_step rfl HPW.out (by kernel_rfl) (by kernel_rfl) ?_
                    exact ⟨_, rfl, rfl, HG.out, World.grownBy.refl _ _⟩
                  · have e8 : f' 8 = _ := hd ⟨8, .data⟩ (by simp) rfl
                    unfold Oper.wp
                    go_simp
                    refine (partOf_any q2 HRR.out pay w' HPYW.out).mono ?_
                    rintro e W5 ⟨A6, n6, c6, rfl, ho6, hb6⟩
                    exact ⟨_, (by simp [upd, e8]), ⟨A6, n6, c6, rfl, ho6.at_, ho6.1, ho6.nilc⟩, HG.out.trans (hb6.mono HG.out.size), grownB hb6 none⟩
                  · have e7 : f' 7 = _ := hd ⟨7, .data⟩ (by simp) rfl
                    have h9 : ∃ A6 n6 c6, f' 9 = .slice A6 n6 c6 ∧ bAt w' A6 (partP q2 pay) ∧ (partP q2 pay).length = n6 ∧ (A6 = none → c6 = 0) := hd ⟨9, .data⟩ (by simp) rfl
                    obtain ⟨A6, n6, c6, e9, hat6, hl6, hn6⟩ := h9
                    unfold Oper.wp
                    go_simp
                    refine (partSum_any q2 HRR.out A6 n6 c6 (partP q2 pay) _ hat6 hl6 hn6 (by have := HLE.out; omega)).mono ?_
                    rintro e W5 ⟨rfl, hb5⟩
                    exact ⟨_, (by simp [upd, e7, e9, HSV.out]), rfl, HG.out.trans (hb5.mono HG.out.size), grownB hb5 none⟩
                · intro o ho f' w' k hk hG hd
                  have HBW := Lib.hid (HAT3.out.below hG)
                  have HPW := Lib.hid ((hG.block P hPl3).trans HP3.out)
                  have HPYW := Lib.hid (HPY.out.below hG)
                  have HG := Lib.hid hG
                  clear hG
                  have e6 : f' 6 = _ := hd 6 (by omega)
                  have e10 : f' 10 = _ := hd 10 (by omega)
                  replace ho := Option.some.inj ho
                  subst ho
                  unfold Oper.wp
                  go_simp
                  go_step
                  go_meet
                  first | exact ⟨rfl, HG.out⟩ | exact ⟨by simp, HG.out⟩
              case rest =>
              obtain ⟨rfl, hb4⟩ := hcut
              obtain ⟨W4, rfl⟩ : ∃ W4 : World, W4 = wc := ⟨_, rfl⟩
              have HR4 : Hid (W4.heap[w.heap.size]? = some (.cells (pkA noPk) 31 (0, 0))) := Lib.hid ((hb4.block _ (lt_of_block HR3.out)).trans HR3.out)
              have HB4 : Hid (Below w.heap.size w W4) := Lib.hid (HB3.out.trans (hb4.mono HB3.out.size))
              have HPY4 := Lib.hid (HPY.out.below hb4)
              have hP4 := (hb4.block P hPl3).trans HP3.out
              clear hb4
              by_cases hts : tv = sv
              · have e62 : ((tv : Int) != (sv : Int)) = false := by simp [hts]
                have HTS := Lib.hid hts
                clear hts
                go_upto_region 22 with (fail)
                first | refine load_step rfl hP4 (by kernel_rfl) (by kernel_rfl) ?_ | (go_step; first | refine load_step rfl hP4 (by kernel_rfl) (by kernel_rfl) ?_ | (go_step; first | refine load_step rfl hP4 (by kernel_rfl) (by kernel_rfl) ?_ | (go_step; first | refine load_step rfl hP4 (by kernel_rfl) (by kernel_rfl) ?_ | (go_step; first | refine load_step rfl hP4 (by kernel_rfl) (by kernel_rfl) ?_ | (go_step; first | refine load_step rfl hP4 (by kernel_rfl) (by kernel_rfl) ?_ | (go_step; first | refine load_step rfl hP4 (by kernel_rfl) (by kernel_rfl) ?_ | (go_step; first | refine load_step rfl hP4 (by kernel_rfl) (by kernel_rfl) ?_ | (go_step; first | refine load_step rfl hP4 (by kernel_rfl) (by kernel_rfl) ?_ | (go_step; first | refine load_step rfl hP4 (by kernel_rfl) (by kernel_rfl) ?_ | (go_step; first | refine load_step rfl hP4 (by kernel_rfl) (by kernel_rfl) ?_ | (go_step; first | refine load_step rfl hP4 (by kernel_rfl) (by kernel_rfl) ?_ | (go_step; first | refine load_step rfl hP4 (by kernel_rfl) (by kernel_rfl) ?_ | (go_step; first | refine load_step rfl hP4 (by kernel_rfl) (by kernel_rfl) ?_ | (go_step; refine load_step rfl hP4 (by kernel_rfl) (by kernel_rfl) ?_))))))))))))))
                first | refine store_step (vs := pkA q2) rfl rfl HR4.out (by rfl) (by kernel_rfl) (by simp [Value.oneCell', pkA]) (fun WZ hz => ?_) | (go_step; first | refine store_step (vs := pkA q2) rfl rfl HR4.out (by rfl) (by kernel_rfl) (by simp [Value.oneCell', pkA]) (fun WZ hz => ?_) | (go_step; first | refine store_step (vs := pkA q2) rfl rfl HR4.out (by rfl) (by kernel_rfl) (by simp [Value.oneCell', pkA]) (fun WZ hz => ?_) | (go_step; first | refine store_step (vs := pkA q2) rfl rfl HR4.out (by rfl) (by kernel_rfl) (by simp [Value.oneCell', pkA]) (fun WZ hz => ?_) | (go_step; first | refine store_step (vs := pkA q2) rfl rfl HR4.out (by rfl) (by kernel_rfl) (by simp [Value.oneCell', pkA]) (fun WZ hz => ?_) | (go_step; first | refine store_step (vs := pkA q2) rfl rfl HR4.out (by rfl) (by kernel_rfl) (by simp [Value.oneCell', pkA]) (fun WZ hz => ?_) | (go_step; first | refine store_step (vs := pkA q2) rfl rfl HR4.out (by rfl) (by kernel_rfl) (by simp [Value.oneCell', pkA]) (fun WZ hz => ?_) | (go_step; first | refine store_step (vs := pkA q2) rfl rfl HR4.out (by rfl) (by kernel_rfl) (by simp [Value.oneCell', pkA]) (fun WZ hz => ?_) | (go_step; first | refine store_step (vs := pkA q2) rfl rfl HR4.out (by rfl) (by kernel_rfl) (by simp [Value.oneCell', pkA]) (fun WZ hz => ?_) | (go_step; first | refine store_step (vs := pkA q2) rfl rfl HR4.out (by rfl) (by kernel_rfl) (by simp [Value.oneCell', pkA]) (fun WZ hz => ?_) | (go_step; first | refine store_step (vs := pkA q2) rfl rfl HR4.out (by rfl) (by kernel_rfl) (by simp [Value.oneCell', pkA]) (fun WZ hz => ?_) | (go_step; first | refine store_step (vs := pkA q2) rfl rfl HR4.out (by rfl) (by kernel_rfl) (by simp [Value.oneCell', pkA]) (fun WZ hz => ?_) | (go_step; first | refine store_step (vs := pkA q2) rfl rfl HR4.out (by rfl) (by kernel_rfl) (by simp [Value.oneCell', pkA]) (fun WZ hz => ?_) | (go_step; first | refine store_step (vs := pkA q2) rfl rfl HR4.out (by rfl) (by kernel_rfl) (by simp [Value.oneCell', pkA]) (fun WZ hz => ?_) | (go_step; refine store_step (vs := pkA q2) rfl rfl HR4.out (by rfl) (by kernel_rfl) (by simp [Value.oneCell', pkA]) (fun WZ hz => ?_)))))))))))))))
                have HZ := Lib.hid (And.intro hz.blk (And.intro (hz.below HB4.out (Nat.le_refl _)) (HPY4.out.re HR4.out hz)))
                clear hz hP4
                go_wp2_with fail
                exact bodyPost_ret (v := .tuple #[.agg (pkA q2), .int .i64 0]) (results_cell2 Tryz.results6 rfl rfl HZ.out.1 (by kernel_rfl) (by kernel_rfl)) rfl (HYES.out HTS.out _ HZ.out.2.2 HZ.out.2.1)
              · have e62 : ((tv : Int) != (sv : Int)) = true := by simp; omega
                have HF : Hid (readP b = none) := Lib.hid (by rw [HRES.out, if_neg hts])
                clear hts hP4
                go_upto_region 21 with (fail)
                first | refine store_step (vs := pkA noPk) rfl rfl HR4.out (by rfl) (by kernel_rfl) (by simp [Value.oneCell', pkA]) (fun WZ hz => ?_) | (go_step; first | refine store_step (vs := pkA noPk) rfl rfl HR4.out (by rfl) (by kernel_rfl) (by simp [Value.oneCell', pkA]) (fun WZ hz => ?_) | (go_step; first | refine store_step (vs := pkA noPk) rfl rfl HR4.out (by rfl) (by kernel_rfl) (by simp [Value.oneCell', pkA]) (fun WZ hz => ?_) | (go_step; first | refine store_step (vs := pkA noPk) rfl rfl HR4.out (by rfl) (by kernel_rfl) (by simp [Value.oneCell', pkA]) (fun WZ hz => ?_) | (go_step; first | refine store_step (vs := pkA noPk) rfl rfl HR4.out (by rfl) (by kernel_rfl) (by simp [Value.oneCell', pkA]) (fun WZ hz => ?_) | (go_step; first | refine store_step (vs := pkA noPk) rfl rfl HR4.out (by rfl) (by kernel_rfl) (by simp [Value.oneCell', pkA]) (fun WZ hz => ?_) | (go_step; first | refine store_step (vs := pkA noPk) rfl rfl HR4.out (by rfl) (by kernel_rfl) (by simp [Value.oneCell', pkA]) (fun WZ hz => ?_) | (go_step; first | refine store_step (vs := pkA noPk) rfl rfl HR4.out (by rfl) (by kernel_rfl) (by simp [Value.oneCell', pkA]) (fun WZ hz => ?_) | (go_step; first | refine store_step (vs := pkA noPk) rfl rfl HR4.out (by rfl) (by kernel_rfl) (by simp [Value.oneCell', pkA]) (fun WZ hz => ?_) | (go_step; first | refine store_step (vs := pkA noPk) rfl rfl HR4.out (by rfl) (by kernel_rfl) (by simp [Value.oneCell', pkA]) (fun WZ hz => ?_) | (go_step; first | refine store_step (vs := pkA noPk) rfl rfl HR4.out (by rfl) (by kernel_rfl) (by simp [Value.oneCell', pkA]) (fun WZ hz => ?_) | (go_step; first | refine store_step (vs := pkA noPk) rfl rfl HR4.out (by rfl) (by kernel_rfl) (by simp [Value.oneCell', pkA]) (fun WZ hz => ?_) | (go_step; first | refine store_step (vs := pkA noPk) rfl rfl HR4.out (by rfl) (by kernel_rfl) (by simp [Value.oneCell', pkA]) (fun WZ hz => ?_) | (go_step; first | refine store_step (vs := pkA noPk) rfl rfl HR4.out (by rfl) (by kernel_rfl) (by simp [Value.oneCell', pkA]) (fun WZ hz => ?_) | (go_step; refine store_step (vs := pkA noPk) rfl rfl HR4.out (by rfl) (by kernel_rfl) (by simp [Value.oneCell', pkA]) (fun WZ hz => ?_)))))))))))))))
                have HZ := Lib.hid (And.intro hz.blk (hz.below HB4.out (Nat.le_refl _)))
                clear hz
                go_wp2_with fail
                exact bodyPost_ret (v := .tuple #[.agg (pkA noPk), .int .i64 15]) (results_cell2 Tryz.results6 rfl rfl HZ.out.1 (by kernel_rfl) (by kernel_rfl)) rfl (HNO.out HF.out _ _ (by decide) HZ.out.2)
            · have d14 : decide ((1400 : Int) < (q2.pn : Int)) = true := by simp; omega
              have HF : Hid (readP b = none) := Lib.hid (by rw [HRD.out]; unfold restP; rw [← HPN.out, decide_eq_false hle]; simp)
              clear hle
              go_upto_region 18 with (fail)
              first | refine store_step (vs := pkA noPk) rfl rfl HR3.out (by rfl) (by kernel_rfl) (by simp [Value.oneCell', pkA]) (fun WZ hz => ?_) | (go_step; first | refine store_step (vs := pkA noPk) rfl rfl HR3.out (by rfl) (by kernel_rfl) (by simp [Value.oneCell', pkA]) (fun WZ hz => ?_) | (go_step; first | refine store_step (vs := pkA noPk) rfl rfl HR3.out (by rfl) (by kernel_rfl) (by simp [Value.oneCell', pkA]) (fun WZ hz => ?_) | (go_step; first | refine store_step (vs := pkA noPk) rfl rfl HR3.out (by rfl) (by kernel_rfl) (by simp [Value.oneCell', pkA]) (fun WZ hz => ?_) | (go_step; first | refine store_step (vs := pkA noPk) rfl rfl HR3.out (by rfl) (by kernel_rfl) (by simp [Value.oneCell', pkA]) (fun WZ hz => ?_) | (go_step; first | refine store_step (vs := pkA noPk) rfl rfl HR3.out (by rfl) (by kernel_rfl) (by simp [Value.oneCell', pkA]) (fun WZ hz => ?_) | (go_step; first | refine store_step (vs := pkA noPk) rfl rfl HR3.out (by rfl) (by kernel_rfl) (by simp [Value.oneCell', pkA]) (fun WZ hz => ?_) | (go_step; first | refine store_step (vs := pkA noPk) rfl rfl HR3.out (by rfl) (by kernel_rfl) (by simp [Value.oneCell', pkA]) (fun WZ hz => ?_) | (go_step; first | refine store_step (vs := pkA noPk) rfl rfl HR3.out (by rfl) (by kernel_rfl) (by simp [Value.oneCell', pkA]) (fun WZ hz => ?_) | (go_step; first | refine store_step (vs := pkA noPk) rfl rfl HR3.out (by rfl) (by kernel_rfl) (by simp [Value.oneCell', pkA]) (fun WZ hz => ?_) | (go_step; first | refine store_step (vs := pkA noPk) rfl rfl HR3.out (by rfl) (by kernel_rfl) (by simp [Value.oneCell', pkA]) (fun WZ hz => ?_) | (go_step; first | refine store_step (vs := pkA noPk) rfl rfl HR3.out (by rfl) (by kernel_rfl) (by simp [Value.oneCell', pkA]) (fun WZ hz => ?_) | (go_step; first | refine store_step (vs := pkA noPk) rfl rfl HR3.out (by rfl) (by kernel_rfl) (by simp [Value.oneCell', pkA]) (fun WZ hz => ?_) | (go_step; first | refine store_step (vs := pkA noPk) rfl rfl HR3.out (by rfl) (by kernel_rfl) (by simp [Value.oneCell', pkA]) (fun WZ hz => ?_) | (go_step; refine store_step (vs := pkA noPk) rfl rfl HR3.out (by rfl) (by kernel_rfl) (by simp [Value.oneCell', pkA]) (fun WZ hz => ?_)))))))))))))))
              have HZ := Lib.hid (And.intro hz.blk (hz.below HB3.out (Nat.le_refl _)))
              clear hz
              go_wp2_with fail
              exact bodyPost_ret (v := .tuple #[.agg (pkA noPk), .int .i64 2]) (results_cell2 Tryz.results6 rfl rfl HZ.out.1 (by kernel_rfl) (by kernel_rfl)) rfl (HNO.out HF.out _ _ (by decide) HZ.out.2)
    · have e60 : ((y0.toNat : Int) == 96) = false := by simp; omega
      have HF : Hid (readP b = none) := Lib.hid (by unfold readP; rw [if_neg (by omega), HY.out, if_neg h45, if_neg h60])
      clear h45 h60
      go_upto_region 12 with (fail)
      first | refine store_step (vs := pkA noPk) rfl rfl HR1.out (by rfl) (by kernel_rfl) (by simp [Value.oneCell', pkA]) (fun WZ hz => ?_) | (go_step; first | refine store_step (vs := pkA noPk) rfl rfl HR1.out (by rfl) (by kernel_rfl) (by simp [Value.oneCell', pkA]) (fun WZ hz => ?_) | (go_step; first | refine store_step (vs := pkA noPk) rfl rfl HR1.out (by rfl) (by kernel_rfl) (by simp [Value.oneCell', pkA]) (fun WZ hz => ?_) | (go_step; first | refine store_step (vs := pkA noPk) rfl rfl HR1.out (by rfl) (by kernel_rfl) (by simp [Value.oneCell', pkA]) (fun WZ hz => ?_) | (go_step; first | refine store_step (vs := pkA noPk) rfl rfl HR1.out (by rfl) (by kernel_rfl) (by simp [Value.oneCell', pkA]) (fun WZ hz => ?_) | (go_step; first | refine store_step (vs := pkA noPk) rfl rfl HR1.out (by rfl) (by kernel_rfl) (by simp [Value.oneCell', pkA]) (fun WZ hz => ?_) | (go_step; first | refine store_step (vs := pkA noPk) rfl rfl HR1.out (by rfl) (by kernel_rfl) (by simp [Value.oneCell', pkA]) (fun WZ hz => ?_) | (go_step; first | refine store_step (vs := pkA noPk) rfl rfl HR1.out (by rfl) (by kernel_rfl) (by simp [Value.oneCell', pkA]) (fun WZ hz => ?_) | (go_step; first | refine store_step (vs := pkA noPk) rfl rfl HR1.out (by rfl) (by kernel_rfl) (by simp [Value.oneCell', pkA]) (fun WZ hz => ?_) | (go_step; first | refine store_step (vs := pkA noPk) rfl rfl HR1.out (by rfl) (by kernel_rfl) (by simp [Value.oneCell', pkA]) (fun WZ hz => ?_) | (go_step; first | refine store_step (vs := pkA noPk) rfl rfl HR1.out (by rfl) (by kernel_rfl) (by simp [Value.oneCell', pkA]) (fun WZ hz => ?_) | (go_step; first | refine store_step (vs := pkA noPk) rfl rfl HR1.out (by rfl) (by kernel_rfl) (by simp [Value.oneCell', pkA]) (fun WZ hz => ?_) | (go_step; first | refine store_step (vs := pkA noPk) rfl rfl HR1.out (by rfl) (by kernel_rfl) (by simp [Value.oneCell', pkA]) (fun WZ hz => ?_) | (go_step; first | refine store_step (vs := pkA noPk) rfl rfl HR1.out (by rfl) (by kernel_rfl) (by simp [Value.oneCell', pkA]) (fun WZ hz => ?_) | (go_step; refine store_step (vs := pkA noPk) rfl rfl HR1.out (by rfl) (by kernel_rfl) (by simp [Value.oneCell', pkA]) (fun WZ hz => ?_)))))))))))))))
      have HZ := Lib.hid (And.intro hz.blk (hz.below HB1.out (Nat.le_refl _)))
      clear hz
      go_wp2_with fail
      exact bodyPost_ret (v := .tuple #[.agg (pkA noPk), .int .i64 4]) (results_cell2 Tryz.results6 rfl rfl HZ.out.1 (by kernel_rfl) (by kernel_rfl)) rfl (HNO.out HF.out _ _ (by decide) HZ.out.2)
end Go.Proofs.YtfakfhbcpldeoaaGreatDoor
