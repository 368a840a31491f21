/- Translators: Out at two spots that have an entry. -/
import Derived.Test.YtphjgjcbolmdiaaGreatDoorNtL
import Derived.Test.YtphjgjcbolmdiaaGreatDoorTokn
import Derived.Deep.AppendLies
import Derived.Deep.RegionLaw
namespace Go.Proofs.YtphjgjcbolmdiaaGreatDoor
open Go.RowKit Go.Hw

/-- What holds ahead of Out and In. -/
structure Ok (n : NatC) (now at_ : Int) (L : List Ent) : Prop where
  fine : Fine n
  t0 : 0 ≤ at_
  t1 : at_ ≤ 1000
  t2 : now ≤ at_
  le : ∀ e ∈ L, 0 ≤ e.last ∧ e.last ≤ 1000
  all : ∀ e ∈ L, lasts n at_ e = true
  len : L.length ≤ 100000
theorem Ok.count {n : NatC} {now at_ : Int} {L : List Ent} (h : Ok n now at_ L) : L.countP (lasts n at_) = L.length := by
  rw [List.countP_eq_length]
  exact h.all
/-- The array of both spots, by an index. -/
theorem pair0 (a b c d e f g h : Value) : ∀ w : World, (Instr.index 90 (.agg #[a, b, c, d, e, f, g, h]) (.int .i64 0)).run Tryz.prog w = .ok (.agg #[a, b, c, d]) w := fun _ => by kernel_rfl
theorem pair1 (a b c d e f g h : Value) : ∀ w : World, (Instr.index 90 (.agg #[a, b, c, d, e, f, g, h]) (.int .i64 1)).run Tryz.prog w = .ok (.agg #[e, f, g, h]) w := fun _ => by kernel_rfl

theorem Tryz.infoSpot : (Tryz.prog.info? 42).map (fun i => (i.zero, i.size, i.bytes)) = some (some (.agg #[.bool false, .int .u64 0, .int .u64 0, .int .i64 0]), 4, 32) := by kernel_rfl
theorem appended_far {w9 w10 : World} {o : Obj} {row : Option Nat} {g : Nat} (h : ((w9.alloc o).drew).grownBy w10 row) (hg : g < w9.heap.size) (hr : some g ≠ row) (j : Nat) : w10.cell? ⟨g, j, none⟩ = w9.cell? ⟨g, j, none⟩ ∧ w10.frozen? ⟨g, j, none⟩ = w9.frozen? ⟨g, j, none⟩ := by
  have h1 : w10.heap[g]? = w9.heap[g]? := (h.block g (by simp; omega) hr).trans (heap_alloc_old w9 o hg)
  exact ⟨World.cell?_of_block (w := w9) h1, World.frozen?_of_block (w := w9) h1⟩
theorem Chg.drew {F : Nat → Prop} {w w1 : World} (h : Chg F w w1) : Chg F w w1.drew := ⟨h.os, h.tape, h.output, h.size, h.block⟩
theorem grown_box {w9 w10 : World} {o : Obj} {row : Option Nat} (h : ((w9.alloc o).drew).grownBy w10 row) : w9.grownBy w10 row :=
  (World.grownBy_alloc w9 o row).andThen (show (w9.alloc o).grownBy w10 row from ⟨h.os, h.tape, h.output, h.size, h.block⟩) (fun _ h => .inr h)
theorem spotsC_snoc (L : List Spot) (d : Spot) : spotsC (L ++ [d]) = spotsC L ++ [.bool d.six, .int .u64 d.hi, .int .u64 d.lo, .int .i64 d.port] := by simp [spotsC, spotC]
/-- What becomes of the entry. -/
def sentOf (e : Ent) (d : Spot) : List Spot := if e.sent.any (fun x => d.beq x) then e.sent else e.sent ++ [d]

set_option maxRecDepth 100000 in
set_option maxHeartbeats 4000000 in
theorem out_old (T : Nat) (n : NatC) (now next : Int) (F : Nat → Prop) (A : Option Addr) (cap : Nat) (L : List Ent) (at_ : Int) (s d : Spot) (w : World) (h : TrAt w F T n now next A cap L) (ok : Ok n now at_ L)
    (hF : ∀ k, F k → k < w.heap.size) (hs0 : 0 ≤ s.hi) (hd0 : 0 ≤ d.hi) (hs : spotCode s = 0) (hd : spotCode d = 0) (i : Nat) (hi : i < L.length) (hr : idxP (isEntry n at_ s (seenS d n.maps)) L = i) (hsl : (L.getD i noEnt).sent.length ≤ 100000) :
    Calls Tryz.prog 13 #[.pointer (some ⟨T, 0, none⟩), .int .i64 at_, .agg #[.bool s.six, .int .u64 s.hi, .int .u64 s.lo, .int .i64 s.port], .agg #[.bool d.six, .int .u64 d.hi, .int .u64 d.lo, .int .i64 d.port]] w
      fun e w' => e = .returned (.tuple #[.agg #[.bool n.six, .int .u64 n.hi, .int .u64 n.lo, .int .i64 (L.getD i noEnt).port], .int .i64 0]) ∧ Chg F w w' ∧
        ∃ sA scap, TrAt w' (Plus F w) T n at_ next A cap (L.set i { L.getD i noEnt with last := at_, sA := sA, scap := scap, sent := sentOf (L.getD i noEnt) d }) := by
  have p0 := pair0 (.bool s.six) (.int .u64 s.hi) (.int .u64 s.lo) (.int .i64 s.port) (.bool d.six) (.int .u64 d.hi) (.int .u64 d.lo) (.int .i64 d.port)
  have p1 := pair1 (.bool s.six) (.int .u64 s.hi) (.int .u64 s.lo) (.int .i64 s.port) (.bool d.six) (.int .u64 d.hi) (.int .u64 d.lo) (.int .i64 d.port)
  have HH := Lib.hid h
  have OK := Lib.hid ok
  have HR := Lib.hid hr
  have HSP := Lib.hid hs
  have HDP := Lib.hid hd
  clear h ok hr hs hd
  go_enter Tryz.func13, Tryz.ntmps13
  go_wp2_with fail
  generalize hW : World.alloc _ _ = W1
  have hb1 : Below w.heap.size w W1 := by rw [← hW]; exact (three _ _ _ _).2.2.2
  have b0 : W1.heap[w.heap.size]? = some (.cells #[.bool s.six, .int .u64 s.hi, .int .u64 s.lo, .int .i64 s.port] 42 (0, 0)) := by rw [← hW]; exact (three _ _ _ _).1
  have b1 : W1.heap[w.heap.size + 1]? = some (.cells #[.bool d.six, .int .u64 d.hi, .int .u64 d.lo, .int .i64 d.port] 42 (0, 0)) := by rw [← hW]; exact (three _ _ _ _).2.1
  have b2 : W1.heap[w.heap.size + 1 + 1]? = some (.cells #[.bool false, .int .u64 0, .int .u64 0, .int .i64 0] 42 (0, 0)) := by rw [← hW]; exact (three _ _ _ _).2.2.1
  clear hW
  refine (timeFault_ok T n now next _ at_ W1 (HH.out.below hb1).blk OK.out.t2 OK.out.t0 OK.out.t1).mono ?_
  rintro e w2 ⟨rfl, rfl⟩
  obtain ⟨lS, s0, s1, s2, s3⟩ := spotAt_of b0
  obtain ⟨lD, d0, d1, d2, d3⟩ := spotAt_of b1
  have B0 := Lib.hid b0
  have B1 := Lib.hid b1
  have B2 := Lib.hid b2
  have HB1 := Lib.hid hb1
  clear b0 b1 b2 hb1
  go_wp2_with fail
  refine wp_loop_rounds 3 ?_
  rw [rounds_succ]
  go_wp2_with fail
  refine (spotFault_any s _ hs0).mono ?_
  rintro e w2 ⟨rfl, hb⟩
  rw [HSP.out]
  have HB2 := Lib.hid (below_box (Below.refl _ W1) (Nat.le_refl _) hb)
  clear hb s0 s1 s2 s3 d0 d1 d2 d3
  go_wp2_with fail
  rw [rounds_succ]
  go_wp2_with fail
  refine (spotFault_any d _ hd0).mono ?_
  rintro e w3 ⟨rfl, hb⟩
  rw [HDP.out]
  have HB3 := Lib.hid (below_box HB2.out HB2.out.size hb)
  clear hb HB2
  go_wp2_with fail
  rw [rounds_succ]
  go_wp2_with fail
  have hT3 := HH.out.below (HB1.out.trans (HB3.out.mono HB1.out.size))
  refine (lasting_any T n now next A cap L at_ w3 hT3.blk hT3.ents (Nat.le_trans OK.out.len (by omega)) OK.out.t0 OK.out.t1 OK.out.le).mono ?_
  rintro e w4 ⟨rfl, hb⟩
  rw [OK.out.count]
  have HB4 := Lib.hid (HB3.out.trans (hb.mono HB3.out.size))
  clear hb hT3 HB3
  obtain ⟨lS, s0, s1, s2, s3⟩ := (spotAt_of B0.out).below HB4.out
  obtain ⟨lD, d0, d1, d2, d3⟩ := (spotAt_of B1.out).below HB4.out
  go_wp2_with fail
  have hT4 := HH.out.below (HB1.out.trans (HB4.out.mono HB1.out.size))
  refine (find_any T n now next A cap L at_ s d w4 hT4.blk hT4.ents (Nat.le_trans OK.out.len (by omega)) OK.out.t0 OK.out.t1 OK.out.le).mono ?_
  rintro e w5 ⟨rfl, hb⟩
  rw [HR.out]
  have HB5 := Lib.hid (HB4.out.trans (hb.mono HB4.out.size))
  clear hb hT4 HB4 s0 s1 s2 s3 d0 d1 d2 d3 lS lD
  go_wp2_with fail
  have hT5 := HH.out.below (HB1.out.trans (HB5.out.mono HB1.out.size))
  refine (pass_none T n now next A cap L at_ w5 hT5.blk hT5.ents (fun a e c => hT5.hA (by rw [e]; exact c)) (Nat.le_trans OK.out.len (by omega)) OK.out.t0 OK.out.t1 OK.out.le OK.out.all).mono ?_
  rintro e w6 ⟨rfl, hblk, hg⟩
  have hT6 := hT5.turn hg hblk
  have htl := tr_lt HH.out.blk
  have hB5s := HB5.out.size
  have lS := lt_of_block B0.out
  have lD := lt_of_block B1.out
  have lR := lt_of_block B2.out
  have C0 := Lib.hid ((hg.block w.heap.size (by omega) (fun e => by injection e with e; omega)).trans ((HB5.out.block _ lS).trans B0.out))
  have C1 := Lib.hid ((hg.block (w.heap.size + 1) (by omega) (fun e => by injection e with e; omega)).trans ((HB5.out.block _ lD).trans B1.out))
  have C2 := Lib.hid ((hg.block (w.heap.size + 1 + 1) (by omega) (fun e => by injection e with e; omega)).trans ((HB5.out.block _ lR).trans B2.out))
  have HC := Lib.hid (Chg.trans (Chg.of_below (F := F) (HB1.out.trans (HB5.out.mono HB1.out.size))) (Chg.of_grown hg (fun k e _ => .inl (by injection e with e; rw [← e]; exact HH.out.fT))))
  have HT6 := Lib.hid hT6
  clear hblk hg hT6 hT5 lS lD lR hB5s HB5 HB1 B0 B1 B2
  obtain ⟨lS, s0, s1, s2, s3⟩ := spotAt_of C0.out
  obtain ⟨lD, d0, d1, d2, d3⟩ := spotAt_of C1.out
  go_wp2_with fail
  refine (find_any T n at_ next A cap L at_ s d w6 HT6.out.blk HT6.out.ents (Nat.le_trans OK.out.len (by omega)) OK.out.t0 OK.out.t1 OK.out.le).mono ?_
  rintro e w7 ⟨rfl, hb⟩
  rw [HR.out]
  have D0 := Lib.hid ((hb.block w.heap.size lS).trans C0.out)
  have D1 := Lib.hid ((hb.block (w.heap.size + 1) lD).trans C1.out)
  have D2 := Lib.hid ((hb.block (w.heap.size + 1 + 1) (lt_of_block C2.out)).trans C2.out)
  have HC7 := Lib.hid (HC.out.trans (Chg.of_below hb))
  have HT7 := Lib.hid (HT6.out.below hb)
  clear hb HC HT6 C0 C1 C2 s0 s1 s2 s3 d0 d1 d2 d3 lS lD
  obtain ⟨g, rfl⟩ : ∃ g, A = some ⟨g, 0, none⟩ := by
    rcases HT7.out.own.2 with ⟨h1, h2⟩ | ⟨g, cap', cur, h1, _⟩
    · omega
    · injection h1 with h1; exact ⟨g, h1⟩
  have t10 := tr_cell HT7.out.blk 10
  have lT := tr_lt HT7.out.blk
  simp only [List.getElem?_toArray, List.getElem?_cons_zero, List.getElem?_cons_succ] at t10
  have hdi : decide ((i : Int) < (L.length : Int)) = true := by simp; omega
  have hen : EntAt w7 g (i * 11) (L.getD i noEnt) := by
    obtain ⟨g', off', e1, _, e3⟩ := HT7.out.ents i hi
    injection e1 with e1
    injection e1 with e1 e2
    subst e1 e2
    simpa using e3
  have hfr : ∀ j, w7.frozen? ⟨g, j, none⟩ = false := fun j => World.ownsRow.frozenAt HT7.out.own j
  have f9 := hfr (i * 11 + 9)
  have c9 := hen.c9
  have hgl := (HT7.out.own.lt g rfl).2
  clear hfr hen
  go_wp2_with fail
  generalize hW : World.setCell _ _ _ = W8
  have hT8 : TrAt W8 F T n at_ next (some ⟨g, 0, none⟩) cap (L.set i { L.getD i noEnt with last := at_ }) := by rw [← hW]; exact HT7.out.setLast hi
  have hC8 : Chg F w W8 := by rw [← hW]; exact HC7.out.set (.inl (HH.out.fA g rfl)) _ _
  have hsz : W8.heap.size = w7.heap.size := by rw [← hW]; simp
  have hge : g < w.heap.size := (HH.out.own.lt g rfl).2
  have e0 : W8.heap[w.heap.size]? = some (.cells #[.bool s.six, .int .u64 s.hi, .int .u64 s.lo, .int .i64 s.port] 42 (0, 0)) := by rw [← hW, heap_set_other (by omega)]; exact D0.out
  have e1 : W8.heap[w.heap.size + 1]? = some (.cells #[.bool d.six, .int .u64 d.hi, .int .u64 d.lo, .int .i64 d.port] 42 (0, 0)) := by rw [← hW, heap_set_other (by omega)]; exact D1.out
  have e2 : W8.heap[w.heap.size + 1 + 1]? = some (.cells #[.bool false, .int .u64 0, .int .u64 0, .int .i64 0] 42 (0, 0)) := by rw [← hW, heap_set_other (by omega)]; exact D2.out
  clear hW f9 c9 t10 lT hgl HC7 HT7 D0 D1 D2
  have hel : (L.set i { L.getD i noEnt with last := at_ }).getD i noEnt = { L.getD i noEnt with last := at_ } := by
    rw [List.getD_eq_getElem?_getD, List.getElem?_set_self hi]; rfl
  have hi8 : i < (L.set i { L.getD i noEnt with last := at_ }).length := by simpa using hi
  have hsn : W8.ownsRow 0 42 4 (.slice (L.getD i noEnt).sA (L.getD i noEnt).sent.length (L.getD i noEnt).scap) (L.getD i noEnt).sent.length (spotsC (L.getD i noEnt).sent) := by
    have := hT8.sent _ (getD_mem hi8)
    rw [hel] at this
    exact this
  have hc10 : W8.cell? ⟨g, i * 11 + 10, none⟩ = some (.slice (L.getD i noEnt).sA (L.getD i noEnt).sent.length (L.getD i noEnt).scap) := by
    obtain ⟨g', off', e1, _, e3⟩ := hT8.ents i hi8
    injection e1 with e1
    injection e1 with e1 e2
    subst e1 e2
    rw [hel] at e3
    simpa using e3.c10
  have hc4 : W8.cell? ⟨g, i * 11 + 4, none⟩ = some (.int .i64 (L.getD i noEnt).port) := by
    obtain ⟨g', off', e1, _, e3⟩ := hT8.ents i hi8
    injection e1 with e1
    injection e1 with e1 e2
    subst e1 e2
    rw [hel] at e3
    simpa using e3.c4
  have hhas := hasSpot_any (L.getD i noEnt).sA (L.getD i noEnt).scap (L.getD i noEnt).sent d W8.drew ((spots_at hsn).below (Below.refl _ _).drew) (Nat.le_trans hsl (by omega))
  obtain ⟨lD, d0, d1, d2, d3⟩ := spotAt_of e1
  have HT8 := Lib.hid hT8
  have HC8 := Lib.hid hC8
  have E2 := Lib.hid e2
  have E1 := Lib.hid e1
  have HSN := Lib.hid hsn
  have HEL := Lib.hid hel
  have hgl := (hT8.own.lt g rfl).2
  have hc9 := hT8.blk
  clear hT8 hC8 e0 e1 e2 hsn hel hsz
  have hsent : sentOf (L.getD i noEnt) d = sentOf (L.getD i noEnt) d := rfl
  conv at hsent => rhs; unfold sentOf
  have hL8 : ∀ sA scap sent, (L.set i { L.getD i noEnt with last := at_ }).set i { (L.set i { L.getD i noEnt with last := at_ }).getD i noEnt with sA := sA, scap := scap, sent := sent } = L.set i { L.getD i noEnt with last := at_, sA := sA, scap := scap, sent := sent } := by
    intro sA scap sent
    rw [HEL.out, List.set_set]
  have HL8 := Lib.hid hL8
  clear hL8
  generalize hee : L.getD i noEnt = ee at *
  cases hq : ee.sent.any (fun x => d.beq x)
  · rw [hq] at hhas hsent
    go_region_held3 (fun w' => w'.cell? ⟨g, i * 11 + 10, none⟩ = some (.slice ee.sA ee.sent.length ee.scap) ∧ w'.cell? ⟨w.heap.size + 1, 0, none⟩ = some (.bool d.six) ∧ w'.cell? ⟨w.heap.size + 1, 1, none⟩ = some (.int .u64 d.hi) ∧ w'.cell? ⟨w.heap.size + 1, 2, none⟩ = some (.int .u64 d.lo) ∧ w'.cell? ⟨w.heap.size + 1, 3, none⟩ = some (.int .i64 d.port))
      ((repeat' apply And.intro) <;> (repeat (first | with_reducible assumption | rw [cell_drew] | rw [Below.cell hb1 (by simp; omega)])))
      ((go_at_call 37; refine hhas.mono ?_; rintro e w9 ⟨rfl, hb1⟩))
    have hb9 := drewB hb1
    have hT9 := HT8.out.below hb9
    have e1 := (hb9.block (w.heap.size + 1) lD).trans E1.out
    have e2 := (hb9.block (w.heap.size + 1 + 1) (lt_of_block E2.out)).trans E2.out
    have hsn9 := own_same HSN.out fun k hk => hb9.block k (HSN.out.lt k hk).2
    have hc10' := (hb9.cell (p := ⟨g, i * 11 + 10, none⟩) hgl).trans hc10
    have hc4' := (hb9.cell (p := ⟨g, i * 11 + 4, none⟩) hgl).trans hc4
    have hgl9 := Nat.lt_of_lt_of_le hgl hb9.size
    have HC9 := Lib.hid (HC8.out.trans (Chg.of_below hb9))
    have HT9 := Lib.hid hT9
    have F2 := Lib.hid e2
    obtain ⟨lD9, x0, x1, x2, x3⟩ := spotAt_of e1
    have hsT : (svE ee).ownBlock ≠ some g := fun c => by
      have := (HH.out.hS _ (getD_mem hi)).2 g (by rw [hee]; exact c)
      exact this rfl
    have hsD : (svE ee).ownBlock ≠ some (w.heap.size + 1) := fun c => by
      have := ((HH.out.sent _ (getD_mem hi)).lt (w.heap.size + 1) (by rw [hee]; exact c)).2
      omega
    have hf10 : w9.frozen? ⟨g, i * 11 + 10, none⟩ = false := World.ownsRow.frozenAt hT9.own _
    clear hb1 hb9 hT9 e1 e2 hc10 hc4 d0 d1 d2 d3 hhas HT8 HC8 E1 E2 HSN hc9
    go_wp2_with fail
    obtain ⟨i0, hi0, hz0, hz1, hz2⟩ := info_parts Tryz.infoSpot
    have n0 := World.new_ne w9 _ x0
    have n4 := World.new_ne w9 _ hc10'
    go_region_law ((refine step_append_lies _ (by rfl) _ _ 95 (by rfl) 0 42 i0 _ 4 32 Tryz.underlying95 hi0 hz0 hz1 hz2 rfl (by omega) (.slice ee.sA ee.sent.length ee.scap) ee.sent.length (spotsC ee.sent) (by rfl) ((hsn9.alloc _).drew) ⟨w9.heap.size, 0, none⟩ 1 1 [.bool d.six, .int .u64 d.hi, .int .u64 d.lo, .int .i64 d.port] (by rfl) (by rfl) (World.news_of_block (cs := #[.bool d.six, .int .u64 d.hi, .int .u64 d.lo, .int .i64 d.port]) (t := 42) (fr := (0, 0)) (heap_alloc_new w9 _)) (by simp [Value.oneCell']) (by omega) (by unfold maxLen; omega) (by omega) (Nat.zero_le _) (w9.heap.size + 1) (by simp) ?_; intro g2 cap2 w10 hown hgrow hat hlt; have z := appended_far hgrow hgl9 (Ne.symm hsT) (i * 11 + 10); rw [hc10', hf10] at z))
    all_goals
      generalize hW : World.setCell _ _ _ = W11
      have hgr9 := grown_box hgrow
      have hlen1 : (ee.sent ++ [d]).length = ee.sent.length + 1 := by simp
      have hset := HT9.out.setSent (i := i) (by simpa using hi) (some ⟨g2, 0, none⟩) cap2 (ee.sent ++ [d]) (by rw [HEL.out]; exact hgr9) (by rw [hlen1, spotsC_snoc]; exact hown) (by
        intro k hk
        injection hk with hk
        rw [HEL.out]
        rcases hat with c | c
        · left; rw [← hk]; exact c
        · right; simp only at hk; omega)
      rw [hlen1, hW, HL8.out] at hset
      obtain ⟨sA1, hsA1⟩ : ∃ x, x = (some ⟨g2, 0, none⟩ : Option Addr) := ⟨_, rfl⟩
      obtain ⟨scap1, hscap1⟩ : ∃ x, x = cap2 := ⟨_, rfl⟩
      rw [← hsA1, ← hscap1, show ee.sent ++ [d] = sentOf ee d by rw [hsent]; rfl] at hset
      have hsz9 := HC9.out.size
      have hT11 := hset
      have hG : ∀ k, Plus F w9 k → k ≠ w.heap.size + 1 + 1 ∧ Plus F w k := by
        rintro k (c | c)
        · exact ⟨by have := hF k c; omega, .inl c⟩
        · exact ⟨by have := lt_of_block F2.out; omega, .inr (by omega)⟩
      have hC11 : Chg F w W11 := by
        rw [← hW]
        exact (HC9.out.trans (Chg.of_grown hgr9 fun k e _ => .inl (by
          have := HH.out.fS _ (getD_mem hi) k
          rw [hee] at this
          exact this e))).set (.inl (HH.out.fA g rfl)) _ _
      have hr2 : W11.heap[w.heap.size + 1 + 1]? = some (.cells #[.bool false, .int .u64 0, .int .u64 0, .int .i64 0] 42 (0, 0)) := by
        rw [← hW, heap_set_other (by omega)]
        refine (hgr9.block _ (lt_of_block F2.out) (fun c => ?_)).trans F2.out
        have := ((HH.out.sent _ (getD_mem hi)).lt (w.heap.size + 1 + 1) (by rw [hee]; exact c.symm)).2
        omega
      clear hset
      generalize Plus F w9 = G at hT11 hG
      clear hW hown hgrow hat hlt hgr9 hlen1 hsA1 hscap1 hc10' hc4' x0 x1 x2 x3 z hsn9 HT9 HC9 F2 hf10 lD9 hgl9 n0 n4
      -- region 24: what is handed back
      have k4 : W11.cell? ⟨g, i * 11 + 4, none⟩ = some (.int .i64 ee.port) := by
        obtain ⟨g', off', e1, _, e3⟩ := hT11.ents i (by simpa using hi)
        injection e1 with e1
        injection e1 with e1 e2
        subst e1 e2
        have e5 := e3.c4
        rw [show (L.set i { ee with last := at_, sA := sA1, scap := scap1, sent := sentOf ee d }).getD i noEnt = { ee with last := at_, sA := sA1, scap := scap1, sent := sentOf ee d } by rw [List.getD_eq_getElem?_getD, List.getElem?_set_self hi]; rfl] at e5
        simpa using e5
      have k5 := tr_cell hT11.blk 5
      have k6 := tr_cell hT11.blk 6
      have k7 := tr_cell hT11.blk 7
      simp only [List.getElem?_toArray, List.getElem?_cons_zero, List.getElem?_cons_succ] at k5 k6 k7
      have r0 := cell_of hr2 0
      have r1 := cell_of hr2 1
      have r2 := cell_of hr2 2
      have r3 := cell_of hr2 3
      simp only [List.getElem?_toArray, List.getElem?_cons_zero, List.getElem?_cons_succ] at r0 r1 r2 r3
      have rf : ∀ j, W11.frozen? ⟨w.heap.size + 1 + 1, j, none⟩ = false := fun j => by simp [World.frozen?, hr2]
      have rf0 := rf 0
      have rf1 := rf 1
      have rf2 := rf 2
      have rf3 := rf 3
      have lR := lt_of_block hr2
      have HT11 := Lib.hid hT11
      have HC11 := Lib.hid hC11
      have HR2 := Lib.hid hr2
      clear hT11 hC11 hr2 rf
      go_wp2_with fail
      go_region_held3 (fun w' => w'.cell? ⟨g, i * 11 + 4, none⟩ = some (.int .i64 ee.port) ∧ w'.cell? ⟨T, 5, none⟩ = some (.bool n.six) ∧ w'.cell? ⟨T, 6, none⟩ = some (.int .u64 n.hi) ∧ w'.cell? ⟨T, 7, none⟩ = some (.int .u64 n.lo)) ((repeat' apply And.intro) <;> (repeat (first | with_reducible assumption | rw [cell_drew] | rw [World.cell?_setCell_far _ _ _ _ (by simp; omega)]))) (fail)
      generalize hW : World.setCell _ _ _ = W12
      obtain ⟨hr3, hb12⟩ := set4 HR2.out (Nat.le_refl _) hW
      have hoth : ∀ k, k ≠ w.heap.size + 1 + 1 → W12.heap[k]? = W11.heap[k]? := fun k hk => by rw [← hW, heap_set_other hk, heap_set_other hk, heap_set_other hk, heap_set_other hk]
      have y0 := cell_of hr3 0
      have y1 := cell_of hr3 1
      have y2 := cell_of hr3 2
      have y3 := cell_of hr3 3
      simp only [List.getElem?_toArray, List.getElem?_cons_zero, List.getElem?_cons_succ] at y0 y1 y2 y3
      have HFIN := Lib.hid (show Chg F w W12.drew ∧ TrAt W12.drew (Plus F w) T n at_ next (some ⟨g, 0, none⟩) cap (L.set i { ee with last := at_, sA := sA1, scap := scap1, sent := sentOf ee d }) from
        ⟨(HC11.out.trans (Chg.mk hb12.os hb12.tape hb12.output hb12.size fun k _ hn => hoth k (fun e => hn (.inr (by omega))))).drew, HT11.out.keep (fun k hk _ => hoth k (hG k hk).1) fun k hk => (hG k hk).2⟩)
      clear hW hb12 hoth HT11 HC11 HR2 k4 k5 k6 k7 r0 r1 r2 r3 rf0 rf1 rf2 rf3 hr3
      go_wp2_with fail
      refine bodyPost_ret (v := .tuple #[.agg #[.bool n.six, .int .u64 n.hi, .int .u64 n.lo, .int .i64 ee.port], .int .i64 0]) (by simp [results, Tryz.results13, go_sem, y0, y1, y2, y3]) rfl ⟨by rw [hee], HFIN.out.1, sA1, scap1, by rw [hee]; exact HFIN.out.2⟩
  · rw [hq] at hhas hsent
    go_region_held3 (fun w' => w'.cell? ⟨g, i * 11 + 10, none⟩ = some (.slice ee.sA ee.sent.length ee.scap) ∧ w'.cell? ⟨w.heap.size + 1, 0, none⟩ = some (.bool d.six) ∧ w'.cell? ⟨w.heap.size + 1, 1, none⟩ = some (.int .u64 d.hi) ∧ w'.cell? ⟨w.heap.size + 1, 2, none⟩ = some (.int .u64 d.lo) ∧ w'.cell? ⟨w.heap.size + 1, 3, none⟩ = some (.int .i64 d.port))
      ((repeat' apply And.intro) <;> (repeat (first | with_reducible assumption | rw [cell_drew] | rw [Below.cell hb1 (by simp; omega)])))
      ((go_at_call 37; refine hhas.mono ?_; rintro e w9 ⟨rfl, hb1⟩))
    have hb9 := drewB hb1
    generalize w9 = W11 at *
    obtain ⟨sA1, hsA1⟩ : ∃ x, x = ee.sA := ⟨_, rfl⟩
    obtain ⟨scap1, hscap1⟩ : ∃ x, x = ee.scap := ⟨_, rfl⟩
    have hT9 := HT8.out.below hb9
    have hT11 : TrAt W11 F T n at_ next (some ⟨g, 0, none⟩) cap (L.set i { ee with last := at_, sA := sA1, scap := scap1, sent := sentOf ee d }) := by
      rw [hsA1, hscap1, show sentOf ee d = ee.sent by rw [hsent]; rfl]
      exact hT9
    have hC11 : Chg F w W11 := HC8.out.trans (Chg.of_below hb9)
    have hr2 := (hb9.block (w.heap.size + 1 + 1) (lt_of_block E2.out)).trans E2.out
    have hG : ∀ k, F k → k ≠ w.heap.size + 1 + 1 ∧ Plus F w k := fun k c => ⟨by have := hF k c; omega, .inl c⟩
    clear hb1 hb9 hc10 hc4 d0 d1 d2 d3 hhas HT8 HC8 E1 E2 HSN hc9 hsA1 hscap1 hT9 HL8 HEL
    -- region 24: what is handed back
    have k4 : W11.cell? ⟨g, i * 11 + 4, none⟩ = some (.int .i64 ee.port) := by
      obtain ⟨g', off', e1, _, e3⟩ := hT11.ents i (by simpa using hi)
      injection e1 with e1
      injection e1 with e1 e2
      subst e1 e2
      have e5 := e3.c4
      rw [show (L.set i { ee with last := at_, sA := sA1, scap := scap1, sent := sentOf ee d }).getD i noEnt = { ee with last := at_, sA := sA1, scap := scap1, sent := sentOf ee d } by rw [List.getD_eq_getElem?_getD, List.getElem?_set_self hi]; rfl] at e5
      simpa using e5
    have k5 := tr_cell hT11.blk 5
    have k6 := tr_cell hT11.blk 6
    have k7 := tr_cell hT11.blk 7
    simp only [List.getElem?_toArray, List.getElem?_cons_zero, List.getElem?_cons_succ] at k5 k6 k7
    have r0 := cell_of hr2 0
    have r1 := cell_of hr2 1
    have r2 := cell_of hr2 2
    have r3 := cell_of hr2 3
    simp only [List.getElem?_toArray, List.getElem?_cons_zero, List.getElem?_cons_succ] at r0 r1 r2 r3
    have rf : ∀ j, W11.frozen? ⟨w.heap.size + 1 + 1, j, none⟩ = false := fun j => by simp [World.frozen?, hr2]
    have rf0 := rf 0
    have rf1 := rf 1
    have rf2 := rf 2
    have rf3 := rf 3
    have lR := lt_of_block hr2
    have HT11 := Lib.hid hT11
    have HC11 := Lib.hid hC11
    have HR2 := Lib.hid hr2
    clear hT11 hC11 hr2 rf
    go_wp2_with fail
    go_region_held3 (fun w' => w'.cell? ⟨g, i * 11 + 4, none⟩ = some (.int .i64 ee.port) ∧ w'.cell? ⟨T, 5, none⟩ = some (.bool n.six) ∧ w'.cell? ⟨T, 6, none⟩ = some (.int .u64 n.hi) ∧ w'.cell? ⟨T, 7, none⟩ = some (.int .u64 n.lo)) ((repeat' apply And.intro) <;> (repeat (first | with_reducible assumption | rw [cell_drew] | rw [World.cell?_setCell_far _ _ _ _ (by simp; omega)]))) (fail)
    generalize hW : World.setCell _ _ _ = W12
    obtain ⟨hr3, hb12⟩ := set4 HR2.out (Nat.le_refl _) hW
    have hoth : ∀ k, k ≠ w.heap.size + 1 + 1 → W12.heap[k]? = W11.heap[k]? := fun k hk => by rw [← hW, heap_set_other hk, heap_set_other hk, heap_set_other hk, heap_set_other hk]
    have y0 := cell_of hr3 0
    have y1 := cell_of hr3 1
    have y2 := cell_of hr3 2
    have y3 := cell_of hr3 3
    simp only [List.getElem?_toArray, List.getElem?_cons_zero, List.getElem?_cons_succ] at y0 y1 y2 y3
    have HFIN := Lib.hid (show Chg F w W12.drew ∧ TrAt W12.drew (Plus F w) T n at_ next (some ⟨g, 0, none⟩) cap (L.set i { ee with last := at_, sA := sA1, scap := scap1, sent := sentOf ee d }) from
      ⟨(HC11.out.trans (Chg.mk hb12.os hb12.tape hb12.output hb12.size fun k _ hn => hoth k (fun e => hn (.inr (by omega))))).drew, HT11.out.keep (fun k hk _ => hoth k (hG k hk).1) fun k hk => (hG k hk).2⟩)
    clear hW hb12 hoth HT11 HC11 HR2 k4 k5 k6 k7 r0 r1 r2 r3 rf0 rf1 rf2 rf3 hr3
    go_wp2_with fail
    refine bodyPost_ret (v := .tuple #[.agg #[.bool n.six, .int .u64 n.hi, .int .u64 n.lo, .int .i64 ee.port], .int .i64 0]) (by simp [results, Tryz.results13, go_sem, y0, y1, y2, y3]) rfl ⟨by rw [hee], HFIN.out.1, sA1, scap1, by rw [hee]; exact HFIN.out.2⟩
end Go.Proofs.YtphjgjcbolmdiaaGreatDoor
