/- The plain law of PoolsKeep: a pool with a chosen lease, a full pool, the set of one prefix. addr.Take, addr.Best. PoolsKeep's closures; slices.EqualFunc over leases. -/
import Derived.Test.YtajifionclpphaaGreatDoorPoK
import Derived.Test.YtajifionclpphaaGreatDoorPhS
namespace Go.Proofs.YtajifionclpphaaGreatDoor
open Go.RowKit Go.Hw
/-- A pool with one lease more. -/
def leaseP (P : Pl) (key : List UInt8) (x : Pf) : Pl := ⟨P.pf, P.kept, isortL (leLt cmpK) (P.ls ++ [⟨key, x⟩])⟩
theorem ChoseN.lease {P : Pl} {x : Pf} {n : Int} {key : List UInt8} (hf : FinePl P) (h : ChoseN P n x) (h4 : P.ls.length ≤ 4) (hk : isKey ⟨key.toArray⟩ = true) (hk2 : key.length ≤ 40) (hno : ∀ y ∈ P.ls, y.key ≠ key) :
    FinePl (leaseP P key x) ∧ (leaseP P key x).ls.length = P.ls.length + 1 ∧ (∀ k, freeN (leaseP P key x) k ↔ freeN P k ∧ ¬ inP x k) ∧ okP x ∧ ∀ k, inP x k → freeN P k := by
  obtain ⟨h1, h2, h3, h5, f, f1, f2, f3, rfl⟩ := h
  have e1 := (ins_six f1 hf.ok.pf (fun k hk => (f2 k hk).1)).1
  obtain ⟨s1, s2, s3⟩ := subP_ok f1 f3 (by rw [e1]; exact h3)
  have hsort := sort_keys (L := P.ls ++ [⟨key, subP f n⟩]) (List.pairwise_append.2 ⟨hf.ok.ord.imp (fun {x y} h e => by rw [e] at h; exact List.lt_irrefl _ h), by simp, fun a ha b hb => by rw [List.mem_singleton.1 hb]; exact hno a ha⟩)
  obtain ⟨q1, q2⟩ := hf.ok.lease (Q := leaseP P key (subP f n)) (x := ⟨key, subP f n⟩) s1 h5 (fun k hk => f2 k (s2 k hk)) rfl rfl hsort.1 hsort.2
  have hlen : (leaseP P key (subP f n)).ls.length = P.ls.length + 1 := by
    show (isortL (leLt cmpK) (P.ls ++ [⟨key, subP f n⟩])).length = _
    rw [hsort.1.length_eq]
    simp
  refine ⟨⟨q1, fun y hy => ?_, hf.n1, by rw [hlen]; omega⟩, hlen, q2, s1, fun k hk => f2 k (s2 k hk)⟩
  rcases List.mem_append.1 (hsort.1.mem_iff.1 hy) with h | h
  · exact hf.key y h
  · rw [List.mem_singleton.1 h]
    exact ⟨hk, hk2⟩
/-- No prefix of a full pool is as great as asked for. -/
theorem FullN.none {P : Pl} {n : Int} (hf : FinePl P) (h : FullN P n) {L : List Pf} {S : List Sn} (hs : SetIs L S) (e : ∀ k, hasS S k ↔ freeN P k) : L.any (fun y => decide (y.bits ≤ n)) = false := by
  obtain ⟨S', h1, h2, h3, h4⟩ := h
  obtain rfl : S = S' := set_eq hs.norm h1 (fun k => by rw [e, h3])
  rw [List.any_eq_false]
  intro y hy hyn
  have hyn : y.bits ≤ n := by simpa using hyn
  apply h4
  refine ⟨bkP y, by rw [← hs.map]; exact List.mem_map.2 ⟨y, hy, rfl⟩, ?_⟩
  have hin : insP y P.pf := fun k hk => ((e k).1 (by rw [← preS_has k, ← hs.map]; exact ⟨bkS (bkP y), List.mem_map.2 ⟨_, List.mem_map.2 ⟨y, hy, rfl⟩, rfl⟩, hk.1, hk.2⟩)).1
  have h6 := (ins_six (hs.ok y hy) hf.ok.pf hin).1
  show _ ≤ (lenA y.six - y.bits).toNat
  rw [h6]
  omega
/-- The set of one prefix. -/
theorem set_one {x : Pf} (h : okP x) : SetIs [x] [bkS (bkP x)] := by
  obtain ⟨a1, a2, a3⟩ := bkP_al h
  have hp := Nat.two_pow_pos (bkP x).2
  have hp2 := Nat.pow_le_pow_right (n := 2) (by decide) a2
  have hn : NormS [bkS (bkP x)] := ⟨fun z hz => by rw [List.mem_singleton.1 hz]; show (bkP x).1 < (bkP x).1 + 2 ^ (bkP x).2; omega, List.pairwise_singleton _ _⟩
  have hle := preS_least hn (fun z hz => by rw [List.mem_singleton.1 hz]; show (bkP x).1 + 2 ^ (bkP x).2 ≤ (bkP x).1 + 2 ^ 128; omega) (B := [bkP x]) (fun b hb => by rw [List.mem_singleton.1 hb]; exact a1) (fun n => Iff.rfl)
  have e1 : preS [bkS (bkP x)] = preG (bkP x).1 ((bkP x).1 + 2 ^ (bkP x).2) := preS_one _
  have hm : [x].map bkP = preS [bkS (bkP x)] := by
    rw [e1] at hle ⊢
    have hlt : (bkP x).1 < (bkP x).1 + 2 ^ (bkP x).2 := by omega
    have e2 := preG_some hlt
    rw [e2] at hle
    have ht : preG ((bkP x).1 + 2 ^ bigM (bkP x).1 ((bkP x).1 + 2 ^ (bkP x).2)) ((bkP x).1 + 2 ^ (bkP x).2) = [] := List.eq_nil_of_length_eq_zero (by rw [List.length_cons, List.length_singleton] at hle; omega)
    have hin := (preG_in (e2 ▸ List.mem_cons_self : ((bkP x).1, bigM (bkP x).1 ((bkP x).1 + 2 ^ (bkP x).2)) ∈ preG (bkP x).1 ((bkP x).1 + 2 ^ (bkP x).2))).2.2.2
    have hnl : ¬ (bkP x).1 + 2 ^ bigM (bkP x).1 ((bkP x).1 + 2 ^ (bkP x).2) < (bkP x).1 + 2 ^ (bkP x).2 := fun hlt2 => by
      rw [preG_some hlt2] at ht
      cases ht
    rw [e2, ht]
    have hin : (bkP x).1 + 2 ^ bigM (bkP x).1 ((bkP x).1 + 2 ^ (bkP x).2) ≤ (bkP x).1 + 2 ^ (bkP x).2 := hin
    have e3 : bigM (bkP x).1 ((bkP x).1 + 2 ^ (bkP x).2) = (bkP x).2 := (Nat.pow_right_inj (by decide : 1 < 2)).1 (by omega)
    rw [e3]
    rfl
  refine ⟨fun p hp => by rw [List.mem_singleton.1 hp]; exact h, hm, hn, fun z hz => ?_⟩
  rw [List.mem_singleton.1 hz]
  unfold famOk sixS
  rcases hx : x.six with _ | _
  · left
    rw [hx] at a3
    have := fam_apart
    refine ⟨decide_eq_false ?_, a3⟩
    show ¬ sixAt ≤ (bkP x).1
    omega
  · right
    rw [hx] at a3
    refine ⟨decide_eq_true ?_, a3⟩
    show sixAt ≤ keyN x.six _
    unfold keyN
    rw [hx]
    simp
theorem one_has (x : Pf) (k : Nat) : hasS [bkS (bkP x)] k ↔ inP x k := by
  constructor
  · rintro ⟨z, hz, h1, h2⟩
    rw [List.mem_singleton.1 hz] at h1 h2
    exact ⟨h1, h2⟩
  · rintro ⟨h1, h2⟩
    exact ⟨_, List.mem_singleton_self _, h1, h2⟩
/-- What is free of a right pool has at most 890 blocks. -/
theorem free_bd {P : Pl} (hf : FinePl P) : BdN (freeN P) 1000 := fun _ t1 t2 t3 => Nat.le_trans (free_few hf t2 t3 t1) (by omega)
end Go.Proofs.YtajifionclpphaaGreatDoor

namespace Go.Proofs.YtajifionclpphaaGreatDoor
open Go.RowKit Go.Hw
set_option maxRecDepth 100000 in
set_option maxHeartbeats 8000000 in
theorem addrTake_any (P : Pl) (key : List UInt8) (n : Int) (AK AL : Option Addr) (ck cl : Nat) (w : World) (h : PlAt w P AK AL cl) (hf : FinePl P) (hk : isKey ⟨key.toArray⟩ = true) (hk2 : key.length ≤ 40) (hno : ∀ x ∈ P.ls, x.key ≠ key) :
    Calls Tryz.prog 22 #[plV P.pf (.slice AK P.kept.length ck) (.slice AL P.ls.length cl), .string ⟨key.toArray⟩, .int .i64 n] w (TakeIs w P key n) := by
  have b1 : Below w.heap.size w (((w.alloc (plBox P.pf (.slice AK P.kept.length ck) (.slice AL P.ls.length cl))).alloc (.cells #[.bool false, .int .u64 0, .int .u64 0, .int .i64 0, .slice none 0 0, .slice none 0 0] 53 (0, 0))).alloc (.cells #[.bool false, .int .u64 0, .int .u64 0, .int .i64 0] 48 (0, 0))) := (((Below.refl _ _).alloc (Nat.le_refl _) _).alloc (by simp) _).alloc (by simp <;> omega) _
  have b0 : (((w.alloc (plBox P.pf (.slice AK P.kept.length ck) (.slice AL P.ls.length cl))).alloc (.cells #[.bool false, .int .u64 0, .int .u64 0, .int .i64 0, .slice none 0 0, .slice none 0 0] 53 (0, 0))).alloc (.cells #[.bool false, .int .u64 0, .int .u64 0, .int .i64 0] 48 (0, 0))).heap[w.heap.size]? = some (plBox P.pf (.slice AK P.kept.length ck) (.slice AL P.ls.length cl)) := (heap_alloc_old _ _ (by simp <;> omega)).trans ((heap_alloc_old _ _ (by simp)).trans (heap_alloc_new w _))
  have b2 : (((w.alloc (plBox P.pf (.slice AK P.kept.length ck) (.slice AL P.ls.length cl))).alloc (.cells #[.bool false, .int .u64 0, .int .u64 0, .int .i64 0, .slice none 0 0, .slice none 0 0] 53 (0, 0))).alloc (.cells #[.bool false, .int .u64 0, .int .u64 0, .int .i64 0] 48 (0, 0))).heap[w.heap.size + 1]? = some (.cells #[.bool false, .int .u64 0, .int .u64 0, .int .i64 0, .slice none 0 0, .slice none 0 0] 53 (0, 0)) := (heap_alloc_old _ _ (by simp)).trans (by
    have := heap_alloc_new (w.alloc (plBox P.pf (.slice AK P.kept.length ck) (.slice AL P.ls.length cl))) (.cells #[.bool false, .int .u64 0, .int .u64 0, .int .i64 0, .slice none 0 0, .slice none 0 0] 53 (0, 0))
    simp only [Re_size] at this
    exact this)
  have b3 : (((w.alloc (plBox P.pf (.slice AK P.kept.length ck) (.slice AL P.ls.length cl))).alloc (.cells #[.bool false, .int .u64 0, .int .u64 0, .int .i64 0, .slice none 0 0, .slice none 0 0] 53 (0, 0))).alloc (.cells #[.bool false, .int .u64 0, .int .u64 0, .int .i64 0] 48 (0, 0))).heap[w.heap.size + 2]? = some (.cells #[.bool false, .int .u64 0, .int .u64 0, .int .i64 0] 48 (0, 0)) := by
    have := heap_alloc_new ((w.alloc (plBox P.pf (.slice AK P.kept.length ck) (.slice AL P.ls.length cl))).alloc (.cells #[.bool false, .int .u64 0, .int .u64 0, .int .i64 0, .slice none 0 0, .slice none 0 0] 53 (0, 0))) (.cells #[.bool false, .int .u64 0, .int .u64 0, .int .i64 0] 48 (0, 0))
    simp only [Re_size] at this
    exact this
  have HB := Lib.hid b1
  have H0 := Lib.hid (h.below b1)
  have HT := Lib.hid (fun W (h0 : PlAt W P AK AL cl) => take_any P key n false AK AL ck cl W h0 hf hk hk2 hno)
  clear h hf b1 hno
  unfold plV
  unfold plBox at b0 b2 b3 HB H0
  go_enter Tryz.func22, Tryz.ntmps22
  go_upto_region 1 with (fail)
  generalize World.alloc (World.alloc (World.alloc w _) _) _ = W at b0 b2 b3 HB H0 ⊢
  have BR := Lib.hid b2
  have BS := Lib.hid b3
  obtain ⟨⟨x0, x1, x2, x3, x4, x5⟩, -⟩ := res6r b0
  clear b0 b2 b3
  have htk := HT.out W H0.out
  unfold plV at htk
  go_wp2_with fail
  refine htk.mono ?_
  rintro e W1 ⟨hc, hb1⟩
  have hz := lt_of_block BS.out
  have hzr := lt_of_block BR.out
  have BR1 := Lib.hid ((hb1.block _ (lt_of_block BR.out)).trans BR.out)
  have BS1 := Lib.hid ((hb1.block _ (lt_of_block BS.out)).trans BS.out)
  have HB1 := Lib.hid (HB.out.trans (hb1.mono HB.out.size))
  clear htk hb1 x0 x1 x2 x3 x4 x5 BR BS
  rcases hc with ⟨g, rfl, hg⟩ | ⟨x, AK3, AL3, ck3, cl3, rfl, hp3, hch, hf3⟩
  · obtain ⟨⟨r0, r1, r2, r3, r4, r5⟩, m0, m1, m2, m3, m4, m5⟩ := res6r BR1.out
    obtain ⟨⟨s0, s1, s2, s3⟩, f0, f1, f2, f3⟩ := res4 BS1.out
    have HG := Lib.hid hg
    clear hg
    go_wp2_with fail
    clear r0 r1 r2 r3 r4 r5 m0 m1 m2 m3 m4 m5 s0 s1 s2 s3 f0 f1 f2 f3
    generalize hW : World.setCell _ _ _ = W9
    obtain ⟨k1, k2, k3⟩ := re64 BR1.out BS1.out (by omega) hW
    have hfin : TakeIs w P key n (.returned (.tuple #[.agg #[.bool false, .int .u64 0, .int .u64 0, .int .i64 0, .slice none 0 0, .slice none 0 0], .agg #[.bool false, .int .u64 0, .int .u64 0, .int .i64 0], .int .i64 g])) W9 := ⟨.inl ⟨g, rfl, HG.out⟩, k3 _ _ HB1.out (by omega) (by omega)⟩
    obtain ⟨⟨y0, y1, y2, y3, y4, y5⟩, -⟩ := res6r k1
    obtain ⟨⟨z0, z1, z2, z3⟩, -⟩ := res4 k2
    refine bodyPost_ret (v := .tuple #[.agg #[.bool false, .int .u64 0, .int .u64 0, .int .i64 0, .slice none 0 0, .slice none 0 0], .agg #[.bool false, .int .u64 0, .int .u64 0, .int .i64 0], .int .i64 g]) (by simp [results, Tryz.results22, go_sem, y0, y1, y2, y3, y4, y5, z0, z1, z2, z3]) rfl hfin
  · obtain ⟨⟨r0, r1, r2, r3, r4, r5⟩, m0, m1, m2, m3, m4, m5⟩ := res6r BR1.out
    obtain ⟨⟨s0, s1, s2, s3⟩, f0, f1, f2, f3⟩ := res4 BS1.out
    have HP := Lib.hid hp3
    have HC := Lib.hid hch
    have HF3 := Lib.hid hf3
    clear hp3 hch hf3
    unfold plV
    go_wp2_with fail
    clear r0 r1 r2 r3 r4 r5 m0 m1 m2 m3 m4 m5 s0 s1 s2 s3 f0 f1 f2 f3
    generalize hW : World.setCell _ _ _ = W9
    obtain ⟨k1, k2, k3⟩ := re64 BR1.out BS1.out (by omega) hW
    obtain ⟨o1, o2⟩ := re64o BR1.out BS1.out (by omega) hW
    have hp9 := HP.out.two (R := w.heap.size + 1) (S := w.heap.size + 2) (by rw [o1]; exact Nat.le_refl _) (fun b _ h1 h2 => o2 b h1 h2) HF3.out (by omega) (by omega)
    have hws := HB.out.size
    have hfin : TakeIs w P key n (.returned (.tuple #[.agg #[.bool P.pf.six, .int .u64 P.pf.hi, .int .u64 P.pf.lo, .int .i64 P.pf.bits, .slice AK3 P.kept.length ck3, .slice AL3 (P.ls.length + 1) cl3], .agg #[.bool x.six, .int .u64 x.hi, .int .u64 x.lo, .int .i64 x.bits], .int .i64 0])) W9 := ⟨.inr ⟨x, AK3, AL3, ck3, cl3, rfl, hp9, HC.out, fun a ha => Nat.le_trans hws (HF3.out.1 a ha), fun a ha => Nat.le_trans hws (HF3.out.2 a ha)⟩, k3 _ _ HB1.out (by omega) (by omega)⟩
    obtain ⟨⟨y0, y1, y2, y3, y4, y5⟩, -⟩ := res6r k1
    obtain ⟨⟨z0, z1, z2, z3⟩, -⟩ := res4 k2
    refine bodyPost_ret (v := .tuple #[.agg #[.bool P.pf.six, .int .u64 P.pf.hi, .int .u64 P.pf.lo, .int .i64 P.pf.bits, .slice AK3 P.kept.length ck3, .slice AL3 (P.ls.length + 1) cl3], .agg #[.bool x.six, .int .u64 x.hi, .int .u64 x.lo, .int .i64 x.bits], .int .i64 0]) (by simp [results, Tryz.results22, go_sem, y0, y1, y2, y3, y4, y5, z0, z1, z2, z3]) rfl hfin
set_option maxRecDepth 100000 in
set_option maxHeartbeats 8000000 in
theorem addrBest_any (P : Pl) (key : List UInt8) (n : Int) (AK AL : Option Addr) (ck cl : Nat) (w : World) (h : PlAt w P AK AL cl) (hf : FinePl P) (hk : isKey ⟨key.toArray⟩ = true) (hk2 : key.length ≤ 40) (hno : ∀ x ∈ P.ls, x.key ≠ key) :
    Calls Tryz.prog 23 #[plV P.pf (.slice AK P.kept.length ck) (.slice AL P.ls.length cl), .string ⟨key.toArray⟩, .int .i64 n] w (TakeIs w P key n) := by
  have b1 : Below w.heap.size w (((w.alloc (plBox P.pf (.slice AK P.kept.length ck) (.slice AL P.ls.length cl))).alloc (.cells #[.bool false, .int .u64 0, .int .u64 0, .int .i64 0, .slice none 0 0, .slice none 0 0] 53 (0, 0))).alloc (.cells #[.bool false, .int .u64 0, .int .u64 0, .int .i64 0] 48 (0, 0))) := (((Below.refl _ _).alloc (Nat.le_refl _) _).alloc (by simp) _).alloc (by simp <;> omega) _
  have b0 : (((w.alloc (plBox P.pf (.slice AK P.kept.length ck) (.slice AL P.ls.length cl))).alloc (.cells #[.bool false, .int .u64 0, .int .u64 0, .int .i64 0, .slice none 0 0, .slice none 0 0] 53 (0, 0))).alloc (.cells #[.bool false, .int .u64 0, .int .u64 0, .int .i64 0] 48 (0, 0))).heap[w.heap.size]? = some (plBox P.pf (.slice AK P.kept.length ck) (.slice AL P.ls.length cl)) := (heap_alloc_old _ _ (by simp <;> omega)).trans ((heap_alloc_old _ _ (by simp)).trans (heap_alloc_new w _))
  have b2 : (((w.alloc (plBox P.pf (.slice AK P.kept.length ck) (.slice AL P.ls.length cl))).alloc (.cells #[.bool false, .int .u64 0, .int .u64 0, .int .i64 0, .slice none 0 0, .slice none 0 0] 53 (0, 0))).alloc (.cells #[.bool false, .int .u64 0, .int .u64 0, .int .i64 0] 48 (0, 0))).heap[w.heap.size + 1]? = some (.cells #[.bool false, .int .u64 0, .int .u64 0, .int .i64 0, .slice none 0 0, .slice none 0 0] 53 (0, 0)) := (heap_alloc_old _ _ (by simp)).trans (by
    have := heap_alloc_new (w.alloc (plBox P.pf (.slice AK P.kept.length ck) (.slice AL P.ls.length cl))) (.cells #[.bool false, .int .u64 0, .int .u64 0, .int .i64 0, .slice none 0 0, .slice none 0 0] 53 (0, 0))
    simp only [Re_size] at this
    exact this)
  have b3 : (((w.alloc (plBox P.pf (.slice AK P.kept.length ck) (.slice AL P.ls.length cl))).alloc (.cells #[.bool false, .int .u64 0, .int .u64 0, .int .i64 0, .slice none 0 0, .slice none 0 0] 53 (0, 0))).alloc (.cells #[.bool false, .int .u64 0, .int .u64 0, .int .i64 0] 48 (0, 0))).heap[w.heap.size + 2]? = some (.cells #[.bool false, .int .u64 0, .int .u64 0, .int .i64 0] 48 (0, 0)) := by
    have := heap_alloc_new ((w.alloc (plBox P.pf (.slice AK P.kept.length ck) (.slice AL P.ls.length cl))).alloc (.cells #[.bool false, .int .u64 0, .int .u64 0, .int .i64 0, .slice none 0 0, .slice none 0 0] 53 (0, 0))) (.cells #[.bool false, .int .u64 0, .int .u64 0, .int .i64 0] 48 (0, 0))
    simp only [Re_size] at this
    exact this
  have HB := Lib.hid b1
  have H0 := Lib.hid (h.below b1)
  have HT := Lib.hid (fun W (h0 : PlAt W P AK AL cl) => take_any P key n true AK AL ck cl W h0 hf hk hk2 hno)
  clear h hf b1 hno
  unfold plV
  unfold plBox at b0 b2 b3 HB H0
  go_enter Tryz.func23, Tryz.ntmps23
  go_upto_region 1 with (fail)
  generalize World.alloc (World.alloc (World.alloc w _) _) _ = W at b0 b2 b3 HB H0 ⊢
  have BR := Lib.hid b2
  have BS := Lib.hid b3
  obtain ⟨⟨x0, x1, x2, x3, x4, x5⟩, -⟩ := res6r b0
  clear b0 b2 b3
  have htk := HT.out W H0.out
  unfold plV at htk
  go_wp2_with fail
  refine htk.mono ?_
  rintro e W1 ⟨hc, hb1⟩
  have hz := lt_of_block BS.out
  have hzr := lt_of_block BR.out
  have BR1 := Lib.hid ((hb1.block _ (lt_of_block BR.out)).trans BR.out)
  have BS1 := Lib.hid ((hb1.block _ (lt_of_block BS.out)).trans BS.out)
  have HB1 := Lib.hid (HB.out.trans (hb1.mono HB.out.size))
  clear htk hb1 x0 x1 x2 x3 x4 x5 BR BS
  rcases hc with ⟨g, rfl, hg⟩ | ⟨x, AK3, AL3, ck3, cl3, rfl, hp3, hch, hf3⟩
  · obtain ⟨⟨r0, r1, r2, r3, r4, r5⟩, m0, m1, m2, m3, m4, m5⟩ := res6r BR1.out
    obtain ⟨⟨s0, s1, s2, s3⟩, f0, f1, f2, f3⟩ := res4 BS1.out
    have HG := Lib.hid hg
    clear hg
    go_wp2_with fail
    clear r0 r1 r2 r3 r4 r5 m0 m1 m2 m3 m4 m5 s0 s1 s2 s3 f0 f1 f2 f3
    generalize hW : World.setCell _ _ _ = W9
    obtain ⟨k1, k2, k3⟩ := re64 BR1.out BS1.out (by omega) hW
    have hfin : TakeIs w P key n (.returned (.tuple #[.agg #[.bool false, .int .u64 0, .int .u64 0, .int .i64 0, .slice none 0 0, .slice none 0 0], .agg #[.bool false, .int .u64 0, .int .u64 0, .int .i64 0], .int .i64 g])) W9 := ⟨.inl ⟨g, rfl, HG.out⟩, k3 _ _ HB1.out (by omega) (by omega)⟩
    obtain ⟨⟨y0, y1, y2, y3, y4, y5⟩, -⟩ := res6r k1
    obtain ⟨⟨z0, z1, z2, z3⟩, -⟩ := res4 k2
    refine bodyPost_ret (v := .tuple #[.agg #[.bool false, .int .u64 0, .int .u64 0, .int .i64 0, .slice none 0 0, .slice none 0 0], .agg #[.bool false, .int .u64 0, .int .u64 0, .int .i64 0], .int .i64 g]) (by simp [results, Tryz.results23, go_sem, y0, y1, y2, y3, y4, y5, z0, z1, z2, z3]) rfl hfin
  · obtain ⟨⟨r0, r1, r2, r3, r4, r5⟩, m0, m1, m2, m3, m4, m5⟩ := res6r BR1.out
    obtain ⟨⟨s0, s1, s2, s3⟩, f0, f1, f2, f3⟩ := res4 BS1.out
    have HP := Lib.hid hp3
    have HC := Lib.hid hch
    have HF3 := Lib.hid hf3
    clear hp3 hch hf3
    unfold plV
    go_wp2_with fail
    clear r0 r1 r2 r3 r4 r5 m0 m1 m2 m3 m4 m5 s0 s1 s2 s3 f0 f1 f2 f3
    generalize hW : World.setCell _ _ _ = W9
    obtain ⟨k1, k2, k3⟩ := re64 BR1.out BS1.out (by omega) hW
    obtain ⟨o1, o2⟩ := re64o BR1.out BS1.out (by omega) hW
    have hp9 := HP.out.two (R := w.heap.size + 1) (S := w.heap.size + 2) (by rw [o1]; exact Nat.le_refl _) (fun b _ h1 h2 => o2 b h1 h2) HF3.out (by omega) (by omega)
    have hws := HB.out.size
    have hfin : TakeIs w P key n (.returned (.tuple #[.agg #[.bool P.pf.six, .int .u64 P.pf.hi, .int .u64 P.pf.lo, .int .i64 P.pf.bits, .slice AK3 P.kept.length ck3, .slice AL3 (P.ls.length + 1) cl3], .agg #[.bool x.six, .int .u64 x.hi, .int .u64 x.lo, .int .i64 x.bits], .int .i64 0])) W9 := ⟨.inr ⟨x, AK3, AL3, ck3, cl3, rfl, hp9, HC.out, fun a ha => Nat.le_trans hws (HF3.out.1 a ha), fun a ha => Nat.le_trans hws (HF3.out.2 a ha)⟩, k3 _ _ HB1.out (by omega) (by omega)⟩
    obtain ⟨⟨y0, y1, y2, y3, y4, y5⟩, -⟩ := res6r k1
    obtain ⟨⟨z0, z1, z2, z3⟩, -⟩ := res4 k2
    refine bodyPost_ret (v := .tuple #[.agg #[.bool P.pf.six, .int .u64 P.pf.hi, .int .u64 P.pf.lo, .int .i64 P.pf.bits, .slice AK3 P.kept.length ck3, .slice AL3 (P.ls.length + 1) cl3], .agg #[.bool x.six, .int .u64 x.hi, .int .u64 x.lo, .int .i64 x.bits], .int .i64 0]) (by simp [results, Tryz.results23, go_sem, y0, y1, y2, y3, y4, y5, z0, z1, z2, z3]) rfl hfin
end Go.Proofs.YtajifionclpphaaGreatDoor

namespace Go.Proofs.YtajifionclpphaaGreatDoor
open Go.RowKit Go.Hw
theorem entersW1 : ∀ args w, (callFunc 25 args).run Tryz.prog w = .ok (.enter 25 args) w := enters_of Tryz.func25 (by kernel_rfl) rfl
theorem entersW2 : ∀ args w, (callFunc 29 args).run Tryz.prog w = .ok (.enter 29 args) w := enters_of Tryz.func29 (by kernel_rfl) rfl
theorem entersTk : ∀ args w, (callFunc 22 args).run Tryz.prog w = .ok (.enter 22 args) w := enters_of Tryz.func22 (by kernel_rfl) rfl
theorem entersBs : ∀ args w, (callFunc 23 args).run Tryz.prog w = .ok (.enter 23 args) w := enters_of Tryz.func23 (by kernel_rfl) rfl
set_option maxRecDepth 100000 in
set_option maxHeartbeats 1000000 in
theorem lawF1 (y : Pf) (n : Int) (nb : Nat) (w : World) (hb : w.heap[nb]? = some (.cells #[.int .i64 n] 3 (0, 0))) :
    Calls Tryz.prog 25 #[.agg #[.bool y.six, .int .u64 y.hi, .int .u64 y.lo, .int .i64 y.bits], .pointer (some ⟨nb, 0, none⟩)] w fun e w' => e = .returned (.bool (decide (y.bits ≤ n))) ∧ Below w.heap.size w w' := by
  have HB : Hid (Below w.heap.size w (w.alloc (.cells #[.bool y.six, .int .u64 y.hi, .int .u64 y.lo, .int .i64 y.bits] 48 (0, 0)))) := Lib.hid ((Below.refl _ _).alloc (Nat.le_refl _) _)
  have b1 := heap_alloc_new w (.cells #[.bool y.six, .int .u64 y.hi, .int .u64 y.lo, .int .i64 y.bits] 48 (0, 0))
  have b2 := (Below.heap_alloc w (.cells #[.bool y.six, .int .u64 y.hi, .int .u64 y.lo, .int .i64 y.bits] 48 (0, 0)) _ (lt_of_block hb)).trans hb
  obtain ⟨⟨k0, k1, k2, k3⟩, -⟩ := res4 b1
  have c0 := cell_of_one b2
  clear hb b1 b2
  go_enter Tryz.func25, Tryz.ntmps25
  go_upto_region 1 with (fail)
  generalize World.alloc w _ = W at k0 k1 k2 k3 c0 HB ⊢
  go_wp2_with fail
  go_ret
  exact ⟨rfl, HB.out⟩
set_option maxRecDepth 100000 in
set_option maxHeartbeats 2000000 in
theorem lawF2 (x y : Le) (w : World) (h1 : x.key = y.key) (h2 : x.pf.bits = y.pf.bits) :
    Calls Tryz.prog 29 #[.agg #[.string ⟨x.key.toArray⟩, .bool x.pf.six, .int .u64 x.pf.hi, .int .u64 x.pf.lo, .int .i64 x.pf.bits], .agg #[.string ⟨y.key.toArray⟩, .bool y.pf.six, .int .u64 y.pf.hi, .int .u64 y.pf.lo, .int .i64 y.pf.bits]] w fun e w' => e = .returned (.bool true) ∧ Below w.heap.size w w' := by
  have HB : Hid (Below w.heap.size w ((w.alloc (.cells #[.string ⟨x.key.toArray⟩, .bool x.pf.six, .int .u64 x.pf.hi, .int .u64 x.pf.lo, .int .i64 x.pf.bits] 67 (0, 0))).alloc (.cells #[.string ⟨y.key.toArray⟩, .bool y.pf.six, .int .u64 y.pf.hi, .int .u64 y.pf.lo, .int .i64 y.pf.bits] 67 (0, 0)))) := Lib.hid (((Below.refl _ _).alloc (Nat.le_refl _) _).alloc (by simp) _)
  have b1 := (heap_alloc_old (w.alloc (.cells #[.string ⟨x.key.toArray⟩, .bool x.pf.six, .int .u64 x.pf.hi, .int .u64 x.pf.lo, .int .i64 x.pf.bits] 67 (0, 0))) (.cells #[.string ⟨y.key.toArray⟩, .bool y.pf.six, .int .u64 y.pf.hi, .int .u64 y.pf.lo, .int .i64 y.pf.bits] 67 (0, 0)) (by simp)).trans (heap_alloc_new w (.cells #[.string ⟨x.key.toArray⟩, .bool x.pf.six, .int .u64 x.pf.hi, .int .u64 x.pf.lo, .int .i64 x.pf.bits] 67 (0, 0)))
  have b2 := heap_alloc_new (w.alloc (.cells #[.string ⟨x.key.toArray⟩, .bool x.pf.six, .int .u64 x.pf.hi, .int .u64 x.pf.lo, .int .i64 x.pf.bits] 67 (0, 0))) (.cells #[.string ⟨y.key.toArray⟩, .bool y.pf.six, .int .u64 y.pf.hi, .int .u64 y.pf.lo, .int .i64 y.pf.bits] 67 (0, 0))
  simp only [Re_size] at b2
  obtain ⟨⟨k0, k1, k2, k3, k4⟩, -⟩ := res5 b1
  obtain ⟨⟨y0, y1, y2, y3, y4⟩, -⟩ := res5 b2
  have H1 := Lib.hid h1
  have H2 := Lib.hid h2
  clear b1 b2 h1 h2
  go_enter Tryz.func29, Tryz.ntmps29
  go_upto_region 1 with (fail)
  generalize World.alloc (World.alloc w _) _ = W at k0 k1 k2 k3 k4 y0 y1 y2 y3 y4 HB ⊢
  rw [← H1.out] at y0
  rw [← H2.out] at y4
  clear H1 H2
  go_wp2_with fail
  go_ret
  exact ⟨rfl, HB.out⟩
theorem map_getD {L M : List Le} (h : M.map (fun x => (x.key, x.pf.bits)) = L.map (fun x => (x.key, x.pf.bits))) {k : Nat} (hk : k < L.length) : k < M.length ∧ (L.getD k noLe).key = (M.getD k noLe).key ∧ (L.getD k noLe).pf.bits = (M.getD k noLe).pf.bits := by
  have hl : M.length = L.length := by have := congrArg List.length h; simpa using this
  have hk2 : k < M.length := by omega
  have e : (M.map (fun x => (x.key, x.pf.bits)))[k]? = (L.map (fun x => (x.key, x.pf.bits)))[k]? := by rw [h]
  rw [List.getElem?_map, List.getElem?_map, List.getElem?_eq_getElem hk, List.getElem?_eq_getElem hk2] at e
  simp only [Option.map_some, Option.some.injEq, Prod.mk.injEq] at e
  rw [List.getD_eq_getElem?_getD, List.getD_eq_getElem?_getD, List.getElem?_eq_getElem hk, List.getElem?_eq_getElem hk2]
  exact ⟨hk2, e.1.symm, e.2.symm⟩
set_option maxRecDepth 100000 in
set_option maxHeartbeats 4000000 in
theorem le_same (A B : Option Addr) (ca cb : Nat) (L M : List Le) (w : World) (hA : leAt w A L) (hB : leAt w B M) (hl : L.length ≤ 1000000) (h : M.map (fun x => (x.key, x.pf.bits)) = L.map (fun x => (x.key, x.pf.bits))) :
    Calls Tryz.prog 28 #[.slice A L.length ca, .slice B M.length cb, .func (.func 29) #[] #[]] w fun e w' => e = .returned (.bool true) ∧ Below w.heap.size w w' := by
  have hlen : M.length = L.length := by have := congrArg List.length h; simpa using this
  have HA := Lib.hid hA
  have HB := Lib.hid hB
  have HM := Lib.hid (fun k (hk : k < L.length) => map_getD h hk)
  have eg := entersW2
  rw [hlen]
  clear h hA hB hlen
  go_enter Tryz.func28, Tryz.ntmps28
  go_wp2_with fail
  go_loopw [17] (fun v wr => ∃ k : Nat, k ≤ L.length ∧ v = .int .i64 k ∧ Below w.heap.size w wr) (fun v _ => L.length - (intOf v).toNat)
  case atStart => exact ⟨0, Nat.zero_le _, rfl, Below.refl _ _⟩
  case round =>
    obtain ⟨k, hk, rfl, hb⟩ := hrel
    by_cases hlt : k < L.length
    · obtain ⟨g, off, rfl, hgB, hcc⟩ := (HA.out.below hb) k hlt
      obtain ⟨hlt2, e1, e2⟩ := HM.out k hlt
      obtain ⟨g2, off2, rfl, hgB2, hcc2⟩ := (HB.out.below hb) k hlt2
      obtain ⟨c0, c1, c2, c3, c4⟩ := le_cells hcc
      obtain ⟨d0, d1, d2, d3, d4⟩ := le_cells hcc2
      generalize L.getD k noLe = x at *
      generalize M.getD k noLe = y at *
      have HF := Lib.hid (fun W => lawF2 x y W e1 e2)
      have HBK := Lib.hid hb
      have hd : decide ((k : Int) < (L.length : Int)) = true := by simp; omega
      have hwz := hb.size
      clear hcc hcc2 hb e1 e2
      have HB2 : Hid (Below w.heap.size w ((wr.alloc (.cells #[.string ⟨x.key.toArray⟩, .bool x.pf.six, .int .u64 x.pf.hi, .int .u64 x.pf.lo, .int .i64 x.pf.bits] 67 (0, 0))).alloc (.cells #[.string ⟨y.key.toArray⟩, .bool y.pf.six, .int .u64 y.pf.hi, .int .u64 y.pf.lo, .int .i64 y.pf.bits] 67 (0, 0)))) := Lib.hid (((HBK.out).alloc (by omega) _).alloc (by simp <;> omega) _)
      go_upto_region 7 with (fail)
      generalize hW : World.alloc (World.alloc wr _) _ = W at HB2 ⊢
      have b1 : W.heap[wr.heap.size]? = some (.cells #[.string ⟨x.key.toArray⟩, .bool x.pf.six, .int .u64 x.pf.hi, .int .u64 x.pf.lo, .int .i64 x.pf.bits] 67 (0, 0)) := by rw [← hW]; exact (heap_alloc_old (wr.alloc (.cells #[.string ⟨x.key.toArray⟩, .bool x.pf.six, .int .u64 x.pf.hi, .int .u64 x.pf.lo, .int .i64 x.pf.bits] 67 (0, 0))) _ (by simp)).trans (heap_alloc_new wr _)
      have b2 : W.heap[wr.heap.size + 1]? = some (.cells #[.string ⟨y.key.toArray⟩, .bool y.pf.six, .int .u64 y.pf.hi, .int .u64 y.pf.lo, .int .i64 y.pf.bits] 67 (0, 0)) := by
        have h2 := heap_alloc_new (wr.alloc (.cells #[.string ⟨x.key.toArray⟩, .bool x.pf.six, .int .u64 x.pf.hi, .int .u64 x.pf.lo, .int .i64 x.pf.bits] 67 (0, 0))) (.cells #[.string ⟨y.key.toArray⟩, .bool y.pf.six, .int .u64 y.pf.hi, .int .u64 y.pf.lo, .int .i64 y.pf.bits] 67 (0, 0))
        simp only [Re_size] at h2
        rw [← hW]
        exact h2
      clear hW c0 c1 c2 c3 c4 d0 d1 d2 d3 d4
      obtain ⟨⟨k0, k1, k2, k3, k4⟩, -⟩ := res5 b1
      obtain ⟨⟨y0, y1, y2, y3, y4⟩, -⟩ := res5 b2
      clear b1 b2
      go_wp2_with fail
      refine (HF.out _).mono ?_
      rintro e w1 ⟨rfl, hb1⟩
      go_wp2_with fail
      go_roundw
      case rel => exact ⟨k + 1, by omega, by go_num, HB2.out.trans (hb1.mono HB2.out.size)⟩
      case measure => simp [intOf]; omega
    · have : k = L.length := by omega
      subst this
      go_wp2_with fail
      go_ret
      exact ⟨rfl, hb⟩
end Go.Proofs.YtajifionclpphaaGreatDoor
