/- span.joined. Prefixes in memory. -/
import Derived.Test.YtajifionclpphaaGreatDoorStY
namespace Go.Proofs.YtajifionclpphaaGreatDoor
open Go.RowKit Go.Hw
theorem cells_newR (W : World) (cs : List Value) (T : TypeId) : ∀ j u, cs[j]? = some u → (W.alloc (.cells cs.toArray T)).cell? ((⟨W.heap.size, 0, none⟩ : Addr).add j) = some u := by
  intro j u hu
  exact cells_new W cs T j u hu
/-- Any row of ranges is sorted by where they begin. -/
theorem rg_sortAny (L : List Rg) (base : Nat) (v : Value) (w : World) (h : rgOwn w base v L) (hn : L.length < 1000000) :
    Calls Tryz.prog 130 #[v, .func (.func 131) #[] #[]] w fun e w' => e = .returned (.tuple #[]) ∧ ∃ M, M.Perm L ∧ M.Pairwise (fun x y => ltOf rgCmp y x = false) ∧ rgOwn w' base v M ∧ w.grownBy w' v.ownBlock := by
  rcases Nat.eq_zero_or_pos L.length with h0 | h0
  · have hl := List.length_eq_zero_iff.1 h0
    subst hl
    obtain ⟨A, cap, rfl, -⟩ := rw_at (d := noRg) rgC_len h
    refine (rg_sort0 A cap _ w).mono ?_
    rintro e w' ⟨rfl, rfl⟩
    exact ⟨rfl, [], List.Perm.refl _, List.Pairwise.nil, h, World.grownBy.refl _ _⟩
  · exact rg_sort L base v w h hn h0
/-- Where one does not begin earlier. -/
theorem rgCmp_le {x y : Rg} (hx : okR x) (hy : okR y) (h : ltOf rgCmp y x = false) : (rgS x).1 ≤ (rgS y).1 := by
  have hs := (spanC_key hy.f hx.f).1
  unfold ltOf rgCmp at h
  rw [decide_eq_false_iff_not] at h
  show keyA (fiR x) ≤ keyA (fiR y)
  have e : spanC (fiR y).six (fiR y).hi (fiR y).lo (fiR x).six (fiR x).hi (fiR x).lo = spanC y.six y.hi y.lo x.six x.hi x.lo := rfl
  rw [e] at hs
  omega
/-- The row so far. -/
structure JnI (W1 : World) (M : List Rg) (AM : Option Addr) (k : Nat) (v : Value) (wr : World) : Prop where
  below : Below W1.heap.size W1 wr
  row : ∃ O : List Rg, rgOwn wr W1.heap.size v O ∧ O.length ≤ k ∧ (∀ r ∈ O, okR r) ∧ O.map rgS = ((M.take k).map rgS).foldl stepJ []
theorem okR_okS {L : List Rg} (h : ∀ r ∈ L, okR r) : okS (L.map rgS) := by
  intro x hx
  obtain ⟨r, hr, rfl⟩ := List.mem_map.1 hx
  have := (h r hr).le
  show keyA (fiR r) < keyA (laR r) + 1
  omega
theorem JnI.step {W1 wr : World} {M : List Rg} {AM : Option Addr} {k : Nat} {v : Value} {O O2 : List Rg} (hk : k < M.length) (hb : Below W1.heap.size W1 wr) (ho : rgOwn wr W1.heap.size v O2) (hl : O2.length ≤ k + 1) (hok : ∀ r ∈ O2, okR r) (hm : O.map rgS = ((M.take k).map rgS).foldl stepJ []) (hs : O2.map rgS = stepJ (O.map rgS) (rgS (M.getD k noRg))) : JnI W1 M AM (k + 1) v wr := by
  refine ⟨hb, O2, ho, hl, hok, ?_⟩
  rw [hs, hm, List.take_succ_eq_append_getElem hk, List.map_append, List.foldl_append, List.getD_eq_getElem?_getD, List.getElem?_eq_getElem hk]
  rfl
theorem own_belowR {w w' : World} {base B : Nat} {e : TypeId} {size : Nat} {v : Value} {n : Nat} {xs : List Value} (h : w.ownsRow base e size v n xs) (hb : Below B w w') (hB : w.heap.size ≤ B) : w'.ownsRow base e size v n xs :=
  rw_same h fun k hk => hb.block k (Nat.lt_of_lt_of_le (h.lt k hk).2 hB)
theorem own_asT {w : World} {base : Nat} {e : TypeId} {size : Nat} {v : Value} {n m : Nat} {xs ys : List Value} (h : w.ownsRow base e size v n xs) (hn : n = m) (hx : xs = ys) : w.ownsRow base e size v m ys := by
  rw [← hn, ← hx]; exact h
theorem stepJ_first {out : List Sn} {y z : Sn} (h : z ∈ stepJ out y) : z.1 = y.1 ∨ ∃ u ∈ out, z.1 = u.1 := by
  rcases List.eq_nil_or_concat out with rfl | ⟨O, x, rfl⟩
  · simp [stepJ] at h; exact .inl (by rw [h])
  · rw [List.concat_eq_append] at *
    unfold stepJ at h
    rw [List.getLast?_concat, List.dropLast_concat] at h
    simp only at h
    split at h
    · rcases List.mem_append.1 h with h | h
      · exact .inr ⟨z, by simp [h], rfl⟩
      · simp at h; exact .inr ⟨x, by simp, by rw [h]⟩
    · rcases List.mem_append.1 h with h | h
      · exact .inr ⟨z, h, rfl⟩
      · simp at h; exact .inl (by rw [h])
theorem foldJ_first : ∀ (l out : List Sn) (z : Sn), z ∈ l.foldl stepJ out → (∃ u ∈ out, z.1 = u.1) ∨ ∃ y ∈ l, z.1 = y.1
  | [], out, z, h => .inl ⟨z, h, rfl⟩
  | y :: l, out, z, h => by
    rcases foldJ_first l _ z h with ⟨u, hu, e⟩ | ⟨u, hu, e⟩
    · rcases stepJ_first hu with e2 | ⟨t, ht, e2⟩
      · exact .inr ⟨y, by simp, e.trans e2⟩
      · exact .inl ⟨t, ht, e.trans e2⟩
    · exact .inr ⟨u, by simp [hu], e⟩
/-- What was put together begins no later than what comes. -/
theorem fold_first {L : List Rg} (hs : (L.map rgS).Pairwise (fun x y => x.1 ≤ y.1)) {k : Nat} (hk : k < L.length) {x : Rg} (hx : rgS x ∈ ((L.take k).map rgS).foldl stepJ []) : keyA (fiR x) ≤ keyA (fiR (L.getD k noRg)) := by
  rcases foldJ_first _ _ _ hx with ⟨u, hu, _⟩ | ⟨u, hu, e⟩
  · cases hu
  · obtain ⟨r, hr, rfl⟩ := List.mem_map.1 hu
    obtain ⟨i, hi, rfl⟩ := List.getElem_of_mem hr
    rw [List.length_take] at hi
    have := List.pairwise_iff_getElem.1 hs i k (by simp; omega) (by simpa using hk) (by omega)
    rw [List.getD_eq_getElem?_getD, List.getElem?_eq_getElem hk]
    simp only [List.getElem_map] at this
    rw [List.getElem_take] at e
    have e2 : keyA (fiR x) = (rgS x).1 := rfl
    rw [e2, e]
    exact this
set_option maxRecDepth 100000 in
set_option maxHeartbeats 4000000 in
theorem joined_any (A : Option Addr) (cap : Nat) (L : List Rg) (w : World) (h : rgAt w A L) (h0 : A = none → L = []) (hok : ∀ r ∈ L, okR r) (hl : L.length ≤ 100000) :
    Calls Tryz.prog 78 #[.slice A L.length cap] w fun e w' => ∃ v R, e = .returned v ∧ rgOwn w' w.heap.size v R ∧ (∀ r ∈ R, okR r) ∧ NormS (R.map rgS) ∧ (∀ n, hasS (R.map rgS) n ↔ hasS (L.map rgS) n) ∧ R.length ≤ L.length ∧ Below w.heap.size w w' := by
  obtain ⟨i0, hi0, hz0, hz1, hz2⟩ := info_parts rg_info
  have hcl := rg_clone A cap L w h h0 (by omega)
  have HOK := Lib.hid hok
  have HL := Lib.hid hl
  clear h h0 hok hl
  go_enter Tryz.func78, Tryz.ntmps78
  go_wp2_with fail
  refine hcl.mono ?_
  rintro e w1 ⟨v1, rfl, ho1, hb1⟩
  have HB1 := Lib.hid hb1
  have HSO := Lib.hid (rg_sortAny L w.heap.size v1 w1 ho1 (by have := HL.out; omega))
  have HO1 := Lib.hid ho1
  clear hcl ho1 hb1
  go_wp2_with fail
  refine HSO.out.mono ?_
  rintro e W1 ⟨rfl, M, hpm, hps, ho2, hg2⟩
  have HB2 : Hid (Below w.heap.size w W1) := Lib.hid (HB1.out.grown hg2 HB1.out.size (fun j hj => (HO1.out.lt j hj).1))
  have hml := hpm.length_eq
  obtain ⟨AM, cM, rfl, haM⟩ := rw_at (d := noRg) rgC_len ho2
  have HAM := Lib.hid haM
  have HMO : Hid (∀ r ∈ M, okR r) := Lib.hid (fun r hr => HOK.out r (hpm.mem_iff.1 hr))
  have HPM := Lib.hid hpm
  have HPS : Hid ((M.map rgS).Pairwise (fun x y => x.1 ≤ y.1)) := Lib.hid (by
    rw [List.pairwise_map]
    refine hps.imp_of_mem ?_
    intro x y hx hy hxy
    exact rgCmp_le (HMO.out x hx) (HMO.out y hy) hxy)
  have HML : Hid (M.length ≤ 100000 ∧ M.length = L.length) := Lib.hid (by have := HL.out; omega)
  have HI : Hid (JnI W1 M AM 0 (.slice none 0 0) W1) := Lib.hid ⟨Below.refl _ _, [], World.ownsRow_nil _ _ _ _, Nat.le_refl _, (by intro r hr; cases hr), rfl⟩
  clear hpm hps ho2 hg2 hml haM HO1 HSO HB1
  go_wp2_with fail
  go_loopw [3, 5, 6, 13] (fun v3 _ _ v13 wr => ∃ k : Nat, k ≤ M.length ∧ v13 = .int .i64 k ∧ JnI W1 M AM k v3 wr) (fun _ _ _ v13 _ => M.length - (intOf v13).toNat)
  case atStart => exact ⟨0, Nat.zero_le _, rfl, HI.out⟩
  case round =>
    obtain ⟨k, hk, rfl, hin⟩ := hrel
    have HIN := Lib.hid hin
    have hlm := HML.out.1
    clear hin HI
    by_cases hlt : k < M.length
    · obtain ⟨gM, off, rfl, hgM, hcc⟩ := (HAM.out.below HIN.out.below) k hlt
      obtain ⟨c0, c1, c2, c3, c4, c5⟩ := rg_cells hcc
      have hd : decide ((k : Int) < (M.length : Int)) = true := by simp; omega
      have HXM := Lib.hid (rw_mem (d := noRg) hlt)
      obtain ⟨r, hr⟩ : ∃ r, M.getD k noRg = r := ⟨_, rfl⟩
      rw [hr] at c0 c1 c2 c3 c4 c5 HXM
      have HR := Lib.hid hr
      obtain ⟨O, hOw, hOk, hOok, hOm⟩ := HIN.out.row
      have HOW := Lib.hid hOw
      have HOO := Lib.hid hOok
      have HOM := Lib.hid hOm
      have HBX := Lib.hid (HIN.out.below.alloc HIN.out.below.size (.cells (rgA r) 43 (0, 0)))
      have HNX := Lib.hid (heap_alloc_new wr (.cells (rgA r) 43 (0, 0)))
      have HOX := Lib.hid (World.ownsRow.alloc hOw (.cells (rgA r) 43 (0, 0)))
      unfold rgA at HBX HNX HOX
      clear hcc hr hOw hOok hOm
      rcases List.eq_nil_or_concat O with rfl | ⟨O', x, rfl⟩
      · obtain ⟨A3, c3', rfl, -⟩ := rw_at (d := noRg) rgC_len HOW.out
        go_upto_region 8 with (fail)
        generalize World.alloc wr _ = W2 at HBX HNX HOX ⊢
        generalize wr.heap.size = nb at HNX ⊢
        go_quiet (fail)
        generalize hW3 : World.drewN W2 nq = W3
        have HB3 : Hid (Below W1.heap.size W1 W3) := Lib.hid (by rw [← hW3]; exact below_dn HBX.out _)
        have HN3 : Hid (W3.heap[nb]? = some (.cells #[.bool r.six, .int .u64 r.hi, .int .u64 r.lo, .bool r.six2, .int .u64 r.hi2, .int .u64 r.lo2] 43 (0, 0))) := Lib.hid (by rw [← hW3]; exact HNX.out)
        have HO3 : Hid (rgOwn W3 W1.heap.size (.slice A3 ([] : List Rg).length c3') []) := Lib.hid (by rw [← hW3]; exact rw_same HOX.out fun _ _ => rfl)
        obtain ⟨⟨n0, n1, n2, n3, n4, n5⟩, -⟩ := res6r HN3.out
        have hw3 := HB3.out.size
        clear hW3 HBX HNX HOX HOW c0 c1 c2 c3 c4 c5
        go_wp2_with (at_builtin; refine wpList_append_own _ rfl (.tmp 45) (.tmp 47) 75 rfl W1.heap.size 43 i0 (.agg #[.bool false, .int .u64 0, .int .u64 0, .bool false, .int .u64 0, .int .u64 0]) 6 48 Tryz.underlying75 hi0 hz0 hz1 hz2 rfl (by decide) _ _ _ rfl (World.ownsRow.alloc HO3.out _) ⟨W3.heap.size, 0, none⟩ 1 1 (rgC r) rfl rfl (cells_newR W3 (rgC r) _) (rgC_one r) (by unfold maxLen; first | omega | (simp; omega) | simp) (by first | omega | (simp; omega) | simp) (by first | omega | (simp; omega) | simp) ?_)
        intro v5 w5 ho5 hg5 _
        have hlt5 := (World.ownsRow.alloc HO3.out (.cells (rgC r).toArray 43 (0, 0))).lt
        have HF5 : Hid (JnI W1 M (some ⟨gM, off, none⟩) (k + 1) v5 w5) := Lib.hid (JnI.step (O := []) (O2 := [r]) hlt ((HB3.out.alloc hw3 _).grown hg5 (HB3.out.alloc hw3 _).size (fun j hj => (hlt5 j hj).1)) ho5 (by simp) (fun y hy => by simp at hy; rw [hy]; exact HMO.out r HXM.out) HOM.out (by rw [HR.out]; rfl))
        clear ho5 hg5 hlt5
        go_wp2_with fail
        go_roundw
        case rel => exact ⟨k + 1, by omega, by simp, HF5.out⟩
        case measure => simp [intOf]; omega
      · rw [List.concat_eq_append] at *
        obtain ⟨q1, q2⟩ := HOX.out
        rcases q2 with ⟨q3, q4⟩ | ⟨g3, cap3, cur3, rfl, hbg3, hg3, hx3⟩
        · simp at q4
        obtain ⟨gx, ox, ex, hgx, hxc⟩ := rw_at' (d := noRg) rgC_len HOX.out O'.length (by simp)
        injection ex with ex
        simp only [Addr.mk.injEq, and_true] at ex
        obtain ⟨rfl, rfl⟩ := ex
        rw [Nat.zero_add, show (O' ++ [x]).getD O'.length noRg = x by simp [List.getD_eq_getElem?_getD]] at hxc
        have HXO := Lib.hid (HOO.out x (by simp))
        obtain ⟨N, hN⟩ : ∃ N, (O' ++ [x]).length = N := ⟨_, rfl⟩
        obtain ⟨p, hp⟩ : ∃ p, O'.length = p := ⟨_, rfl⟩
        have hNp : N = p + 1 := by rw [← hN, ← hp]; simp
        have HNP := Lib.hid hNp
        have HNN := Lib.hid hN
        have HPP := Lib.hid hp
        rw [hN] at HOW HOX HIN hOk ⊢
        rw [hp] at hxc
        have s1 : IntKind.i64.wrap ((N : Int) - 1) = (p : Int) := (IntWalk.i64_in _ (by omega)).trans (by omega)
        have s4 : (p : Int) < (N : Int) := by omega
        obtain ⟨y0, y1, y2, y3, y4, y5⟩ := rg_cells hxc
        clear q1 hx3 hxc hNp hN hp hg3
        go_upto_region 8 with (fail)
        generalize World.alloc wr _ = W2 at HBX HNX HOX hgx y0 y1 y2 y3 y4 y5 ⊢
        generalize wr.heap.size = nb at HNX ⊢
        obtain ⟨⟨n0, n1, n2, n3, n4, n5⟩, -⟩ := res6r HNX.out
        have hnb := lt_of_block HNX.out
        have htc := fun W => touches_any x r W HXO.out.l
        unfold rgA at htc
        obtain ⟨tb, htb⟩ : ∃ tb, tchB x r = tb := ⟨_, rfl⟩
        have HTB := Lib.hid htb
        rw [htb] at htc
        clear c0 c1 c2 c3 c4 c5 htb HOW
        -- REGION8
        go_cut [29] from 20 to 29 (fun v29 wc => v29 = .bool tb ∧ Below W2.heap.size W2 wc)
        case first =>
          refine wp_region_exact 9 (fun f' => ⟨#[.slice (some ⟨gM, off, none⟩) M.length cM, undef, .slice none 0 0, .slice (some ⟨g3, 0, none⟩) N cap3, undef, .pointer (some ⟨nb, 0, none⟩), .int .i64 p, .slice A L.length cap, .slice (some ⟨gM, off, none⟩) M.length cM, .slice (some ⟨gM, off, none⟩) M.length cM, .tuple #[], .slice (some ⟨gM, off, none⟩) M.length cM, .int .i64 M.length, .int .i64 k, .bool true, .pointer (some ⟨gM, off + k * 6, none⟩), .agg #[Value.bool r.six, Value.int IntKind.u64 r.hi, Value.int IntKind.u64 r.lo, Value.bool r.six2, Value.int IntKind.u64 r.hi2, Value.int IntKind.u64 r.lo2], .slice (some ⟨g3, 0, none⟩) N cap3, .int .i64 N, .int .i64 p, f' 0, f' 1, f' 2, f' 3, f' 4, f' 5, f' 6, f' 7, f' 8, u29, u30, u31, u32, u33, u34, u35, u36, u37, u38, u39, u40, u41, u42, u43, u44, u45, u46, u47, u48, u49, undef], []⟩) (fun i => match i with | 0 => .int .i64 p | 1 => .bool true | 2 => .bool true | 3 => .slice (some ⟨g3, 0, none⟩) N cap3 | 4 => .int .i64 p | 5 => .pointer (some ⟨g3, p * 6, none⟩) | 6 => .agg #[.bool x.six, .int .u64 x.hi, .int .u64 x.lo, .bool x.six2, .int .u64 x.hi2, .int .u64 x.lo2] | 7 => .agg #[.bool r.six, .int .u64 r.hi, .int .u64 r.lo, .bool r.six2, .int .u64 r.hi2, .int .u64 r.lo2] | 8 => .bool tb | _ => undef) (fun lb w' => Hid (Below W2.heap.size W2 w')) (fun i => match i with | 0 => u20 | 1 => u21 | 2 => u22 | 3 => u23 | 4 => u24 | 5 => u25 | 6 => u26 | 7 => u27 | 8 => u28 | _ => undef) 10 (show Tryz.prog.follows .mixedOrders = true from by kernel_rfl) (by kernel_rfl) ?_ ?_ (Lib.hid (Below.refl _ _).drew)
          · intro i op hi ho lb f' w' hl hS hd
            have hcase : i = 0 ∨ i = 1 ∨ i = 2 ∨ i = 3 ∨ i = 4 ∨ i = 5 ∨ i = 6 ∨ i = 7 ∨ i = 8 := by omega
            rcases hcase with rfl | rfl | rfl | rfl | rfl | rfl | rfl | rfl | rfl <;> (replace ho := Option.some.inj ho; subst ho)
            · refine OpStep.of rfl ?_
              unfold Oper.wp
              go_simp
              first | exact ⟨by first | (simp [upd]; done) | (simp [upd]; omega), hS⟩ | (simp [upd]; done) | (simp [upd]; omega)
            · have e0 : f' 0 = .int .i64 p := (hd ⟨0, .data⟩ (by simp) rfl).2
              refine OpStep.of rfl ?_
              unfold Oper.wp
              go_simp
              first | exact ⟨by first | (simp [upd, e0]; done) | (simp [upd, e0]; omega), hS⟩ | (simp [upd, e0]; done) | (simp [upd, e0]; omega)
            · have e1 : f' 1 = .bool true := (hd ⟨1, .data⟩ (by simp) rfl).2
              refine OpStep.of rfl ?_
              unfold Oper.wp
              go_simp
              first | exact ⟨by first | (simp [upd, e1]; done) | (simp [upd, e1]; omega), hS⟩ | (simp [upd, e1]; done) | (simp [upd, e1]; omega)
            · refine OpStep.of (by have e2 : f' 2 = .bool true := (hd ⟨2, .guard⟩ (by simp) rfl).2; simp [Region.wanted, yielded, e2]) ?_
              unfold Oper.wp
              go_simp
              first | exact ⟨by first | (simp [upd]; done) | (simp [upd]; omega), hS⟩ | (simp [upd]; done) | (simp [upd]; omega)
            · refine OpStep.of (by have e2 : f' 2 = .bool true := (hd ⟨2, .guard⟩ (by simp) rfl).2; simp [Region.wanted, yielded, e2]) ?_
              unfold Oper.wp
              go_simp
              first | exact ⟨by first | (simp [upd]; done) | (simp [upd]; omega), hS⟩ | (simp [upd]; done) | (simp [upd]; omega)
            · have e3 : f' 3 = .slice (some ⟨g3, 0, none⟩) N cap3 := (hd ⟨3, .data⟩ (by simp) rfl).2
              have e4 : f' 4 = .int .i64 p := (hd ⟨4, .data⟩ (by simp) rfl).2
              refine OpStep.of (by have e2 : f' 2 = .bool true := (hd ⟨2, .guard⟩ (by simp) rfl).2; simp [Region.wanted, yielded, e2]) ?_
              unfold Oper.wp
              go_simp
              first | exact ⟨by first | (simp [upd, e3, e4]; done) | (simp [upd, e3, e4]; omega), hS⟩ | (simp [upd, e3, e4]; done) | (simp [upd, e3, e4]; omega)
            · have e5 : f' 5 = .pointer (some ⟨g3, p * 6, none⟩) := (hd ⟨5, .data⟩ (by simp) rfl).2
              refine OpStep.of (by have e2 : f' 2 = .bool true := (hd ⟨2, .guard⟩ (by simp) rfl).2; simp [Region.wanted, yielded, e2]) ?_
              have e5 : f' 5 = .pointer (some ⟨g3, p * 6, none⟩) := (hd ⟨5, .data⟩ (by simp) rfl).2
              have y0' : w'.cell? ⟨g3, p * 6, none⟩ = some (.bool x.six) := (hS.out.cell (p := ⟨g3, _, none⟩) hgx).trans y0
              have y1' : w'.cell? ⟨g3, p * 6 + 1, none⟩ = some (.int .u64 x.hi) := (hS.out.cell (p := ⟨g3, _, none⟩) hgx).trans y1
              have y2' : w'.cell? ⟨g3, p * 6 + 2, none⟩ = some (.int .u64 x.lo) := (hS.out.cell (p := ⟨g3, _, none⟩) hgx).trans y2
              have y3' : w'.cell? ⟨g3, p * 6 + 3, none⟩ = some (.bool x.six2) := (hS.out.cell (p := ⟨g3, _, none⟩) hgx).trans y3
              have y4' : w'.cell? ⟨g3, p * 6 + 4, none⟩ = some (.int .u64 x.hi2) := (hS.out.cell (p := ⟨g3, _, none⟩) hgx).trans y4
              have y5' : w'.cell? ⟨g3, p * 6 + 5, none⟩ = some (.int .u64 x.lo2) := (hS.out.cell (p := ⟨g3, _, none⟩) hgx).trans y5
              unfold Oper.wp
              go_simp
              first | exact ⟨by simp [upd, e5], hS⟩ | simp [upd, e5]
            · refine OpStep.of (by have e2 : f' 2 = .bool true := (hd ⟨2, .guard⟩ (by simp) rfl).2; simp [Region.wanted, yielded, e2]) ?_
              have n0' : w'.cell? ⟨nb, 0, none⟩ = some (.bool r.six) := (hS.out.cell (p := ⟨nb, _, none⟩) hnb).trans n0
              have n1' : w'.cell? ⟨nb, 1, none⟩ = some (.int .u64 r.hi) := (hS.out.cell (p := ⟨nb, _, none⟩) hnb).trans n1
              have n2' : w'.cell? ⟨nb, 2, none⟩ = some (.int .u64 r.lo) := (hS.out.cell (p := ⟨nb, _, none⟩) hnb).trans n2
              have n3' : w'.cell? ⟨nb, 3, none⟩ = some (.bool r.six2) := (hS.out.cell (p := ⟨nb, _, none⟩) hnb).trans n3
              have n4' : w'.cell? ⟨nb, 4, none⟩ = some (.int .u64 r.hi2) := (hS.out.cell (p := ⟨nb, _, none⟩) hnb).trans n4
              have n5' : w'.cell? ⟨nb, 5, none⟩ = some (.int .u64 r.lo2) := (hS.out.cell (p := ⟨nb, _, none⟩) hnb).trans n5
              unfold Oper.wp
              go_simp
              first | exact ⟨by simp [upd], hS⟩ | simp [upd]
            · have e6 : f' 6 = .agg #[.bool x.six, .int .u64 x.hi, .int .u64 x.lo, .bool x.six2, .int .u64 x.hi2, .int .u64 x.lo2] := (hd ⟨6, .data⟩ (by simp) rfl).2
              have e7 : f' 7 = .agg #[.bool r.six, .int .u64 r.hi, .int .u64 r.lo, .bool r.six2, .int .u64 r.hi2, .int .u64 r.lo2] := (hd ⟨7, .data⟩ (by simp) rfl).2
              refine OpStep.of (by have e2 : f' 2 = .bool true := (hd ⟨2, .guard⟩ (by simp) rfl).2; simp [Region.wanted, yielded, e2]) ?_
              unfold Oper.wp
              go_simp
              refine (htc w').mono ?_
              rintro e w9 ⟨rfl, hb9⟩
              exact ⟨by simp [upd, e6, e7], Lib.hid (hS.out.trans (hb9.mono hS.out.size))⟩
          · intro op ho lb f' w' hd hS
            have e2 : f' 2 = .bool true := (hd 2 (by omega)).2
            have e8 : f' 8 = .bool tb := (hd 8 (by omega)).2
            replace ho := Option.some.inj ho
            subst ho
            refine ⟨rfl, ?_⟩
            unfold Oper.wp
            go_simp
            first | (go_step; go_step; go_meet) | (go_step; go_meet) | go_meet | skip
            exact ⟨rfl, hS.out⟩
        case rest =>
        obtain ⟨rfl, hb9⟩ := hcut
        obtain ⟨W3, rfl⟩ : ∃ W3 : World, W3 = wc := ⟨_, rfl⟩
        have HB3 := Lib.hid (HBX.out.trans (hb9.mono HBX.out.size))
        have HN3 := Lib.hid ((hb9.block _ hnb).trans HNX.out)
        have HO3 := Lib.hid (own_belowR HOX.out hb9 (Nat.le_refl _))
        have hle := fold_first (L := M) HPS.out hlt (by rw [← HOM.out]; exact List.mem_map.2 ⟨x, by simp, rfl⟩)
        rw [HR.out] at hle
        have htI := tchB_iff HXO.out (HMO.out r HXM.out) hle
        rw [HTB.out] at htI
        have HTI := Lib.hid htI
        have z0 := (hb9.cell (p := ⟨g3, p * 6, none⟩) hgx).trans y0
        have z1 := (hb9.cell (p := ⟨g3, p * 6 + 1, none⟩) hgx).trans y1
        have z2 := (hb9.cell (p := ⟨g3, p * 6 + 2, none⟩) hgx).trans y2
        have z3 := (hb9.cell (p := ⟨g3, p * 6 + 3, none⟩) hgx).trans y3
        have z4 := (hb9.cell (p := ⟨g3, p * 6 + 4, none⟩) hgx).trans y4
        have z5 := (hb9.cell (p := ⟨g3, p * 6 + 5, none⟩) hgx).trans y5
        have hg3x : g3 < W3.heap.size := Nat.lt_of_lt_of_le hgx hb9.size
        have hw3 := HB3.out.size
        clear hb9 hle htI y0 y1 y2 y3 y4 y5 n0 n1 n2 n3 n4 n5 HBX HNX HOX htc hgx
        obtain ⟨⟨n0, n1, n2, n3, n4, n5⟩, -⟩ := res6r HN3.out
        cases tb
        · clear z0 z1 z2 z3 z4 z5
          have hN5 : N ≤ 100000 := by omega
          go_wp2_with (at_builtin; refine wpList_append_own _ rfl (.tmp 45) (.tmp 47) 75 rfl W1.heap.size 43 i0 (.agg #[.bool false, .int .u64 0, .int .u64 0, .bool false, .int .u64 0, .int .u64 0]) 6 48 Tryz.underlying75 hi0 hz0 hz1 hz2 rfl (by decide) _ _ _ rfl (World.ownsRow.alloc HO3.out _) ⟨W3.heap.size, 0, none⟩ 1 1 (rgC r) rfl rfl (cells_newR W3 (rgC r) _) (rgC_one r) (by unfold maxLen; first | omega | (simp; omega) | simp) (by first | omega | (simp; omega) | simp) (by first | omega | (simp; omega) | simp) ?_)
          intro v5 w5 ho5 hg5 _
          have hlt5 := (World.ownsRow.alloc HO3.out (.cells (rgC r).toArray 43 (0, 0))).lt
          have HF5 : Hid (JnI W1 M (some ⟨gM, off, none⟩) (k + 1) v5 w5) := Lib.hid (JnI.step (O := O' ++ [x]) (O2 := O' ++ [x] ++ [r]) hlt ((HB3.out.alloc hw3 _).grown hg5 (HB3.out.alloc hw3 _).size (fun j hj => (hlt5 j hj).1)) (own_asT ho5 (by simp [HNN.out.symm]) (by simp [rwC])) (by have := HNN.out; simp at this ⊢; omega) (fun y hy => (List.mem_append.1 hy).elim (HOO.out y) (fun hy => by simp at hy; rw [hy]; exact HMO.out r HXM.out)) HOM.out (by
            rw [HR.out, List.map_append, List.map_append]
            unfold stepJ
            rw [List.map_cons, List.map_nil, List.getLast?_concat]
            have : ¬ (rgS r).1 ≤ (rgS x).2 := fun h => by have := HTI.out.2 h; cases this
            simp only
            rw [if_neg this]
            rfl))
          clear ho5 hg5 hlt5
          go_wp2_with fail
          go_roundw
          case rel => exact ⟨k + 1, by omega, by simp, HF5.out⟩
          case measure => simp [intOf]; omega
        · go_upto_region 9 with (fail)
          have hcm := fun W => spanCompare_any x.six2 x.hi2 x.lo2 r.six2 r.hi2 r.lo2 W
          have hkc := spanC_key HXO.out.l (HMO.out r HXM.out).l
          obtain ⟨c, hc⟩ : ∃ c, spanC x.six2 x.hi2 x.lo2 r.six2 r.hi2 r.lo2 = c := ⟨_, rfl⟩
          have hkc1 : c < 0 ↔ keyA (laR x) < keyA (laR r) := by rw [← hc]; exact hkc.1
          have HKC := Lib.hid hkc1
          rw [hc] at hcm
          obtain ⟨cb, hcb⟩ : ∃ cb, decide (c < 0) = cb := ⟨_, rfl⟩
          have HCB := Lib.hid hcb
          have hnb3 := lt_of_block HN3.out
          clear hkc hkc1 hc
          go_cut [38] from 30 to 38 (fun v38 wc => v38 = .bool cb ∧ Below W3.heap.size W3 wc)
          case first =>
            refine wp_region_exact 8 (fun f' => ⟨#[.slice (some ⟨gM, off, none⟩) M.length cM, undef, .slice none 0 0, .slice (some ⟨g3, 0, none⟩) N cap3, undef, .pointer (some ⟨nb, 0, none⟩), .int .i64 p, .slice A L.length cap, .slice (some ⟨gM, off, none⟩) M.length cM, .slice (some ⟨gM, off, none⟩) M.length cM, .tuple #[], .slice (some ⟨gM, off, none⟩) M.length cM, .int .i64 M.length, .int .i64 k, .bool true, .pointer (some ⟨gM, off + k * 6, none⟩), .agg #[Value.bool r.six, Value.int IntKind.u64 r.hi, Value.int IntKind.u64 r.lo, Value.bool r.six2, Value.int IntKind.u64 r.hi2, Value.int IntKind.u64 r.lo2], .slice (some ⟨g3, 0, none⟩) N cap3, .int .i64 N, .int .i64 p, u20, u21, u22, u23, u24, u25, u26, u27, u28, .bool true, f' 0, f' 1, f' 2, f' 3, f' 4, f' 5, f' 6, f' 7, u38, u39, u40, u41, u42, u43, u44, u45, u46, u47, u48, u49, undef], []⟩) (fun i => match i with | 0 => .slice (some ⟨g3, 0, none⟩) N cap3 | 1 => .int .i64 p | 2 => .pointer (some ⟨g3, p * 6, none⟩) | 3 => .pointer (some ⟨g3, p * 6 + 3, none⟩) | 4 => .agg #[.bool x.six2, .int .u64 x.hi2, .int .u64 x.lo2] | 5 => .pointer (some ⟨nb, 3, none⟩) | 6 => .agg #[.bool r.six2, .int .u64 r.hi2, .int .u64 r.lo2] | 7 => .int .i64 c | _ => undef) (fun lb w' => Hid (Below W3.heap.size W3 w')) (fun i => match i with | 0 => u30 | 1 => u31 | 2 => u32 | 3 => u33 | 4 => u34 | 5 => u35 | 6 => u36 | 7 => u37 | _ => undef) 10 (show Tryz.prog.follows .mixedOrders = true from by kernel_rfl) (by kernel_rfl) ?_ ?_ (Lib.hid (Below.refl _ _).drew)
            · intro i op hi ho lb f' w' hl hS hd
              have hcase : i = 0 ∨ i = 1 ∨ i = 2 ∨ i = 3 ∨ i = 4 ∨ i = 5 ∨ i = 6 ∨ i = 7 := by omega
              rcases hcase with rfl | rfl | rfl | rfl | rfl | rfl | rfl | rfl <;> (replace ho := Option.some.inj ho; subst ho)
              · refine OpStep.of rfl ?_
                unfold Oper.wp
                go_simp
                first | exact ⟨by first | (simp [upd]; done) | (simp [upd]; omega), hS⟩ | (simp [upd]; done) | (simp [upd]; omega)
              · refine OpStep.of rfl ?_
                unfold Oper.wp
                go_simp
                first | exact ⟨by first | (simp [upd]; done) | (simp [upd]; omega), hS⟩ | (simp [upd]; done) | (simp [upd]; omega)
              · have e0 : f' 0 = .slice (some ⟨g3, 0, none⟩) N cap3 := (hd ⟨0, .data⟩ (by simp) rfl).2
                have e1 : f' 1 = .int .i64 p := (hd ⟨1, .data⟩ (by simp) rfl).2
                refine OpStep.of rfl ?_
                unfold Oper.wp
                go_simp
                first | exact ⟨by first | (simp [upd, e0, e1]; done) | (simp [upd, e0, e1]; omega), hS⟩ | (simp [upd, e0, e1]; done) | (simp [upd, e0, e1]; omega)
              · have e2 : f' 2 = .pointer (some ⟨g3, p * 6, none⟩) := (hd ⟨2, .data⟩ (by simp) rfl).2
                refine OpStep.of rfl ?_
                unfold Oper.wp
                go_simp
                first | exact ⟨by first | (simp [upd, e2]; done) | (simp [upd, e2]; omega), hS⟩ | (simp [upd, e2]; done) | (simp [upd, e2]; omega)
              · have e3 : f' 3 = .pointer (some ⟨g3, p * 6 + 3, none⟩) := (hd ⟨3, .data⟩ (by simp) rfl).2
                refine OpStep.of rfl ?_
                have e3 : f' 3 = .pointer (some ⟨g3, p * 6 + 3, none⟩) := (hd ⟨3, .data⟩ (by simp) rfl).2
                have z3' : w'.cell? ⟨g3, p * 6 + 3, none⟩ = some (.bool x.six2) := (hS.out.cell (p := ⟨g3, _, none⟩) hg3x).trans z3
                have z4' : w'.cell? ⟨g3, p * 6 + 4, none⟩ = some (.int .u64 x.hi2) := (hS.out.cell (p := ⟨g3, _, none⟩) hg3x).trans z4
                have z5' : w'.cell? ⟨g3, p * 6 + 5, none⟩ = some (.int .u64 x.lo2) := (hS.out.cell (p := ⟨g3, _, none⟩) hg3x).trans z5
                unfold Oper.wp
                go_simp
                first | exact ⟨by simp [upd, e3], hS⟩ | simp [upd, e3]
              · refine OpStep.of rfl ?_
                unfold Oper.wp
                go_simp
                first | exact ⟨by first | (simp [upd]; done) | (simp [upd]; omega), hS⟩ | (simp [upd]; done) | (simp [upd]; omega)
              · have e5 : f' 5 = .pointer (some ⟨nb, 3, none⟩) := (hd ⟨5, .data⟩ (by simp) rfl).2
                refine OpStep.of rfl ?_
                have e5 : f' 5 = .pointer (some ⟨nb, 3, none⟩) := (hd ⟨5, .data⟩ (by simp) rfl).2
                have n3' : w'.cell? ⟨nb, 3, none⟩ = some (.bool r.six2) := (hS.out.cell (p := ⟨nb, _, none⟩) hnb3).trans n3
                have n4' : w'.cell? ⟨nb, 4, none⟩ = some (.int .u64 r.hi2) := (hS.out.cell (p := ⟨nb, _, none⟩) hnb3).trans n4
                have n5' : w'.cell? ⟨nb, 5, none⟩ = some (.int .u64 r.lo2) := (hS.out.cell (p := ⟨nb, _, none⟩) hnb3).trans n5
                unfold Oper.wp
                go_simp
                first | exact ⟨by simp [upd, e5], hS⟩ | simp [upd, e5]
              · have e4 : f' 4 = .agg #[.bool x.six2, .int .u64 x.hi2, .int .u64 x.lo2] := (hd ⟨4, .data⟩ (by simp) rfl).2
                have e6 : f' 6 = .agg #[.bool r.six2, .int .u64 r.hi2, .int .u64 r.lo2] := (hd ⟨6, .data⟩ (by simp) rfl).2
                refine OpStep.of rfl ?_
                unfold Oper.wp
                go_simp
                refine (hcm w').mono ?_
                rintro e w9 ⟨rfl, hb9⟩
                exact ⟨by simp [upd, e4, e6], Lib.hid (hS.out.trans (hb9.mono hS.out.size))⟩
            · intro op ho lb f' w' hd hS
              have e7 : f' 7 = .int .i64 c := (hd 7 (by omega)).2
              replace ho := Option.some.inj ho
              subst ho
              refine ⟨rfl, ?_⟩
              unfold Oper.wp
              go_simp
              first | (go_step; go_step; go_meet) | (go_step; go_meet) | go_meet | skip
              exact ⟨rfl, hS.out⟩
          case rest =>
          obtain ⟨rfl, hb9⟩ := hcut
          obtain ⟨W4, rfl⟩ : ∃ W4 : World, W4 = wc := ⟨_, rfl⟩
          have HB4 := Lib.hid (HB3.out.trans (hb9.mono HB3.out.size))
          have HN4 := Lib.hid ((hb9.block _ hnb3).trans HN3.out)
          have HO4 := Lib.hid (own_belowR HO3.out hb9 (Nat.le_refl _))
          have hs6 : r.six2 = x.six2 := by
            have h1 : x.six = r.six := by have := HTB.out; unfold tchB at this; simp only [Bool.and_eq_true, beq_iff_eq] at this; exact this.1
            rw [(HMO.out r HXM.out).six, ← h1, HXO.out.six]
          have HS6 := Lib.hid hs6
          clear hb9 hs6 n0 n1 n2 n3 n4 n5 z0 z1 z2 z3 z4 z5 HN3 HO3 HB3 hcm hcb hg3x hnb3 hw3
          cases cb
          · have hnc : ¬ keyA (laR x) < keyA (laR r) := fun h => of_decide_eq_false HCB.out (HKC.out.2 h)
            have HF5 : Hid (JnI W1 M (some ⟨gM, off, none⟩) (k + 1) (.slice (some ⟨g3, 0, none⟩) N cap3) W4) := Lib.hid (JnI.step (O := O' ++ [x]) (O2 := O' ++ [x]) hlt HB4.out (own_asT HO4.out HNN.out.symm rfl) (by have := HNN.out; omega) HOO.out HOM.out (by
              rw [HR.out, List.map_append]
              unfold stepJ
              rw [List.map_cons, List.map_nil, List.getLast?_concat, List.dropLast_concat]
              simp only
              rw [if_pos (HTI.out.1 rfl)]
              have : max (rgS x).2 (rgS r).2 = (rgS x).2 := by show max (keyA (laR x) + 1) (keyA (laR r) + 1) = keyA (laR x) + 1; omega
              rw [this]))
            clear hnc
            go_wp2_with fail
            go_roundw
            case rel => exact ⟨k + 1, by omega, by simp, HF5.out⟩
            case measure => simp [intOf]; omega
          · have hyc : keyA (laR x) < keyA (laR r) := HKC.out.1 (of_decide_eq_true HCB.out)
            have HYC := Lib.hid hyc
            obtain ⟨⟨n0, n1, n2, n3, n4, n5⟩, -⟩ := res6r HN4.out
            have hst0 := fun j (hj : j < N * 6) => rw_some HO4.out hj
            have hfz0 := fun j => rw_froz HO4.out j
            have HST : Hid ((W4.cell? ⟨g3, p * 6 + 3, none⟩).isSome = true ∧ (W4.cell? ⟨g3, p * 6 + 4, none⟩).isSome = true ∧ (W4.cell? ⟨g3, p * 6 + 5, none⟩).isSome = true) := Lib.hid ⟨hst0 _ (by have := HNP.out; omega), hst0 _ (by have := HNP.out; omega), hst0 _ (by have := HNP.out; omega)⟩
            obtain ⟨m3, hm3⟩ := Option.isSome_iff_exists.1 HST.out.1
            obtain ⟨m4, hm4⟩ := Option.isSome_iff_exists.1 HST.out.2.1
            obtain ⟨m5, hm5⟩ := Option.isSome_iff_exists.1 HST.out.2.2
            have f3 := hfz0 (p * 6 + 3)
            have f4 := hfz0 (p * 6 + 4)
            have f5 := hfz0 (p * 6 + 5)
            clear hst0 hfz0 hyc
            go_wp2_with fail
            refine ⟨⟨k + 1, by omega, by simp, ?_⟩, by simp [intOf]; omega⟩
            have hW : (((W4.setCell ⟨g3, p * 6 + 3, none⟩ (.bool r.six2)).setCell ⟨g3, p * 6 + 3 + 1, none⟩ (.int .u64 r.hi2)).setCell ⟨g3, p * 6 + 3 + 2, none⟩ (.int .u64 r.lo2)) = W4.setCells g3 (p * 6 + 3) [.bool r.six2, .int .u64 r.hi2, .int .u64 r.lo2] := rfl
            rw [hW]
            have ho := rw_setCells [.bool r.six2, .int .u64 r.hi2, .int .u64 r.lo2] (p * 6 + 3) W4 _ HO4.out
            have hg := rw_gsets (w := W4) (g := g3) [.bool r.six2, .int .u64 r.hi2, .int .u64 r.lo2] (p * 6 + 3) W4 (World.grownBy.refl W4 _)
            have he : rwSets (rwC rgC (O' ++ [x])) (p * 6 + 3) [.bool r.six2, .int .u64 r.hi2, .int .u64 r.lo2] = rwC rgC (O' ++ [(⟨x.six, x.hi, x.lo, r.six2, r.hi2, r.lo2⟩ : Rg)]) := by
              have ha : (rwC rgC O').length = p * 6 := by rw [rwC_length rgC_len, HPP.out]
              have h1 : rwC rgC (O' ++ [x]) = rwC rgC O' ++ rgC x := by simp [rwC]
              have h2 : rwC rgC (O' ++ [(⟨x.six, x.hi, x.lo, r.six2, r.hi2, r.lo2⟩ : Rg)]) = rwC rgC O' ++ rgC ⟨x.six, x.hi, x.lo, r.six2, r.hi2, r.lo2⟩ := by simp [rwC]
              rw [h1, h2, rwSets_shift _ ha]
              rfl
            rw [he] at ho
            have hle2 := HXO.out.le
            exact JnI.step (O := O' ++ [x]) (O2 := O' ++ [(⟨x.six, x.hi, x.lo, r.six2, r.hi2, r.lo2⟩ : Rg)]) hlt (HB4.out.grown hg HB4.out.size (fun j hj => by injection hj with hj; rw [← hj]; exact hbg3)) (own_asT ho (by rw [← HNN.out]; simp) rfl) (by have := HNN.out; simp at this ⊢; omega) (fun y hy => (List.mem_append.1 hy).elim (fun hy => HOO.out y (by simp [hy])) (fun hy => by
              simp at hy
              rw [hy]
              exact ⟨HXO.out.f, (HMO.out r HXM.out).l, HS6.out.trans HXO.out.six, Nat.le_of_lt (Nat.lt_of_le_of_lt hle2 HYC.out)⟩)) HOM.out (by
              rw [HR.out, List.map_append, List.map_append]
              unfold stepJ
              simp only [List.map_cons, List.map_nil]
              rw [List.getLast?_concat, List.dropLast_concat]
              simp only
              rw [if_pos (HTI.out.1 rfl)]
              have : max (rgS x).2 (rgS r).2 = (rgS r).2 := by have := HYC.out; show max (keyA (laR x) + 1) (keyA (laR r) + 1) = keyA (laR r) + 1; omega
              rw [this]
              rfl)
        -- END8
    · have hkl : k = M.length := by omega
      subst hkl
      obtain ⟨O, hOw, hOk, hOok, hOm⟩ := HIN.out.row
      rw [List.take_length] at hOm
      obtain ⟨j1, j2⟩ := joinS_law (okR_okS HMO.out) HPS.out
      have HF : Hid (NormS (O.map rgS) ∧ ∀ n, hasS (O.map rgS) n ↔ hasS (L.map rgS) n) := Lib.hid (by
        rw [hOm]
        exact ⟨j1, fun n => (j2 n).trans (hasS_perm (HPM.out.map rgS) n)⟩)
      have HOW := Lib.hid hOw
      have HOO := Lib.hid hOok
      have hle := HML.out.2
      have HLE : Hid (O.length ≤ L.length) := Lib.hid (by omega)
      clear hOw hOok hOm j1 j2 hle hOk
      go_wp2_with fail
      go_ret
      refine ⟨_, O, rfl, ?_, HOO.out, HF.out.1, HF.out.2, HLE.out, HB2.out.trans (HIN.out.below.mono HB2.out.size)⟩
      obtain ⟨q1, q2⟩ := HOW.out
      refine ⟨q1, ?_⟩
      have hsz := HB2.out.size
      rcases q2 with h | ⟨g, cap, cur, e1, e2, e3⟩
      · exact .inl h
      · exact .inr ⟨g, cap, cur, e1, Nat.le_trans hsz e2, e3⟩
end Go.Proofs.YtajifionclpphaaGreatDoor

namespace Go.Proofs.YtajifionclpphaaGreatDoor
open Go.RowKit Go.Hw

def pxC (e : Pf) : List Value := [.bool e.six, .int .u64 e.hi, .int .u64 e.lo, .int .i64 e.bits]
theorem pxC_len (e : Pf) : (pxC e).length = 4 := rfl
abbrev pxAt (w : World) (A : Option Addr) (L : List Pf) : Prop := RwAt pxC 4 noPf w A L
abbrev pxOwn (w : World) (base : Nat) (v : Value) (L : List Pf) : Prop := w.ownsRow base 48 4 v L.length (rwC pxC L)
theorem px_cells {w : World} {g o : Nat} {e : Pf} (h : RwCells w g o (pxC e)) : w.cell? ⟨g, o, none⟩ = some (.bool e.six) ∧ w.cell? ⟨g, o + 1, none⟩ = some (.int .u64 e.hi) ∧ w.cell? ⟨g, o + 2, none⟩ = some (.int .u64 e.lo) ∧ w.cell? ⟨g, o + 3, none⟩ = some (.int .i64 e.bits) := ⟨h 0 _ rfl, h 1 _ rfl, h 2 _ rfl, h 3 _ rfl⟩

/-- What is asked of a closure over these structs. -/
def pxPred (g : Nat) (lb : Array Value) (p : Pf → Bool) (L : List Pf) (w : World) : Prop :=
  ∀ (W : World) (e : Pf), e ∈ L → Below w.heap.size w W → Calls Tryz.prog g (#[.agg #[.bool e.six, .int .u64 e.hi, .int .u64 e.lo, .int .i64 e.bits]] ++ lb) W fun en w' => en = .returned (.bool (p e)) ∧ Below W.heap.size W w'

theorem px_info : (Tryz.prog.info? 48).map (fun i => (i.zero, i.size, i.bytes)) = some (some (.agg #[.bool false, .int .u64 0, .int .u64 0, .int .i64 0]), 4, 32) := by kernel_rfl
theorem pxC_one (e : Pf) : ∀ u ∈ pxC e, u.oneCell' = true := by
  intro u hu
  simp only [pxC, List.mem_cons, List.not_mem_nil, or_false] at hu
  rcases hu with rfl | rfl | rfl | rfl <;> rfl
theorem pxs_one (L : List Pf) : ∀ u ∈ rwC pxC L, u.oneCell' = true := by
  intro u hu
  obtain ⟨x, _, hx⟩ := List.mem_flatMap.1 hu
  exact pxC_one x u hx
/-- Cells of a row, one after the other. -/
theorem px_flat {w : World} {b off : Nat} {L : List Pf} (h : pxAt w (some ⟨b, off, none⟩) L) (j : Nat) (u : Value) (hu : (rwC pxC L)[j]? = some u) : w.cell? ⟨b, off + j, none⟩ = some u := by
  have hj := (List.getElem?_eq_some_iff.1 hu).1
  rw [rwC_length pxC_len] at hj
  have hi : j / 4 < L.length := by omega
  obtain ⟨g, off', e, _, hc⟩ := h (j / 4) hi
  injection e with e
  simp only [Addr.mk.injEq, and_true] at e
  obtain ⟨rfl, rfl⟩ := e
  have hm : j = j / 4 * 4 + j % 4 := by omega
  rw [hm, rwC_at (d := noPf) pxC_len L _ _ hi (by omega)] at hu
  have := hc (j % 4) u hu
  rwa [Nat.add_assoc, ← hm] at this

theorem px_eqrun (d : Nat) (r : Pf) (w : World) : (Op.equalIn (d + 3) 48 (.agg #[.bool r.six, .int .u64 r.hi, .int .u64 r.lo, .int .i64 r.bits]) (.agg #[.bool r.six, .int .u64 r.hi, .int .u64 r.lo, .int .i64 r.bits])).run Tryz.prog w = .ok true w := by
  rw [run_eq_pf]
  simp
theorem px_guard : Tryz.prog.eqGuardType Tryz.prog.depth 48 = false := guard_pf
set_option maxRecDepth 100000 in
set_option maxHeartbeats 1000000 in
theorem px_equal (A B : Option Addr) (ca cb : Nat) (L : List Pf) (w : World) (hA : pxAt w A L) (hB : pxAt w B L) (hl : L.length ≤ 1000000) :
    Calls Tryz.prog 17 #[.slice A L.length ca, .slice B L.length cb] w fun e w' => e = .returned (.bool true) ∧ Below w.heap.size w w' := by
  go_enter Tryz.func17, Tryz.ntmps17
  go_wp2_with fail
  go_loopw [13] (fun v wr => ∃ k : Nat, k ≤ L.length ∧ v = .int .i64 k ∧ Below w.heap.size w wr) (fun v _ => L.length - (intOf v).toNat)
  case atStart => exact ⟨0, Nat.zero_le _, rfl, Below.refl _ _⟩
  case round =>
    obtain ⟨k, hk, rfl, hb⟩ := hrel
    by_cases hlt : k < L.length
    · obtain ⟨g, off, rfl, hgB, hcc⟩ := (hA.below hb) k hlt
      obtain ⟨g2, off2, rfl, hgB2, hcc2⟩ := (hB.below hb) k hlt
      obtain ⟨c0, c1, c2, c3⟩ := px_cells hcc
      obtain ⟨d0, d1, d2, d3⟩ := px_cells hcc2
      generalize L.getD k noPf = x at *
      have hgd := px_guard
      have hrq := fun W => px_eqrun 9997 x W
      have HB := Lib.hid hb
      have hd : decide ((k : Int) < (L.length : Int)) = true := by simp; omega
      clear hcc hcc2 hb hA hB
      go_wp2_with fail
      go_quiet (fail)
      go_wp2_with fail
      go_roundw
      case rel => exact ⟨k + 1, by omega, by go_num, ⟨HB.out.os, HB.out.tape, HB.out.output, HB.out.size, HB.out.block⟩⟩
      case measure => simp [intOf]; omega
    · have : k = L.length := by omega
      subst this
      go_wp2_with fail
      go_ret
      exact ⟨rfl, hb⟩

end Go.Proofs.YtajifionclpphaaGreatDoor
