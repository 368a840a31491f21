/- addr.Squeeze and edges at right tables. -/
import Derived.Test.YtpbcbgoenoolfaaGreatDoorTbL
import Derived.Test.YtpbcbgoenoolfaaGreatDoorAdR
namespace Go.Proofs.YtpbcbgoenoolfaaGreatDoor
open Go.RowKit Go.Hw
/-- Does an entry lie right above another one? -/
def upE (x y : En) : Bool := decide (y.bits < x.bits) && hasE x.six x.hi x.lo y
def keptE (L : List En) (x : En) : Bool := !((toE (bestE (upE x) L)).toList == x.tgt.toList)
def squE (L : List En) : List En := L.filter (keptE L)
theorem squE_take {L : List En} {k : Nat} (hk : k < L.length) : (L.take (k + 1)).filter (keptE L) = (L.take k).filter (keptE L) ++ (if keptE L (L.getD k noEn) then [L.getD k noEn] else []) := by
  rw [List.take_succ_eq_append_getElem hk, List.filter_append, List.getD_eq_getElem?_getD, List.getElem?_eq_getElem hk]
  congr 1
  simp [List.filter]
  split <;> simp_all
theorem own_asT {w : World} {base : Nat} {e : TypeId} {size : Nat} {v : Value} {n m : Nat} {xs ys : List Value} (h : w.ownsRow base e size v n xs) (hn : n = m) (hx : xs = ys) : w.ownsRow base e size v m ys := by
  subst hn hx
  exact h
theorem own_belowT {w w' : World} {base B : Nat} {e : TypeId} {size : Nat} {v : Value} {n : Nat} {xs : List Value} (h : w.ownsRow base e size v n xs) (hb : Below B w w') (hB : w.heap.size ≤ B) : w'.ownsRow base e size v n xs :=
  rw_same h fun k hk => hb.block k (Nat.lt_of_lt_of_le (h.lt k hk).2 hB)
/-- The rows of a round: what is kept so far. -/
def SqI (w : World) (L : List En) (k : Nat) (v : Value) (wr : World) : Prop := ∃ sv, sv = v ∧ enOwn wr w.heap.size sv ((L.take k).filter (keptE L)) ∧ Below w.heap.size w wr
set_option maxRecDepth 100000 in
set_option maxHeartbeats 2000000 in
theorem squeeze_right (A : Option Addr) (cap : Nat) (L : List En) (w : World) (hL : enAt w A L) (ht : TblOk L) :
    Calls Tryz.prog 6 #[.slice A L.length cap] w fun e w' => ∃ v, e = .returned (.tuple #[v, .int .i64 0]) ∧ enOwn w' w.heap.size v (squE L) ∧ Below w.heap.size w w' := by
  obtain ⟨i0, hi0, hz0, hz1, hz2⟩ := info_parts en_info
  have hck := checkTable_right A cap L w hL ht
  have HT := Lib.hid ht
  have hlen := ht.len
  have HLW := Lib.hid hL
  clear ht hL
  go_enter Tryz.func6, Tryz.ntmps6
  go_wp2_with fail
  refine hck.mono ?_
  rintro e w1 ⟨rfl, hb1⟩
  have HN : Hid (SqI w L 0 (.slice none 0 0) w1) := Lib.hid ⟨_, rfl, World.ownsRow_nil _ _ _ _, hb1⟩
  clear hck hb1
  go_wp2_with fail
  go_loopw [5, 7, 8, 9, 11, 19] (fun v5 _ _ _ _ v19 wr => ∃ k : Nat, k ≤ L.length ∧ v19 = .int .i64 k ∧ SqI w L k v5 wr) (fun _ _ _ _ _ v19 _ => L.length - (intOf v19).toNat)
  case atStart => exact ⟨0, Nat.zero_le _, rfl, HN.out⟩
  case round =>
    obtain ⟨k, hk, rfl, sv, rfl, hO, hb⟩ := hrel
    by_cases hlt : k < L.length
    · obtain ⟨g5, off, hA, hgB, hcc⟩ := (HLW.out.below hb) k hlt
      obtain ⟨c0, c1, c2, c3, c4⟩ := en_cells hcc
      have hd : decide ((k : Int) < (L.length : Int)) = true := by simp; omega
      have HTK := Lib.hid (squE_take hlt)
      have HXM := Lib.hid (rw_mem (d := noEn) hlt)
      subst hA
      generalize hx : L.getD k noEn = x at *
      have HRX := Lib.hid (HT.out.right x HXM.out)
      have HO := Lib.hid hO
      have HBk := Lib.hid hb
      have HBB := Lib.hid (hb.alloc hb.size (.cells #[.bool x.six, .int .u64 x.hi, .int .u64 x.lo, .int .i64 x.bits, .string x.tgt] 43 (0, 0)))
      have HNE := Lib.hid (heap_alloc_new wr (.cells #[.bool x.six, .int .u64 x.hi, .int .u64 x.lo, .int .i64 x.bits, .string x.tgt] 43 (0, 0)))
      have HAB : Hid (Below wr.heap.size wr (wr.alloc (.cells #[.bool x.six, .int .u64 x.hi, .int .u64 x.lo, .int .i64 x.bits, .string x.tgt] 43 (0, 0)))) := Lib.hid ((Below.refl _ _).alloc (Nat.le_refl _) _)
      obtain ⟨wo, rfl⟩ : ∃ W : World, W = wr := ⟨_, rfl⟩
      clear hcc hO hb hx
      go_upto_region 9 with (fail)
      generalize World.alloc wo _ = W2 at HBB HNE HAB ⊢
      clear c0 c1 c2 c3 c4
      go_wp2_with fail
      go_loopw [8, 9, 11, 25] (fun v8 v9 _ v25 wq => ∃ j : Nat, j ≤ L.length ∧ v25 = .int .i64 j ∧ v8 = .string (toE (bestE (upE x) (L.take j))) ∧ v9 = .int .i64 (mostF En.bits (bestE (upE x) (L.take j))) ∧ Below wo.heap.size wo wq ∧ wq.heap[wo.heap.size]? = some (.cells #[.bool x.six, .int .u64 x.hi, .int .u64 x.lo, .int .i64 x.bits, .string x.tgt] 43 (0, 0))) (fun _ _ _ v25 _ => L.length - (intOf v25).toNat)
      case atStart => exact ⟨0, Nat.zero_le _, rfl, rfl, rfl, HAB.out, HNE.out⟩
      case round =>
        obtain ⟨j, hj, rfl, rfl, rfl, hb2, hx2⟩ := hrel
        have HX2 := Lib.hid hx2
        have HB2 := Lib.hid hb2
        obtain ⟨⟨x0, x1, x2, x3, x4⟩, -⟩ := res5 hx2
        have hxl := lt_of_block hx2
        clear hx2 hb2
        by_cases hlt2 : j < L.length
        · obtain ⟨g6, off6, e6, hg6, hcc⟩ := (HLW.out.below (HBk.out.trans (HB2.out.mono HBk.out.size))) j hlt2
          injection e6 with e6
          simp only [Addr.mk.injEq, and_true] at e6
          obtain ⟨rfl, rfl⟩ := e6
          obtain ⟨c0, c1, c2, c3, c4⟩ := en_cells hcc
          have hrx := HT.out.right (L.getD j noEn) (rw_mem hlt2)
          have HST := Lib.hid (bestE_step (P := upE x) hlt2)
          have HUP : Hid (upE x (L.getD j noEn) = (decide ((L.getD j noEn).bits < x.bits) && contP (L.getD j noEn).six (L.getD j noEn).hi (L.getD j noEn).lo (L.getD j noEn).bits x.six x.hi x.lo)) := Lib.hid rfl
          have hin := fun W' => inside_any x.six x.hi x.lo x.bits (L.getD j noEn).six (L.getD j noEn).hi (L.getD j noEn).lo (L.getD j noEn).bits W' HRX.out.1.1 HRX.out.1.2.1 hrx
          generalize L.getD j noEn = y at *
          generalize contP y.six y.hi y.lo y.bits x.six x.hi x.lo = q at *
          generalize bestE (upE x) (L.take j) = acc at *
          have hd2 : decide ((j : Int) < (L.length : Int)) = true := by simp; omega
          have HYB := Lib.hid (HB2.out.alloc HB2.out.size (.cells #[.bool y.six, .int .u64 y.hi, .int .u64 y.lo, .int .i64 y.bits, .string y.tgt] 43 (0, 0)))
          have HYX := Lib.hid (oldT (a := .cells #[.bool y.six, .int .u64 y.hi, .int .u64 y.lo, .int .i64 y.bits, .string y.tgt] 43 (0, 0)) HX2.out)
          have HYN := Lib.hid (heap_alloc_new wr (.cells #[.bool y.six, .int .u64 y.hi, .int .u64 y.lo, .int .i64 y.bits, .string y.tgt] 43 (0, 0)))
          clear hcc hrx x0 x1 x2 x3 x4
          go_upto_region 12 with (fail)
          generalize World.alloc wr _ = W3 at HYB HYX HYN ⊢
          generalize wr.heap.size = nb at *
          obtain ⟨⟨d0, d1, d2, d3, d4⟩, -⟩ := res5 HYN.out
          obtain ⟨⟨x0, x1, x2, x3, x4⟩, -⟩ := res5 HYX.out
          clear c0 c1 c2 c3 c4
          by_cases h1 : y.bits < x.bits
          · have e1 : decide (y.bits < x.bits) = true := decide_eq_true h1
            have e3 : decide (y.bits ≤ x.bits) = true := decide_eq_true (by omega)
            rw [e1, Bool.true_and] at HUP
            by_cases h2 : mostF En.bits acc < y.bits
            · have e2 : decide (mostF En.bits acc < y.bits) = true := decide_eq_true h2
              rw [HUP.out, e2, Bool.and_true] at HST
              rw [e3, Bool.true_and] at hin
              clear h1 h2
              go_wp2_with fail
              refine (hin W3).mono ?_
              rintro e w4 ⟨rfl, hb4⟩
              have HB4 := Lib.hid (HYB.out.trans (hb4.mono HYB.out.size))
              have HX4 := Lib.hid ((hb4.block _ (lt_of_block HYX.out)).trans HYX.out)
              have HN4 := Lib.hid ((hb4.block _ (lt_of_block HYN.out)).trans HYN.out)
              clear hb4 d0 d1 d2 d3 d4 x0 x1 x2 x3 x4 hin
              cases q
              · rw [if_neg (by decide)] at HST
                go_wp2_with fail
                go_roundw
                case rel => exact ⟨j + 1, by omega, by go_num, by rw [HST.out], by rw [HST.out], HB4.out, HX4.out⟩
                case measure => simp [intOf]; omega
              · rw [if_pos rfl] at HST
                obtain ⟨⟨d0, d1, d2, d3, d4⟩, -⟩ := res5 HN4.out
                go_wp2_with fail
                go_quiet (fail)
                go_wp2_with fail
                go_roundw
                case rel => exact ⟨j + 1, by omega, by go_num, by rw [HST.out]; rfl, by rw [HST.out]; rfl, below_dn HB4.out _, HX4.out⟩
                case measure => simp [intOf]; omega
            · have e2 : decide (mostF En.bits acc < y.bits) = false := decide_eq_false h2
              rw [e2, Bool.and_false, if_neg (by decide)] at HST
              clear h1 h2 hin
              go_wp2_with fail
              go_roundw
              case rel => exact ⟨j + 1, by omega, by go_num, by rw [HST.out], by rw [HST.out], HYB.out, HYX.out⟩
              case measure => simp [intOf]; omega
          · have e1 : decide (y.bits < x.bits) = false := decide_eq_false h1
            rw [e1, Bool.false_and] at HUP
            rw [HUP.out, Bool.false_and, if_neg (by decide)] at HST
            clear h1 hin
            go_wp2_with fail
            go_roundw
            case rel => exact ⟨j + 1, by omega, by go_num, by rw [HST.out], by rw [HST.out], HYB.out, HYX.out⟩
            case measure => simp [intOf]; omega
        · have : j = L.length := by omega
          subst this
          rw [List.take_length]
          clear hj hlt2
          have HOW : Hid (enOwn wr w.heap.size sv ((L.take k).filter (keptE L))) := Lib.hid (own_belowT HO.out HB2.out (Nat.le_refl _))
          have HBW := Lib.hid (HBk.out.trans (HB2.out.mono HBk.out.size))
          have HKE : Hid (keptE L x = !((toE (bestE (upE x) L)).toList == x.tgt.toList)) := Lib.hid rfl
          generalize toE (bestE (upE x) L) = tt at *
          cases hkq : (tt.toList == x.tgt.toList)
          · rw [hkq] at HKE
            have HTK' := Lib.hid HTK.out
            rw [HKE.out, if_pos (by decide)] at HTK'
            have hlen2 : Hid (((L.take k).filter (keptE L)).length ≤ L.length) := Lib.hid (Nat.le_trans (List.length_filter_le _ _) (by rw [List.length_take]; omega))
            have hwr : w.heap.size ≤ wr.heap.size := HBW.out.size
            generalize (L.take k).filter (keptE L) = KL at *
            have hKl := hlen2.out
            go_wp2_with (at_builtin; refine wpList_append_own _ rfl (.tmp 60) (.tmp 62) 26 rfl w.heap.size 43 i0 (.agg #[.bool false, .int .u64 0, .int .u64 0, .int .i64 0, .string ⟨#[]⟩]) 5 48 Tryz.underlying26 hi0 hz0 hz1 hz2 rfl (by decide) _ _ _ rfl (World.ownsRow.alloc HOW.out _) ⟨wr.heap.size, 0, none⟩ 1 1 (enC x) rfl rfl (cells_new wr (enC x) _) (enC_one x) (by unfold maxLen; first | omega | (simp; omega)) (by first | omega | (simp; omega)) (by first | omega | (simp; omega) | simp) ?_)
            intro v' w4 ho4 hg4 _
            have hlt' := World.ownsRow.lt HOW.out
            have HREL : Hid (SqI w L (k + 1) v' w4) := Lib.hid ⟨v', rfl, by
              rw [HTK'.out]
              exact own_asT ho4 (by rw [List.length_append]; rfl) (by simp [rwC]), (HBW.out.alloc HBW.out.size _).grown hg4 (HBW.out.alloc HBW.out.size _).size (fun j hj => by have := (hlt' j hj).1; omega)⟩
            clear ho4 hg4 hlt'
            go_wp2_with fail
            exact ⟨⟨k + 1, by omega, by simp, HREL.out⟩, by simp [intOf]; omega⟩
          · rw [hkq] at HKE
            have HTK' := Lib.hid HTK.out
            rw [HKE.out, if_neg (by decide), List.append_nil] at HTK'
            go_wp2_with fail
            exact ⟨⟨k + 1, by omega, by simp, _, rfl, by rw [HTK'.out]; exact HOW.out, HBW.out⟩, by simp [intOf]; omega⟩
    · have : k = L.length := by omega
      subst this
      rw [List.take_length] at hO
      have HO := Lib.hid hO
      have HBk := Lib.hid hb
      clear hO hb
      go_wp2_with fail
      go_ret2
      exact ⟨_, rfl, HO.out, HBk.out⟩
theorem cells_newT (W : World) (n : Nat) (hn : n = W.heap.size) (cs : List Value) (T : TypeId) : ∀ j u, cs[j]? = some u → (W.alloc (.cells cs.toArray T)).cell? ((⟨n, 0, none⟩ : Addr).add j) = some u := by
  subst hn
  exact cells_new W cs T
/-! ### edges -/
def lastE (e : En) : Ad := ⟨e.six, fil e.hi ((lenA e.six - e.bits).toNat - 64), fil e.lo (min 64 (lenA e.six - e.bits).toNat)⟩
/-- Where an entry begins, and what lies behind it. -/
def edE (e : En) : List Ad := ⟨e.six, e.hi, e.lo⟩ :: if endA (lastE e).six (lastE e).hi (lastE e).lo then [] else [⟨e.six, nxH (lastE e).hi (lastE e).lo, nxL (lastE e).lo⟩]
def edgE (L : List En) : List Ad := [noAd, ⟨true, 0, 0⟩] ++ L.flatMap edE
theorem edE_len (e : En) : (edE e).length ≤ 2 := by
  unfold edE
  split <;> simp
theorem edgE_len (L : List En) : (edgE L).length ≤ 2 + 2 * L.length := by
  have : (L.flatMap edE).length ≤ 2 * L.length := by
    induction L with
    | nil => simp
    | cons x l ih =>
      have := edE_len x
      rw [List.flatMap_cons, List.length_append, List.length_cons]
      omega
  unfold edgE
  rw [List.length_append]
  simp only [List.length_cons, List.length_nil]
  omega
theorem edgE_take {L : List En} {k : Nat} (hk : k < L.length) : edgE (L.take (k + 1)) = edgE (L.take k) ++ edE (L.getD k noEn) := by
  unfold edgE
  rw [List.take_succ_eq_append_getElem hk, List.flatMap_append, List.getD_eq_getElem?_getD, List.getElem?_eq_getElem hk]
  simp
def EdI (w : World) (L : List Ad) (v : Value) (wr : World) : Prop := ∃ sv, sv = v ∧ adOwn wr w.heap.size sv L ∧ Below w.heap.size w wr
theorem ed_next {w w2 w4 : World} {p : Obj} {M : List Ad} {x : Ad} {sv v' : Value} (ho : adOwn w2 w.heap.size sv M) (hb : Below w.heap.size w w2) {m : Nat} (hm : m = M.length) (ho4 : w4.ownsRow w.heap.size 30 3 v' (m + 1) (rwC adC M ++ adC x)) (hg4 : (w2.alloc p).grownBy w4 sv.ownBlock) : EdI w (M ++ [x]) v' w4 := by
  have hlt' := World.ownsRow.lt ho
  exact ⟨v', rfl, own_asT ho4 (by rw [hm, List.length_append]; rfl) (by simp [rwC]), (hb.alloc hb.size _).grown hg4 (hb.alloc hb.size _).size (fun j hj => by have := (hlt' j hj).1; omega)⟩
set_option maxRecDepth 100000 in
set_option maxHeartbeats 2000000 in
theorem edges_right (A : Option Addr) (cap : Nat) (L : List En) (w : World) (hL : enAt w A L) (ht : TblOk L) :
    Calls Tryz.prog 22 #[.slice A L.length cap] w fun e w' => ∃ v, e = .returned v ∧ adOwn w' w.heap.size v (edgE L) ∧ Below w.heap.size w w' := by
  obtain ⟨i0, hi0, hz0, hz1, hz2⟩ := info_parts ad_info
  have HT := Lib.hid ht
  have hlen := ht.len
  have HLW := Lib.hid hL
  have HN : Hid (EdI w (edgE (L.take 0)) (.slice (some ⟨w.heap.size, 0, none⟩) 2 2) (w.alloc (.cells #[.bool false, .int .u64 0, .int .u64 0, .bool true, .int .u64 0, .int .u64 0] 30 (0, 0)))) := Lib.hid ⟨_, rfl, ⟨by rfl, .inr ⟨w.heap.size, 2, _, rfl, Nat.le_refl _, heap_alloc_new w _, Nat.le_refl _, by decide, rfl, rfl⟩⟩, (Below.refl _ _).alloc (Nat.le_refl _) _⟩
  clear ht hL
  go_enter Tryz.func22, Tryz.ntmps22
  go_wp2_with fail
  generalize World.alloc w _ = W at HN ⊢
  go_loopw [3, 5, 6, 7, 13] (fun v3 _ _ _ v13 wr => ∃ k : Nat, k ≤ L.length ∧ v13 = .int .i64 k ∧ EdI w (edgE (L.take k)) v3 wr) (fun _ _ _ _ v13 _ => L.length - (intOf v13).toNat)
  case atStart => exact ⟨0, Nat.zero_le _, rfl, HN.out⟩
  case round =>
    obtain ⟨k, hk, rfl, sv, rfl, hO, hb⟩ := hrel
    by_cases hlt : k < L.length
    · obtain ⟨g5, off, hA, hgB, hcc⟩ := (HLW.out.below hb) k hlt
      obtain ⟨c0, c1, c2, c3, c4⟩ := en_cells hcc
      have hd : decide ((k : Int) < (L.length : Int)) = true := by simp; omega
      have HTK := Lib.hid (edgE_take hlt)
      have HXM := rw_mem (d := noEn) hlt
      have hel := Nat.le_trans (edgE_len (L.take k)) (by rw [List.length_take]; omega : 2 + 2 * (L.take k).length ≤ 2 + 2 * L.length)
      subst hA
      generalize L.getD k noEn = x at *
      have HRX := Lib.hid (HT.out.right x HXM)
      have HO := Lib.hid hO
      have HBk := Lib.hid hb
      have HBB := Lib.hid (hb.alloc hb.size (.cells #[.bool x.six, .int .u64 x.hi, .int .u64 x.lo, .int .i64 x.bits, .string x.tgt] 43 (0, 0)))
      have HNE := Lib.hid (heap_alloc_new wr (.cells #[.bool x.six, .int .u64 x.hi, .int .u64 x.lo, .int .i64 x.bits, .string x.tgt] 43 (0, 0)))
      have HOB := Lib.hid (World.ownsRow.alloc hO (.cells #[.bool x.six, .int .u64 x.hi, .int .u64 x.lo, .int .i64 x.bits, .string x.tgt] 43 (0, 0)))
      generalize edgE (L.take k) = M at *
      clear hcc hO hb
      go_upto_region 5 with (fail)
      generalize World.alloc wr _ = W2 at HBB HNE HOB ⊢
      have HNB : Hid (sv.ownBlock ≠ some wr.heap.size) := Lib.hid (fun e => by have := (World.ownsRow.lt HO.out _ e).2; omega)
      generalize wr.heap.size = nb at *
      obtain ⟨⟨d0, d1, d2, d3, d4⟩, -⟩ := res5 HNE.out
      have hbw := HBB.out.size
      clear c0 c1 c2 c3 c4
      go_wp2_with (at_builtin; refine wpList_append_own _ rfl (.tmp 17) (.tmp 21) 59 rfl w.heap.size 30 i0 (.agg #[.bool false, .int .u64 0, .int .u64 0]) 3 24 Tryz.underlying59 hi0 hz0 hz1 hz2 rfl (by decide) _ _ _ rfl (World.ownsRow.alloc HOB.out _) ⟨W2.heap.size, 0, none⟩ 1 1 (adC ⟨x.six, x.hi, x.lo⟩) rfl rfl (cells_new W2 (adC ⟨x.six, x.hi, x.lo⟩) _) (adC_one _) (by unfold maxLen; first | omega | (simp; omega)) (by first | omega | (simp; omega)) (by first | omega | (simp; omega) | simp) ?_)
      intro v1 w4 ho4 hg4 _
      have HR1 := Lib.hid (ed_next HOB.out HBB.out rfl ho4 hg4)
      have HN4 := Lib.hid ((hg4.block nb (by have := lt_of_block HNE.out; rw [World.alloc]; simp; omega) (fun e => HNB.out e.symm)).trans (oldT HNE.out))
      clear ho4 hg4 d0 d1 d2 d3 d4 HOB HBB HNE
      obtain ⟨⟨d0, d1, d2, d3, d4⟩, -⟩ := res5 HN4.out
      obtain ⟨m, hm, hm2, hn, hfl⟩ := last_num HRX.out
      have hla := fun W => last_any x.six x.hi x.lo x.bits W HRX.out.1.1 HRX.out.1.2.1 m hm hm2
      have hLE : lastE x = ⟨x.six, fil x.hi (m - 64), fil x.lo (min 64 m)⟩ := by unfold lastE; rw [show (lenA x.six - x.bits).toNat = m by omega]
      have hnx := fun W => next_any' x.six (fil x.hi (m - 64)) (fil x.lo (min 64 m)) W hfl
      have hED : Hid (edE x = ⟨x.six, x.hi, x.lo⟩ :: if endA x.six (fil x.hi (m - 64)) (fil x.lo (min 64 m)) then [] else [⟨x.six, nxH (fil x.hi (m - 64)) (fil x.lo (min 64 m)), nxL (fil x.lo (min 64 m))⟩]) := Lib.hid (by unfold edE; rw [hLE])
      generalize fil x.hi (m - 64) = fh at *
      generalize fil x.lo (min 64 m) = fl at *
      clear hm hn hfl hLE
      go_wp2_with fail
      refine (hla w4).mono ?_
      rintro e w5 ⟨rfl, hb5⟩
      go_wp2_with fail
      refine (hnx w5).mono ?_
      rintro e w6 ⟨rfl, hb6⟩
      obtain ⟨s1, hs1, ho1, hbb1⟩ := HR1.out
      subst hs1
      have HB6 := Lib.hid (hbb1.trans ((hb5.trans (hb6.mono hb5.size)).mono hbb1.size))
      have HO6 : Hid (adOwn w6 w.heap.size s1 (M ++ [⟨x.six, x.hi, x.lo⟩])) := Lib.hid (own_belowT ho1 (hb5.trans (hb6.mono hb5.size)) (Nat.le_refl _))
      have hb6s := HB6.out.size
      clear hb5 hb6 ho1 hbb1 hla hnx d0 d1 d2 d3 d4 HN4 HR1
      cases hq : endA x.six fh fl
      · rw [hq, if_neg (by decide)] at hED
        generalize nxH fh fl = h2 at *
        generalize nxL fl = l2 at *
        have HOb := Lib.hid (World.ownsRow.alloc HO6.out (.cells #[.bool x.six, .int .u64 h2, .int .u64 l2] 30 (0, 0)))
        have HBb := Lib.hid (HB6.out.alloc hb6s (.cells #[.bool x.six, .int .u64 h2, .int .u64 l2] 30 (0, 0)))
        have hln : (M ++ [(⟨x.six, x.hi, x.lo⟩ : Ad)]).length = M.length + 1 := by simp
        have HLN := Lib.hid hln
        clear hln
        go_wp2_with (at_builtin; refine wpList_append_own _ rfl (.tmp 31) (.tmp 33) 59 rfl w.heap.size 30 i0 (.agg #[.bool false, .int .u64 0, .int .u64 0]) 3 24 Tryz.underlying59 hi0 hz0 hz1 hz2 rfl (by decide) _ _ _ rfl (World.ownsRow.alloc HOb.out _) ⟨w6.heap.size + 1, 0, none⟩ 1 1 (adC ⟨x.six, h2, l2⟩) rfl rfl (cells_newT (w6.alloc _) _ (by rw [World.alloc]; simp) (adC ⟨x.six, h2, l2⟩) _) (adC_one _) (by rw [HLN.out]; unfold maxLen; first | omega | (simp; omega)) (by rw [HLN.out]; first | omega | (simp; omega)) (by first | omega | (rw [World.alloc, World.alloc]; simp; omega) | simp) ?_)
        intro v2 w7 ho7 hg7 _
        have HR2 := Lib.hid (ed_next HOb.out HBb.out HLN.out.symm ho7 hg7)
        clear ho7 hg7
        go_wp2_with fail
        exact ⟨⟨k + 1, by omega, by simp, by rw [HTK.out, hED.out, show M ++ [(⟨x.six, x.hi, x.lo⟩ : Ad), ⟨x.six, h2, l2⟩] = M ++ [⟨x.six, x.hi, x.lo⟩] ++ [⟨x.six, h2, l2⟩] by simp]; exact HR2.out⟩, by simp [intOf]; omega⟩
      · rw [hq, if_pos rfl] at hED
        go_wp2_with fail
        exact ⟨⟨k + 1, by omega, by simp, by rw [HTK.out, hED.out]; exact ⟨_, rfl, World.ownsRow.alloc HO6.out _, HB6.out.alloc hb6s _⟩⟩, by simp [intOf]; omega⟩
    · have : k = L.length := by omega
      subst this
      rw [List.take_length] at hO
      have HO := Lib.hid hO
      have HBk := Lib.hid hb
      clear hO hb
      go_wp2_with fail
      go_ret
      exact ⟨_, rfl, HO.out, HBk.out⟩
end Go.Proofs.YtpbcbgoenoolfaaGreatDoor
