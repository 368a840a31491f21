/- laneref2: == of wide numbers; addr of an address; steps of prefixes. laneref2: prefixes. laneref2.LeastOf; Stream.Prefixes, Stream.RightSet. Sets in a law: what an operation hands back where it is small; the closure of SetsHold. Sets of numbers that blocks make, how many blocks a set has, and what a value that is a set is. No step of the program is in it. The law's own closures: an operation over sets whose fault is kept; the rest of a set. -/
import Derived.Test.YtcmfkheohhfpiaaGreatDoorSwF
import Derived.Test.YtcmfkheohhfpiaaGreatDoorRange
import Derived.Test.YtcmfkheohhfpiaaGreatDoorSvL
import Derived.Test.YtcmfkheohhfpiaaGreatDoorPhI
namespace Go.Proofs.YtcmfkheohhfpiaaGreatDoor
open Go.RowKit Go.Hw
/-- Are the digits the same? -/
def eqN (d e : Nat → Int) : Bool := (d 0 == e 0) && ((d 1 == e 1) && ((d 2 == e 2) && ((d 3 == e 3) && ((d 4 == e 4) && ((d 5 == e 5) && ((d 6 == e 6) && ((d 7 == e 7) && (d 8 == e 8))))))))
theorem run_eq_wide (d e : Nat → Int) (w : World) : (Op.equalIn 10000 155 (.agg #[.int .i64 (d 0), .int .i64 (d 1), .int .i64 (d 2), .int .i64 (d 3), .int .i64 (d 4), .int .i64 (d 5), .int .i64 (d 6), .int .i64 (d 7), .int .i64 (d 8)]) (.agg #[.int .i64 (e 0), .int .i64 (e 1), .int .i64 (e 2), .int .i64 (e 3), .int .i64 (e 4), .int .i64 (e 5), .int .i64 (e 6), .int .i64 (e 7), .int .i64 (e 8)])).run Tryz.prog w = .ok (eqN d e) w := by
 have u3 := Tryz.underlying3
 have hu : Tryz.prog.underlying 155 = some (.array 9 3) := by kernel_rfl
 obtain ⟨i0, hi, hz0, hz1, hz2⟩ := info_parts Tryz.infoIntW
 have hc : Tryz.prog.cellsOf 3 = 1 := by kernel_rfl
 rw [show (10000 : Nat) = 9999 + 1 from rfl, run_equalIn_array w 9999 _ _ hu hi, hc, show List.range 9 = [0, 1, 2, 3, 4, 5, 6, 7, 8] from rfl, show (9999 : Nat) = 9998 + 1 from rfl]
 have he : Tryz.prog.plainKey 3 = true := by kernel_rfl
 have step : ∀ (xs ys : Array Value) (j : Nat) (js : List Nat) (x y : Int), xs[j]? = some (.int .i64 x) → ys[j]? = some (.int .i64 y) → (Op.eqItems (9998 + 1) 3 1 xs ys (j :: js)).run Tryz.prog w = if (x == y) = true then (Op.eqItems (9998 + 1) 3 1 xs ys js).run Tryz.prog w else .ok false w := by
  intro xs ys j js x y hx hy
  have h1 := run_part_plain w he (off := j * 1) (by rw [Nat.mul_one]; exact hx)
  have h2 := run_part_plain w he (off := j * 1) (by rw [Nat.mul_one]; exact hy)
  have h3 := run_equalIn_int w 9998 3 .i64 .i64 x y u3
  simp only [Op.eqItems, Sem.run_bind, h1, h2, h3, Result.andThen_ok]
  cases x == y <;> simp
 rw [step _ _ 0 _ (d 0) (e 0) rfl rfl, step _ _ 1 _ (d 1) (e 1) rfl rfl, step _ _ 2 _ (d 2) (e 2) rfl rfl, step _ _ 3 _ (d 3) (e 3) rfl rfl, step _ _ 4 _ (d 4) (e 4) rfl rfl, step _ _ 5 _ (d 5) (e 5) rfl rfl, step _ _ 6 _ (d 6) (e 6) rfl rfl, step _ _ 7 _ (d 7) (e 7) rfl rfl, step _ _ 8 _ (d 8) (e 8) rfl rfl]
 unfold eqN
 generalize (d 0 == e 0) = c0
 generalize (d 1 == e 1) = c1
 generalize (d 2 == e 2) = c2
 generalize (d 3 == e 3) = c3
 generalize (d 4 == e 4) = c4
 generalize (d 5 == e 5) = c5
 generalize (d 6 == e 6) = c6
 generalize (d 7 == e 7) = c7
 generalize (d 8 == e 8) = c8
 cases c0
 ·simp
 cases c1
 ·simp
 cases c2
 ·simp
 cases c3
 ·simp
 cases c4
 ·simp
 cases c5
 ·simp
 cases c6
 ·simp
 cases c7
 ·simp
 cases c8 <;> simp [Op.eqItems]
theorem guard_wide : Tryz.prog.eqGuardType Tryz.prog.depth 155 = false := by kernel_rfl
theorem eqN_wd {s s' : Bool} {h l h' l' : Int} (uh : U64 h) (ul : U64 l) (uh' : U64 h') (ul' : U64 l') : eqN (wd s h l) (wd s' h' l') = true ↔ (s = s' ∧ h = h' ∧ l = l') := by
 have e8 : ∀ s h l, wd s h l 8 = if s then 1 else 0 := fun _ _ _ => rfl
 have e0 : ∀ s h l k, k < 4 → wd s h l k = dg l k := fun s h l k hk => by unfold wd; rw [if_pos hk]
 have e4 : ∀ s h l k, k < 4 → wd s h l (4 + k) = dg h k := fun s h l k hk => by unfold wd; rw [if_neg (by omega), if_pos (by omega), Nat.add_sub_cancel_left]
 unfold eqN
 simp only [Bool.and_eq_true, beq_iff_eq]
 constructor
 ·rintro ⟨q0, q1, q2, q3, q4, q5, q6, q7, q8⟩
  rw [e0 _ _ _ 0 (by omega), e0 _ _ _ 0 (by omega)] at q0
  rw [e0 _ _ _ 1 (by omega), e0 _ _ _ 1 (by omega)] at q1
  rw [e0 _ _ _ 2 (by omega), e0 _ _ _ 2 (by omega)] at q2
  rw [e0 _ _ _ 3 (by omega), e0 _ _ _ 3 (by omega)] at q3
  rw [show 4 = 4 + 0 from rfl, e4 _ _ _ 0 (by omega), e4 _ _ _ 0 (by omega)] at q4
  rw [show 5 = 4 + 1 from rfl, e4 _ _ _ 1 (by omega), e4 _ _ _ 1 (by omega)] at q5
  rw [show 6 = 4 + 2 from rfl, e4 _ _ _ 2 (by omega), e4 _ _ _ 2 (by omega)] at q6
  rw [show 7 = 4 + 3 from rfl, e4 _ _ _ 3 (by omega), e4 _ _ _ 3 (by omega)] at q7
  rw [e8, e8] at q8
  refine ⟨?_, dg_ext uh uh' (fun i hi => ?_), dg_ext ul ul' (fun i hi => ?_)⟩
  ·cases s <;> cases s' <;> simp at q8 ⊢
  ·have : i = 0 ∨ i = 1 ∨ i = 2 ∨ i = 3 := by omega
   rcases this with rfl | rfl | rfl | rfl <;> assumption
  ·have : i = 0 ∨ i = 1 ∨ i = 2 ∨ i = 3 := by omega
   rcases this with rfl | rfl | rfl | rfl <;> assumption
 ·rintro ⟨rfl, rfl, rfl⟩
  exact ⟨rfl, rfl, rfl, rfl, rfl, rfl, rfl, rfl, rfl⟩
theorem wideAddr_wd (s : Bool) (h l : Int) (w : World) (uh : U64 h) (ul : U64 l) :
  Calls Tryz.prog 88 #[.agg #[.int .i64 (wd s h l 0), .int .i64 (wd s h l 1), .int .i64 (wd s h l 2), .int .i64 (wd s h l 3), .int .i64 (wd s h l 4), .int .i64 (wd s h l 5), .int .i64 (wd s h l 6), .int .i64 (wd s h l 7), .int .i64 (wd s h l 8)]] w fun e w' => e = .returned (.agg #[.bool s, .int .u64 h, .int .u64 l]) ∧ Below w.heap.size w w' :=
 (wideAddr_any (wd s h l) w (wd_dgs s h l)).mono fun e w' h9 => by
  obtain ⟨s', h', l', ⟨e1, e2, e3⟩, e4, _, _, e5⟩ := h9
  have h1 : hiF (wd s h l) 4 = h := pack4 uh (fun k => wd s h l (4 + k)) (fun k hk => by
   unfold wd
   rw [if_neg (by omega), if_pos (by omega), Nat.add_sub_cancel_left]) _ rfl (fun k => rfl)
  have h2 : loF (wd s h l) 4 = l := pack4 ul (fun k => wd s h l k) (fun k hk => by
   unfold wd
   rw [if_pos hk]) _ rfl (fun k => rfl)
  have h3 : decide (0 < wd s h l 8) = s := by
   have e8 : wd s h l 8 = if s then 1 else 0 := rfl
   rw [e8]
   cases s <;> rfl
  rw [h1] at e2
  rw [h2] at e3
  rw [h3] at e1
  subst e1 e2 e3
  exact ⟨e4, e5⟩
theorem firstOf_wd (s : Bool) (h l b : Int) (w : World) (uh : U64 h) (ul : U64 l) (m : Nat) (hm : lenA s - b = m) (hm2 : m ≤ 128) (hb : 0 ≤ b) :
  Calls Tryz.prog 90 #[.agg #[.bool s, .int .u64 h, .int .u64 l], .int .i64 b] w fun e w' => e = .returned (.agg #[.int .i64 (wd s (clr h (m - 64)) (clr l (min 64 m)) 0), .int .i64 (wd s (clr h (m - 64)) (clr l (min 64 m)) 1), .int .i64 (wd s (clr h (m - 64)) (clr l (min 64 m)) 2), .int .i64 (wd s (clr h (m - 64)) (clr l (min 64 m)) 3), .int .i64 (wd s (clr h (m - 64)) (clr l (min 64 m)) 4), .int .i64 (wd s (clr h (m - 64)) (clr l (min 64 m)) 5), .int .i64 (wd s (clr h (m - 64)) (clr l (min 64 m)) 6), .int .i64 (wd s (clr h (m - 64)) (clr l (min 64 m)) 7), .int .i64 (wd s (clr h (m - 64)) (clr l (min 64 m)) 8)]) ∧ Below w.heap.size w w' :=
 (firstOf_any s h l b w uh ul m hm hm2 hb).mono fun e w' h9 => ⟨h9.1.trans (by
  have : arr9 (clrd (wd s h l) m) = arr9 (wd s (clr h (m - 64)) (clr l (min 64 m))) := arr_ext (fun i h9 => clrd_wd uh ul hm2 h9)
  unfold wideV
  rw [this]
  rfl), h9.2⟩
theorem lastOf_wd (s : Bool) (h l b : Int) (w : World) (uh : U64 h) (ul : U64 l) (m : Nat) (hm : lenA s - b = m) (hm2 : m ≤ 128) (hb : 0 ≤ b) :
  Calls Tryz.prog 91 #[.agg #[.bool s, .int .u64 h, .int .u64 l, .int .i64 b]] w fun e w' => e = .returned (.agg #[.int .i64 (wd s (fil h (m - 64)) (fil l (min 64 m)) 0), .int .i64 (wd s (fil h (m - 64)) (fil l (min 64 m)) 1), .int .i64 (wd s (fil h (m - 64)) (fil l (min 64 m)) 2), .int .i64 (wd s (fil h (m - 64)) (fil l (min 64 m)) 3), .int .i64 (wd s (fil h (m - 64)) (fil l (min 64 m)) 4), .int .i64 (wd s (fil h (m - 64)) (fil l (min 64 m)) 5), .int .i64 (wd s (fil h (m - 64)) (fil l (min 64 m)) 6), .int .i64 (wd s (fil h (m - 64)) (fil l (min 64 m)) 7), .int .i64 (wd s (fil h (m - 64)) (fil l (min 64 m)) 8)]) ∧ Below w.heap.size w w' :=
 (lastOf_any s h l b w uh ul m hm hm2 hb).mono fun e w' h9 => ⟨h9.1.trans (by
  have : arr9 (fild (wd s h l) m) = arr9 (wd s (fil h (m - 64)) (fil l (min 64 m))) := arr_ext (fun i h9 => fild_wd uh ul hm2 h9)
  unfold wideV
  rw [this]
  rfl), h9.2⟩
theorem plus_next (s : Bool) (h l : Int) (w : World) (hf : AddrFine s h l) (he : endA s h l = false) :
  Calls Tryz.prog 93 #[.agg #[.int .i64 (wd s h l 0), .int .i64 (wd s h l 1), .int .i64 (wd s h l 2), .int .i64 (wd s h l 3), .int .i64 (wd s h l 4), .int .i64 (wd s h l 5), .int .i64 (wd s h l 6), .int .i64 (wd s h l 7), .int .i64 (wd s h l 8)], .int .i64 1] w fun e w' => e = .returned (.agg #[.int .i64 (wd s (nxH h l) (nxL l) 0), .int .i64 (wd s (nxH h l) (nxL l) 1), .int .i64 (wd s (nxH h l) (nxL l) 2), .int .i64 (wd s (nxH h l) (nxL l) 3), .int .i64 (wd s (nxH h l) (nxL l) 4), .int .i64 (wd s (nxH h l) (nxL l) 5), .int .i64 (wd s (nxH h l) (nxL l) 6), .int .i64 (wd s (nxH h l) (nxL l) 7), .int .i64 (wd s (nxH h l) (nxL l) 8)]) ∧ Below w.heap.size w w' :=
 (plus_any (wd s h l) w (wd_dgs s h l)).mono fun e w' h9 => ⟨h9.1.trans (by
  unfold wideV
  rw [plus_wd hf he]
  rfl), h9.2⟩
theorem cmp_wd (s : Bool) (h l : Int) (s' : Bool) (h' l' : Int) (w : World) (uh : U64 h) (ul : U64 l) (uh' : U64 h') (ul' : U64 l') :
  Calls Tryz.prog 92 #[.agg #[.int .i64 (wd s h l 0), .int .i64 (wd s h l 1), .int .i64 (wd s h l 2), .int .i64 (wd s h l 3), .int .i64 (wd s h l 4), .int .i64 (wd s h l 5), .int .i64 (wd s h l 6), .int .i64 (wd s h l 7), .int .i64 (wd s h l 8)], .agg #[.int .i64 (wd s' h' l' 0), .int .i64 (wd s' h' l' 1), .int .i64 (wd s' h' l' 2), .int .i64 (wd s' h' l' 3), .int .i64 (wd s' h' l' 4), .int .i64 (wd s' h' l' 5), .int .i64 (wd s' h' l' 6), .int .i64 (wd s' h' l' 7), .int .i64 (wd s' h' l' 8)]] w fun e w' => e = .returned (.int .i64 (spanC s h l s' h' l')) ∧ Below w.heap.size w w' :=
 (wideCmp_any (wd s h l) (wd s' h' l') w (wd_dgs s h l) (wd_dgs s' h' l')).mono fun e w' h9 => ⟨h9.1.trans (by rw [cmp_span uh ul uh' ul']), h9.2⟩
theorem RwCells.take {w : World} {g o : Nat} {vs : List Value} (h : RwCells w g o vs) (n : Nat) : RwCells w g o (vs.take n) := fun j u hu => by
 refine h j u ?_
 rw [List.getElem?_take] at hu
 split at hu
 ·exact hu
 ·cases hu
end Go.Proofs.YtcmfkheohhfpiaaGreatDoor
namespace Go.Proofs.YtcmfkheohhfpiaaGreatDoor
open Go.RowKit Go.Hw
def PnI (w : World) (r : Rg) (ns na : Nat) (B0 : List Bk) (n : Nat) (v3 : Value) (wi : World) : Prop :=
 ∃ (P : List Pf) (x : Ad), keyA x < keyA (laR r) + 1 ∧ keyA (laR r) + 1 - keyA x ≤ n ∧ fineA x ∧ x.six = r.six ∧ pxOwn wi w.heap.size v3 P ∧ (∀ p ∈ P, okP p) ∧ P.map bkP ++ preG (keyA x) (keyA (laR r) + 1) = B0 ∧ Below w.heap.size w wi ∧ wi.heap[ns]? = some (.cells #[.int .i64 (wd r.six r.hi r.lo 0), .int .i64 (wd r.six r.hi r.lo 1), .int .i64 (wd r.six r.hi r.lo 2), .int .i64 (wd r.six r.hi r.lo 3), .int .i64 (wd r.six r.hi r.lo 4), .int .i64 (wd r.six r.hi r.lo 5), .int .i64 (wd r.six r.hi r.lo 6), .int .i64 (wd r.six r.hi r.lo 7), .int .i64 (wd r.six r.hi r.lo 8), .int .i64 (wd r.six2 r.hi2 r.lo2 0), .int .i64 (wd r.six2 r.hi2 r.lo2 1), .int .i64 (wd r.six2 r.hi2 r.lo2 2), .int .i64 (wd r.six2 r.hi2 r.lo2 3), .int .i64 (wd r.six2 r.hi2 r.lo2 4), .int .i64 (wd r.six2 r.hi2 r.lo2 5), .int .i64 (wd r.six2 r.hi2 r.lo2 6), .int .i64 (wd r.six2 r.hi2 r.lo2 7), .int .i64 (wd r.six2 r.hi2 r.lo2 8)] 157 (0, 0)) ∧ wi.heap[na]? = some (.cells #[.int .i64 (wd x.six x.hi x.lo 0), .int .i64 (wd x.six x.hi x.lo 1), .int .i64 (wd x.six x.hi x.lo 2), .int .i64 (wd x.six x.hi x.lo 3), .int .i64 (wd x.six x.hi x.lo 4), .int .i64 (wd x.six x.hi x.lo 5), .int .i64 (wd x.six x.hi x.lo 6), .int .i64 (wd x.six x.hi x.lo 7), .int .i64 (wd x.six x.hi x.lo 8)] 155 (0, 0))
set_option maxRecDepth 100000 in
set_option maxHeartbeats 8000000 in
theorem refPrefixes_any (A : Option Addr) (cap : Nat) (R : List Rg) (w : World) (h : spAt w A R) (hok : ∀ r ∈ R, okR r) (hl : (preS (R.map rgS)).length ≤ 1000000) (hl2 : R.length ≤ 100000) :
  Calls Tryz.prog 48 #[.slice A R.length cap] w fun e w' => ∃ v P, e = .returned v ∧ pxOwn w' w.heap.size v P ∧ (∀ p ∈ P, okP p) ∧ P.map bkP = preS (R.map rgS) ∧ Below w.heap.size w w' := by
 obtain ⟨i0, hi0, hz0, hz1, hz2⟩ := info_parts px_info
 have HOK := Lib.hid hok
 have HL := Lib.hid hl
 have HL2 := Lib.hid hl2
 have HA := Lib.hid h
 clear h hok hl hl2
 go_enter Tryz.func48, Tryz.ntmps48
 go_wp2_with fail
 go_loopw [3, 5, 6, 7, 8, 9, 10, 13] (fun v3 _ _ _ _ _ _ v13 wr => ∃ (k : Nat) (P : List Pf) (sv : Value), k ≤ R.length ∧ v13 = .int .i64 k ∧ sv = v3 ∧ pxOwn wr w.heap.size sv P ∧ (∀ p ∈ P, okP p) ∧ P.map bkP = preS ((R.take k).map rgS) ∧ Below w.heap.size w wr) (fun _ _ _ _ _ _ _ v13 _ => R.length - (intOf v13).toNat)
 case atStart => exact ⟨0, [], _, Nat.zero_le _, rfl, rfl, World.ownsRow_nil _ _ _ _, (by intro p hp; cases hp), rfl, Below.refl _ _⟩
 case round =>
  obtain ⟨k, P, sv, hk, rfl, rfl, ho, hpo, hpm, hb⟩ := hrel
  by_cases hlt : k < R.length
  ·obtain ⟨gA, off, rfl, hgA, hcc⟩ := (HA.out.below hb) k hlt
   have hd : decide ((k : Int) < (R.length : Int)) = true := by simp; omega
   have HTK := Lib.hid (take_succ' (L := R) noRg hlt)
   have HRO := Lib.hid (HOK.out (R.getD k noRg) (rw_mem hlt))
   have HPL : Hid ((preS ((R.take (k + 1)).map rgS)).length ≤ 1000000) := Lib.hid (by
    have h1 : R.map rgS = (R.take (k + 1)).map rgS ++ (R.drop (k + 1)).map rgS := by rw [← List.map_append, List.take_append_drop]
    have h2 := HL.out
    rw [h1, preS_append, List.length_append] at h2
    omega)
   generalize hpe : R.getD k noRg = r at *
   have HB0 : Hid (preS ((R.take (k + 1)).map rgS) = P.map bkP ++ preG (keyA (fiR r)) (keyA (laR r) + 1)) := Lib.hid (by
    rw [HTK.out, List.map_append, preS_append, hpm]
    congr 1
    exact preS_one (rgS r))
   generalize hB0 : preS ((R.take (k + 1)).map rgS) = B0 at *
   have HBE := Lib.hid hB0
   have HCC := Lib.hid hcc
   have HBW := Lib.hid hb
   have HO := Lib.hid ho
   have HPO := Lib.hid hpo
   have hlm := HL2.out
   obtain ⟨e, hee⟩ : ∃ e, keyA (laR r) + 1 = e := ⟨_, rfl⟩
   have HEE := Lib.hid hee
   have HRLE := Lib.hid HRO.out.le
   clear hcc hpe hB0 hb ho hpo hpm hee
   go_upto_region 4 with (fail)
   first | refine load_stepR (cs := spC r) rfl HCC.out (by kernel_rfl) rfl (by kernel_rfl) ?_ | (go_step; first | refine load_stepR (cs := spC r) rfl HCC.out (by kernel_rfl) rfl (by kernel_rfl) ?_ | (go_step; first | refine load_stepR (cs := spC r) rfl HCC.out (by kernel_rfl) rfl (by kernel_rfl) ?_ | (go_step; first | refine load_stepR (cs := spC r) rfl HCC.out (by kernel_rfl) rfl (by kernel_rfl) ?_ | (go_step; first | refine load_stepR (cs := spC r) rfl HCC.out (by kernel_rfl) rfl (by kernel_rfl) ?_ | (go_step; first | refine load_stepR (cs := spC r) rfl HCC.out (by kernel_rfl) rfl (by kernel_rfl) ?_ | (go_step; first | refine load_stepR (cs := spC r) rfl HCC.out (by kernel_rfl) rfl (by kernel_rfl) ?_ | (go_step; first | refine load_stepR (cs := spC r) rfl HCC.out (by kernel_rfl) rfl (by kernel_rfl) ?_ | (go_step; first | refine load_stepR (cs := spC r) rfl HCC.out (by kernel_rfl) rfl (by kernel_rfl) ?_ | (go_step; first | refine load_stepR (cs := spC r) rfl HCC.out (by kernel_rfl) rfl (by kernel_rfl) ?_ | (go_step; refine load_stepR (cs := spC r) rfl HCC.out (by kernel_rfl) rfl (by kernel_rfl) ?_))))))))))
   first | refine store_step (vs := (spC r).toArray) rfl rfl (heap_alloc_new wr _) rfl (by kernel_rfl) (by simpa using spC_one r) (fun W1 hr1 => ?_) | (go_step; first | refine store_step (vs := (spC r).toArray) rfl rfl (heap_alloc_new wr _) rfl (by kernel_rfl) (by simpa using spC_one r) (fun W1 hr1 => ?_) | (go_step; first | refine store_step (vs := (spC r).toArray) rfl rfl (heap_alloc_new wr _) rfl (by kernel_rfl) (by simpa using spC_one r) (fun W1 hr1 => ?_) | (go_step; first | refine store_step (vs := (spC r).toArray) rfl rfl (heap_alloc_new wr _) rfl (by kernel_rfl) (by simpa using spC_one r) (fun W1 hr1 => ?_) | (go_step; first | refine store_step (vs := (spC r).toArray) rfl rfl (heap_alloc_new wr _) rfl (by kernel_rfl) (by simpa using spC_one r) (fun W1 hr1 => ?_) | (go_step; first | refine store_step (vs := (spC r).toArray) rfl rfl (heap_alloc_new wr _) rfl (by kernel_rfl) (by simpa using spC_one r) (fun W1 hr1 => ?_) | (go_step; first | refine store_step (vs := (spC r).toArray) rfl rfl (heap_alloc_new wr _) rfl (by kernel_rfl) (by simpa using spC_one r) (fun W1 hr1 => ?_) | (go_step; first | refine store_step (vs := (spC r).toArray) rfl rfl (heap_alloc_new wr _) rfl (by kernel_rfl) (by simpa using spC_one r) (fun W1 hr1 => ?_) | (go_step; first | refine store_step (vs := (spC r).toArray) rfl rfl (heap_alloc_new wr _) rfl (by kernel_rfl) (by simpa using spC_one r) (fun W1 hr1 => ?_) | (go_step; first | refine store_step (vs := (spC r).toArray) rfl rfl (heap_alloc_new wr _) rfl (by kernel_rfl) (by simpa using spC_one r) (fun W1 hr1 => ?_) | (go_step; refine store_step (vs := (spC r).toArray) rfl rfl (heap_alloc_new wr _) rfl (by kernel_rfl) (by simpa using spC_one r) (fun W1 hr1 => ?_)))))))))))
   have HB1 : Hid (Below w.heap.size w W1) := Lib.hid (hr1.below (HBW.out.alloc HBW.out.size _) HBW.out.size)
   have HS1 : Hid (W1.heap[wr.heap.size]? = some (.cells #[.int .i64 (wd r.six r.hi r.lo 0), .int .i64 (wd r.six r.hi r.lo 1), .int .i64 (wd r.six r.hi r.lo 2), .int .i64 (wd r.six r.hi r.lo 3), .int .i64 (wd r.six r.hi r.lo 4), .int .i64 (wd r.six r.hi r.lo 5), .int .i64 (wd r.six r.hi r.lo 6), .int .i64 (wd r.six r.hi r.lo 7), .int .i64 (wd r.six r.hi r.lo 8), .int .i64 (wd r.six2 r.hi2 r.lo2 0), .int .i64 (wd r.six2 r.hi2 r.lo2 1), .int .i64 (wd r.six2 r.hi2 r.lo2 2), .int .i64 (wd r.six2 r.hi2 r.lo2 3), .int .i64 (wd r.six2 r.hi2 r.lo2 4), .int .i64 (wd r.six2 r.hi2 r.lo2 5), .int .i64 (wd r.six2 r.hi2 r.lo2 6), .int .i64 (wd r.six2 r.hi2 r.lo2 7), .int .i64 (wd r.six2 r.hi2 r.lo2 8)] 157 (0, 0))) := Lib.hid hr1.blk
   have HO1 : Hid (W1.ownsRow w.heap.size 48 4 sv P.length (rwC pxC P)) := Lib.hid (rw_same (World.ownsRow.alloc HO.out _) (fun b hb => hr1.oth b (by have := (HO.out.lt b hb).2; omega)))
   have HF1 : Hid (RwCells W1 wr.heap.size 0 [.int .i64 (wd r.six r.hi r.lo 0), .int .i64 (wd r.six r.hi r.lo 1), .int .i64 (wd r.six r.hi r.lo 2), .int .i64 (wd r.six r.hi r.lo 3), .int .i64 (wd r.six r.hi r.lo 4), .int .i64 (wd r.six r.hi r.lo 5), .int .i64 (wd r.six r.hi r.lo 6), .int .i64 (wd r.six r.hi r.lo 7), .int .i64 (wd r.six r.hi r.lo 8)]) := Lib.hid (RwCells.take (blk_rw HS1.out) 9)
   have HNS : Hid (w.heap.size ≤ wr.heap.size) := Lib.hid HBW.out.size
   clear hr1
   obtain ⟨ns, hns⟩ : ∃ ns, wr.heap.size = ns := ⟨_, rfl⟩
   rw [hns] at HS1 HF1 HNS ⊢
   have hnsl := lt_of_block HS1.out
   clear hns
   go_upto_region 5 with (fail)
   first | refine load_stepR (cs := [.int .i64 (wd r.six r.hi r.lo 0), .int .i64 (wd r.six r.hi r.lo 1), .int .i64 (wd r.six r.hi r.lo 2), .int .i64 (wd r.six r.hi r.lo 3), .int .i64 (wd r.six r.hi r.lo 4), .int .i64 (wd r.six r.hi r.lo 5), .int .i64 (wd r.six r.hi r.lo 6), .int .i64 (wd r.six r.hi r.lo 7), .int .i64 (wd r.six r.hi r.lo 8)]) rfl HF1.out (by kernel_rfl) rfl (by kernel_rfl) ?_ | (go_step; first | refine load_stepR (cs := [.int .i64 (wd r.six r.hi r.lo 0), .int .i64 (wd r.six r.hi r.lo 1), .int .i64 (wd r.six r.hi r.lo 2), .int .i64 (wd r.six r.hi r.lo 3), .int .i64 (wd r.six r.hi r.lo 4), .int .i64 (wd r.six r.hi r.lo 5), .int .i64 (wd r.six r.hi r.lo 6), .int .i64 (wd r.six r.hi r.lo 7), .int .i64 (wd r.six r.hi r.lo 8)]) rfl HF1.out (by kernel_rfl) rfl (by kernel_rfl) ?_ | (go_step; first | refine load_stepR (cs := [.int .i64 (wd r.six r.hi r.lo 0), .int .i64 (wd r.six r.hi r.lo 1), .int .i64 (wd r.six r.hi r.lo 2), .int .i64 (wd r.six r.hi r.lo 3), .int .i64 (wd r.six r.hi r.lo 4), .int .i64 (wd r.six r.hi r.lo 5), .int .i64 (wd r.six r.hi r.lo 6), .int .i64 (wd r.six r.hi r.lo 7), .int .i64 (wd r.six r.hi r.lo 8)]) rfl HF1.out (by kernel_rfl) rfl (by kernel_rfl) ?_ | (go_step; first | refine load_stepR (cs := [.int .i64 (wd r.six r.hi r.lo 0), .int .i64 (wd r.six r.hi r.lo 1), .int .i64 (wd r.six r.hi r.lo 2), .int .i64 (wd r.six r.hi r.lo 3), .int .i64 (wd r.six r.hi r.lo 4), .int .i64 (wd r.six r.hi r.lo 5), .int .i64 (wd r.six r.hi r.lo 6), .int .i64 (wd r.six r.hi r.lo 7), .int .i64 (wd r.six r.hi r.lo 8)]) rfl HF1.out (by kernel_rfl) rfl (by kernel_rfl) ?_ | (go_step; first | refine load_stepR (cs := [.int .i64 (wd r.six r.hi r.lo 0), .int .i64 (wd r.six r.hi r.lo 1), .int .i64 (wd r.six r.hi r.lo 2), .int .i64 (wd r.six r.hi r.lo 3), .int .i64 (wd r.six r.hi r.lo 4), .int .i64 (wd r.six r.hi r.lo 5), .int .i64 (wd r.six r.hi r.lo 6), .int .i64 (wd r.six r.hi r.lo 7), .int .i64 (wd r.six r.hi r.lo 8)]) rfl HF1.out (by kernel_rfl) rfl (by kernel_rfl) ?_ | (go_step; first | refine load_stepR (cs := [.int .i64 (wd r.six r.hi r.lo 0), .int .i64 (wd r.six r.hi r.lo 1), .int .i64 (wd r.six r.hi r.lo 2), .int .i64 (wd r.six r.hi r.lo 3), .int .i64 (wd r.six r.hi r.lo 4), .int .i64 (wd r.six r.hi r.lo 5), .int .i64 (wd r.six r.hi r.lo 6), .int .i64 (wd r.six r.hi r.lo 7), .int .i64 (wd r.six r.hi r.lo 8)]) rfl HF1.out (by kernel_rfl) rfl (by kernel_rfl) ?_ | (go_step; first | refine load_stepR (cs := [.int .i64 (wd r.six r.hi r.lo 0), .int .i64 (wd r.six r.hi r.lo 1), .int .i64 (wd r.six r.hi r.lo 2), .int .i64 (wd r.six r.hi r.lo 3), .int .i64 (wd r.six r.hi r.lo 4), .int .i64 (wd r.six r.hi r.lo 5), .int .i64 (wd r.six r.hi r.lo 6), .int .i64 (wd r.six r.hi r.lo 7), .int .i64 (wd r.six r.hi r.lo 8)]) rfl HF1.out (by kernel_rfl) rfl (by kernel_rfl) ?_ | (go_step; first | refine load_stepR (cs := [.int .i64 (wd r.six r.hi r.lo 0), .int .i64 (wd r.six r.hi r.lo 1), .int .i64 (wd r.six r.hi r.lo 2), .int .i64 (wd r.six r.hi r.lo 3), .int .i64 (wd r.six r.hi r.lo 4), .int .i64 (wd r.six r.hi r.lo 5), .int .i64 (wd r.six r.hi r.lo 6), .int .i64 (wd r.six r.hi r.lo 7), .int .i64 (wd r.six r.hi r.lo 8)]) rfl HF1.out (by kernel_rfl) rfl (by kernel_rfl) ?_ | (go_step; first | refine load_stepR (cs := [.int .i64 (wd r.six r.hi r.lo 0), .int .i64 (wd r.six r.hi r.lo 1), .int .i64 (wd r.six r.hi r.lo 2), .int .i64 (wd r.six r.hi r.lo 3), .int .i64 (wd r.six r.hi r.lo 4), .int .i64 (wd r.six r.hi r.lo 5), .int .i64 (wd r.six r.hi r.lo 6), .int .i64 (wd r.six r.hi r.lo 7), .int .i64 (wd r.six r.hi r.lo 8)]) rfl HF1.out (by kernel_rfl) rfl (by kernel_rfl) ?_ | (go_step; first | refine load_stepR (cs := [.int .i64 (wd r.six r.hi r.lo 0), .int .i64 (wd r.six r.hi r.lo 1), .int .i64 (wd r.six r.hi r.lo 2), .int .i64 (wd r.six r.hi r.lo 3), .int .i64 (wd r.six r.hi r.lo 4), .int .i64 (wd r.six r.hi r.lo 5), .int .i64 (wd r.six r.hi r.lo 6), .int .i64 (wd r.six r.hi r.lo 7), .int .i64 (wd r.six r.hi r.lo 8)]) rfl HF1.out (by kernel_rfl) rfl (by kernel_rfl) ?_ | (go_step; refine load_stepR (cs := [.int .i64 (wd r.six r.hi r.lo 0), .int .i64 (wd r.six r.hi r.lo 1), .int .i64 (wd r.six r.hi r.lo 2), .int .i64 (wd r.six r.hi r.lo 3), .int .i64 (wd r.six r.hi r.lo 4), .int .i64 (wd r.six r.hi r.lo 5), .int .i64 (wd r.six r.hi r.lo 6), .int .i64 (wd r.six r.hi r.lo 7), .int .i64 (wd r.six r.hi r.lo 8)]) rfl HF1.out (by kernel_rfl) rfl (by kernel_rfl) ?_))))))))))
   first | refine store_step (vs := ([.int .i64 (wd r.six r.hi r.lo 0), .int .i64 (wd r.six r.hi r.lo 1), .int .i64 (wd r.six r.hi r.lo 2), .int .i64 (wd r.six r.hi r.lo 3), .int .i64 (wd r.six r.hi r.lo 4), .int .i64 (wd r.six r.hi r.lo 5), .int .i64 (wd r.six r.hi r.lo 6), .int .i64 (wd r.six r.hi r.lo 7), .int .i64 (wd r.six r.hi r.lo 8)] : List Value).toArray) rfl rfl (heap_alloc_new W1 _) rfl (by kernel_rfl) (by simp [Value.oneCell']) (fun W2 hr2 => ?_) | (go_step; first | refine store_step (vs := ([.int .i64 (wd r.six r.hi r.lo 0), .int .i64 (wd r.six r.hi r.lo 1), .int .i64 (wd r.six r.hi r.lo 2), .int .i64 (wd r.six r.hi r.lo 3), .int .i64 (wd r.six r.hi r.lo 4), .int .i64 (wd r.six r.hi r.lo 5), .int .i64 (wd r.six r.hi r.lo 6), .int .i64 (wd r.six r.hi r.lo 7), .int .i64 (wd r.six r.hi r.lo 8)] : List Value).toArray) rfl rfl (heap_alloc_new W1 _) rfl (by kernel_rfl) (by simp [Value.oneCell']) (fun W2 hr2 => ?_) | (go_step; first | refine store_step (vs := ([.int .i64 (wd r.six r.hi r.lo 0), .int .i64 (wd r.six r.hi r.lo 1), .int .i64 (wd r.six r.hi r.lo 2), .int .i64 (wd r.six r.hi r.lo 3), .int .i64 (wd r.six r.hi r.lo 4), .int .i64 (wd r.six r.hi r.lo 5), .int .i64 (wd r.six r.hi r.lo 6), .int .i64 (wd r.six r.hi r.lo 7), .int .i64 (wd r.six r.hi r.lo 8)] : List Value).toArray) rfl rfl (heap_alloc_new W1 _) rfl (by kernel_rfl) (by simp [Value.oneCell']) (fun W2 hr2 => ?_) | (go_step; first | refine store_step (vs := ([.int .i64 (wd r.six r.hi r.lo 0), .int .i64 (wd r.six r.hi r.lo 1), .int .i64 (wd r.six r.hi r.lo 2), .int .i64 (wd r.six r.hi r.lo 3), .int .i64 (wd r.six r.hi r.lo 4), .int .i64 (wd r.six r.hi r.lo 5), .int .i64 (wd r.six r.hi r.lo 6), .int .i64 (wd r.six r.hi r.lo 7), .int .i64 (wd r.six r.hi r.lo 8)] : List Value).toArray) rfl rfl (heap_alloc_new W1 _) rfl (by kernel_rfl) (by simp [Value.oneCell']) (fun W2 hr2 => ?_) | (go_step; first | refine store_step (vs := ([.int .i64 (wd r.six r.hi r.lo 0), .int .i64 (wd r.six r.hi r.lo 1), .int .i64 (wd r.six r.hi r.lo 2), .int .i64 (wd r.six r.hi r.lo 3), .int .i64 (wd r.six r.hi r.lo 4), .int .i64 (wd r.six r.hi r.lo 5), .int .i64 (wd r.six r.hi r.lo 6), .int .i64 (wd r.six r.hi r.lo 7), .int .i64 (wd r.six r.hi r.lo 8)] : List Value).toArray) rfl rfl (heap_alloc_new W1 _) rfl (by kernel_rfl) (by simp [Value.oneCell']) (fun W2 hr2 => ?_) | (go_step; first | refine store_step (vs := ([.int .i64 (wd r.six r.hi r.lo 0), .int .i64 (wd r.six r.hi r.lo 1), .int .i64 (wd r.six r.hi r.lo 2), .int .i64 (wd r.six r.hi r.lo 3), .int .i64 (wd r.six r.hi r.lo 4), .int .i64 (wd r.six r.hi r.lo 5), .int .i64 (wd r.six r.hi r.lo 6), .int .i64 (wd r.six r.hi r.lo 7), .int .i64 (wd r.six r.hi r.lo 8)] : List Value).toArray) rfl rfl (heap_alloc_new W1 _) rfl (by kernel_rfl) (by simp [Value.oneCell']) (fun W2 hr2 => ?_) | (go_step; first | refine store_step (vs := ([.int .i64 (wd r.six r.hi r.lo 0), .int .i64 (wd r.six r.hi r.lo 1), .int .i64 (wd r.six r.hi r.lo 2), .int .i64 (wd r.six r.hi r.lo 3), .int .i64 (wd r.six r.hi r.lo 4), .int .i64 (wd r.six r.hi r.lo 5), .int .i64 (wd r.six r.hi r.lo 6), .int .i64 (wd r.six r.hi r.lo 7), .int .i64 (wd r.six r.hi r.lo 8)] : List Value).toArray) rfl rfl (heap_alloc_new W1 _) rfl (by kernel_rfl) (by simp [Value.oneCell']) (fun W2 hr2 => ?_) | (go_step; first | refine store_step (vs := ([.int .i64 (wd r.six r.hi r.lo 0), .int .i64 (wd r.six r.hi r.lo 1), .int .i64 (wd r.six r.hi r.lo 2), .int .i64 (wd r.six r.hi r.lo 3), .int .i64 (wd r.six r.hi r.lo 4), .int .i64 (wd r.six r.hi r.lo 5), .int .i64 (wd r.six r.hi r.lo 6), .int .i64 (wd r.six r.hi r.lo 7), .int .i64 (wd r.six r.hi r.lo 8)] : List Value).toArray) rfl rfl (heap_alloc_new W1 _) rfl (by kernel_rfl) (by simp [Value.oneCell']) (fun W2 hr2 => ?_) | (go_step; first | refine store_step (vs := ([.int .i64 (wd r.six r.hi r.lo 0), .int .i64 (wd r.six r.hi r.lo 1), .int .i64 (wd r.six r.hi r.lo 2), .int .i64 (wd r.six r.hi r.lo 3), .int .i64 (wd r.six r.hi r.lo 4), .int .i64 (wd r.six r.hi r.lo 5), .int .i64 (wd r.six r.hi r.lo 6), .int .i64 (wd r.six r.hi r.lo 7), .int .i64 (wd r.six r.hi r.lo 8)] : List Value).toArray) rfl rfl (heap_alloc_new W1 _) rfl (by kernel_rfl) (by simp [Value.oneCell']) (fun W2 hr2 => ?_) | (go_step; first | refine store_step (vs := ([.int .i64 (wd r.six r.hi r.lo 0), .int .i64 (wd r.six r.hi r.lo 1), .int .i64 (wd r.six r.hi r.lo 2), .int .i64 (wd r.six r.hi r.lo 3), .int .i64 (wd r.six r.hi r.lo 4), .int .i64 (wd r.six r.hi r.lo 5), .int .i64 (wd r.six r.hi r.lo 6), .int .i64 (wd r.six r.hi r.lo 7), .int .i64 (wd r.six r.hi r.lo 8)] : List Value).toArray) rfl rfl (heap_alloc_new W1 _) rfl (by kernel_rfl) (by simp [Value.oneCell']) (fun W2 hr2 => ?_) | (go_step; refine store_step (vs := ([.int .i64 (wd r.six r.hi r.lo 0), .int .i64 (wd r.six r.hi r.lo 1), .int .i64 (wd r.six r.hi r.lo 2), .int .i64 (wd r.six r.hi r.lo 3), .int .i64 (wd r.six r.hi r.lo 4), .int .i64 (wd r.six r.hi r.lo 5), .int .i64 (wd r.six r.hi r.lo 6), .int .i64 (wd r.six r.hi r.lo 7), .int .i64 (wd r.six r.hi r.lo 8)] : List Value).toArray) rfl rfl (heap_alloc_new W1 _) rfl (by kernel_rfl) (by simp [Value.oneCell']) (fun W2 hr2 => ?_)))))))))))
   have HPI : Hid (PnI w r ns W1.heap.size B0 (e - keyA (fiR r)) sv W2) := Lib.hid ⟨P, fiR r, by have := HRLE.out; omega, by have := HEE.out; omega, HRO.out.f, rfl, rw_same (World.ownsRow.alloc HO1.out _) (fun b hb => hr2.oth b (by have := (HO1.out.lt b hb).2; omega)), HPO.out, HB0.out.symm, hr2.below (HB1.out.alloc HB1.out.size _) HB1.out.size, (hr2.oth ns (by omega)).trans ((heap_alloc_old _ _ hnsl).trans HS1.out), hr2.blk⟩
   have HNA : Hid (ns < W1.heap.size) := Lib.hid hnsl
   clear hr2 hnsl
   obtain ⟨na, hna⟩ : ∃ na, W1.heap.size = na := ⟨_, rfl⟩
   rw [hna] at HPI HNA ⊢
   clear hna HO1 HF1 HS1 HB1 HO
   go_wp2_with fail
   go_loopg [3, 7, 8, 9, 10] (e - keyA (fiR r)) (fun n v3 _ _ _ _ wi => PnI w r ns na B0 n v3 wi)
   case atStart => exact HPI.out
   case round =>
    obtain ⟨P, x, hlt9, hn, hx, hx6, ho, hpo, hpb, hb, h5, h6⟩ := hrel
    have HB := Lib.hid hb
    have HO := Lib.hid ho
    have HPO := Lib.hid hpo
    have HPB := Lib.hid hpb
    have HX := Lib.hid hx
    have H5 := Lib.hid h5
    have H6 := Lib.hid h6
    have HX6 := Lib.hid hx6
    have HN := Lib.hid hn
    have HLT := Lib.hid hlt9
    rw [HEE.out] at HPB HN HLT
    clear hb ho hpo hpb hx hx6 hn h5 h6 hlt9 HPI
    have had := fun W => wideAddr_wd x.six x.hi x.lo W HX.out.1 HX.out.2.1
    go_upto_region 6 with (fail)
    first | refine load_step rfl H6.out (by kernel_rfl) (by kernel_rfl) ?_ | (go_step; first | refine load_step rfl H6.out (by kernel_rfl) (by kernel_rfl) ?_ | (go_step; first | refine load_step rfl H6.out (by kernel_rfl) (by kernel_rfl) ?_ | (go_step; first | refine load_step rfl H6.out (by kernel_rfl) (by kernel_rfl) ?_ | (go_step; first | refine load_step rfl H6.out (by kernel_rfl) (by kernel_rfl) ?_ | (go_step; first | refine load_step rfl H6.out (by kernel_rfl) (by kernel_rfl) ?_ | (go_step; refine load_step rfl H6.out (by kernel_rfl) (by kernel_rfl) ?_))))))
    go_wp2_with fail
    refine (had _).mono ?_
    rintro e' W3 ⟨rfl, hb3⟩
    have HB3 := Lib.hid (HB.out.trans (hb3.mono HB.out.size))
    have HO3 := Lib.hid (own_belowR HO.out hb3 (Nat.le_refl _))
    have H53 := Lib.hid ((hb3.block _ (lt_of_block H5.out)).trans H5.out)
    have H63 := Lib.hid ((hb3.block _ (lt_of_block H6.out)).trans H6.out)
    have HBX := Lib.hid (HB3.out.alloc HB3.out.size (.cells #[.bool x.six, .int .u64 x.hi, .int .u64 x.lo] 30 (0, 0)))
    have HOX := Lib.hid (World.ownsRow.alloc HO3.out (.cells #[.bool x.six, .int .u64 x.hi, .int .u64 x.lo] 30 (0, 0)))
    have H7X := Lib.hid (heap_alloc_new W3 (.cells #[.bool x.six, .int .u64 x.hi, .int .u64 x.lo] 30 (0, 0)))
    have H5X := Lib.hid ((heap_alloc_old W3 (.cells #[.bool x.six, .int .u64 x.hi, .int .u64 x.lo] 30 (0, 0)) (lt_of_block H53.out)).trans H53.out)
    have H6X := Lib.hid ((heap_alloc_old W3 (.cells #[.bool x.six, .int .u64 x.hi, .int .u64 x.lo] 30 (0, 0)) (lt_of_block H63.out)).trans H63.out)
    clear hb3 had H5 H6 HB HO HO3 H53 H63 HB3
    go_upto_region 7 with (fail)
    generalize World.alloc W3 _ = W4 at *
    generalize W3.heap.size = n7 at *
    obtain ⟨x0, x1, x2, -⟩ := res3 H7X.out
    go_wp2_with fail
    refine (refLength_any x.six x.hi x.lo W4).mono ?_
    rintro e' W5 ⟨rfl, hb5⟩
    have HB5 := Lib.hid (HBX.out.trans (hb5.mono HBX.out.size))
    have HO5 := Lib.hid (own_belowR HOX.out hb5 (Nat.le_refl _))
    have H55 := Lib.hid ((hb5.block _ (lt_of_block H5X.out)).trans H5X.out)
    have H65 := Lib.hid ((hb5.block _ (lt_of_block H6X.out)).trans H6X.out)
    have H75 := Lib.hid ((hb5.block _ (lt_of_block H7X.out)).trans H7X.out)
    clear hb5 x0 x1 x2 HBX HOX H5X H6X H7X
    obtain ⟨L0, hL0⟩ : ∃ L0, lenA x.six = L0 := ⟨_, rfl⟩
    have hLN := lenN_A x.six
    have hL8 := lenN_128 x.six
    rw [hL0] at hLN
    have HL0 := Lib.hid hL0
    have HGI : Hid (GrI W5 x e (.int .i64 L0) W5) := Lib.hid ⟨0, by rw [HL0.out]; simp, Nat.zero_le _, Nat.one_dvd _, HLT.out, rfl, Below.refl _ _⟩
    rw [hL0]
    clear hL0
    have hl5 := lt_of_block H55.out
    have hl6 := lt_of_block H65.out
    have hl7 := lt_of_block H75.out
    go_wp2_with fail
    go_loopw [8, 9] (fun v8 _ wi => GrI W5 x e v8 wi) (fun v8 _ _ => (intOf v8).toNat)
    case atStart => exact HGI.out
    case round =>
     obtain ⟨m, hv8, hm, hdv, hle, hgm, hbi⟩ := hrel
     subst hv8
     have HDV := Lib.hid hdv
     have HLE := Lib.hid hle
     have HGM := Lib.hid hgm
     have HBI := Lib.hid hbi
     rw [HL0.out]
     clear hdv hle hgm hbi HGI
     have HAFT : Hid (¬ (m < lenN x.six ∧ 2 ^ (m + 1) ∣ keyA x ∧ keyA x + 2 ^ (m + 1) ≤ e) → bigM (keyA x) e = m) := Lib.hid (fun hno => by
      have hef : e ≤ famE x.six := by
       have h1 := (keyA_lt HRO.out.l).2
       have h2 : (laR r).six = x.six := HRO.out.six.trans HX6.out.symm
       rw [h2] at h1
       have := HEE.out
       omega
      have hst := grow_stop (x := x) hef hm hno
      rw [HGM.out] at hst
      exact hst)
     by_cases hmn : m < lenN x.six
     ·have hd0 : decide (0 < L0 - (m : Int)) = true := by simp; omega
      have hd1 : decide ((m : Int) < L0) = true := by simp; omega
      have hw1 : IntKind.i64.wrap (L0 - (m : Int) - 1) = L0 - ((m : Int) + 1) := by rw [IntWalk.i64_in _ (by omega)]; omega
      have hfo := fun W => firstOf_wd x.six x.hi x.lo (L0 - ((m : Int) + 1)) W HX.out.1 HX.out.2.1 (m + 1) (by rw [HL0.out]; omega) (by omega) (by omega)
      have hlo := fun W => lastOf_wd x.six x.hi x.lo (L0 - ((m : Int) + 1)) W HX.out.1 HX.out.2.1 (m + 1) (by rw [HL0.out]; omega) (by omega) (by omega)
      have hcu := clr_u64 HX.out.1 (m + 1 - 64)
      have hcv := clr_u64 HX.out.2.1 (min 64 (m + 1))
      have hfu := fil_u64 HX.out.1 (m := m + 1 - 64) (by omega)
      have hfv := fil_u64 HX.out.2.1 (m := min 64 (m + 1)) (by omega)
      have hma := mask_al HX.out (m := m + 1) (by omega)
      have hfk := fun h => fill_key HX.out (m := m + 1) (by omega) h
      have hgd := guard_wide
      have hq0 := fun a b W => run_eq_wide (wd x.six a b) (wd x.six x.hi x.lo) W
      have hcm0 := fun a b W ua ub => cmp_wd x.six a b r.six2 r.hi2 r.lo2 W ua ub HRO.out.l.1 HRO.out.l.2.1
      have hkc0 := fun a b (h : fineA ⟨x.six, a, b⟩) => (spanC_key h HRO.out.l).2.2
      generalize clr x.hi (m + 1 - 64) = ch at *
      generalize clr x.lo (min 64 (m + 1)) = cl at *
      generalize fil x.hi (m + 1 - 64) = fh at *
      generalize fil x.lo (min 64 (m + 1)) = fl at *
      obtain ⟨q, hq⟩ : ∃ q, eqN (wd x.six ch cl) (wd x.six x.hi x.lo) = q := ⟨_, rfl⟩
      have hqr := fun W => hq0 ch cl W
      rw [hq] at hqr
      have hcm := fun W => hcm0 fh fl W hfu hfv
      obtain ⟨c2, hc2⟩ : ∃ c2, spanC x.six fh fl r.six2 r.hi2 r.lo2 = c2 := ⟨_, rfl⟩
      rw [hc2] at hcm
      obtain ⟨cb, hcb⟩ : ∃ cb, decide (0 < c2) = cb := ⟨_, rfl⟩
      have HCT : Hid ((!q || cb) = false ↔ 2 ^ (m + 1) ∣ keyA x ∧ keyA x + 2 ^ (m + 1) ≤ e) := Lib.hid (by
       have hq1 : q = true ↔ 2 ^ (m + 1) ∣ keyA x := by
        rw [← hma, ← hq, eqN_wd hcu hcv HX.out.1 HX.out.2.1]
        exact ⟨fun h => h.2, fun h => ⟨rfl, h⟩⟩
       rw [Bool.or_eq_false_iff, Bool.not_eq_false', hq1, ← hcb, decide_eq_false_iff_not]
       constructor
       ·rintro ⟨h1, h2⟩
        obtain ⟨f1, f2⟩ := hfk h1
        have h3 : 0 < c2 ↔ keyA (laR r) < keyA ⟨x.six, fh, fl⟩ := by rw [← hc2]; exact hkc0 fh fl f1
        have := HEE.out
        exact ⟨h1, by omega⟩
       ·rintro ⟨h1, h2⟩
        obtain ⟨f1, f2⟩ := hfk h1
        have h3 : 0 < c2 ↔ keyA (laR r) < keyA ⟨x.six, fh, fl⟩ := by rw [← hc2]; exact hkc0 fh fl f1
        have := HEE.out
        exact ⟨h1, by omega⟩)
      have HCB := Lib.hid hcb
      clear hma hfk hq0 hcm0 hkc0 hq hc2 hcb hcu hcv hfu hfv
      obtain ⟨x0, x1, x2, -⟩ := res3 ((HBI.out.block _ hl7).trans H75.out)
      have hBQ := Lib.hid (HBI.out.alloc HBI.out.size (.cells #[.bool x.six, .int .u64 x.hi, .int .u64 x.lo, .int .i64 (L0 - ((m : Int) + 1))] 48 (0, 0)))
      have hQX := Lib.hid (heap_alloc_new wr (.cells #[.bool x.six, .int .u64 x.hi, .int .u64 x.lo, .int .i64 (L0 - ((m : Int) + 1))] 48 (0, 0)))
      go_upto_region 10 with (fail)
      generalize World.alloc wr _ = W6 at *
      generalize wr.heap.size = nq at *
      have HB6 := hBQ
      have h56 := (HB6.out.block _ hl5).trans H55.out
      have h66 := (HB6.out.block _ hl6).trans H65.out
      have h76 := (HB6.out.block _ hl7).trans H75.out
      have hl56 := lt_of_block h56
      have hl66 := lt_of_block h66
      have hl76 := lt_of_block h76
      have hlq6 := lt_of_block hQX.out
      obtain ⟨x0, x1, x2, -⟩ := res3 h76
      obtain ⟨⟨q0, q1, q2, q3⟩, -⟩ := res4 hQX.out
      have y0 : W6.cell? ⟨na, 0, none⟩ = some (.int .i64 (wd x.six x.hi x.lo 0)) := cell_of h66 0
      have y1 : W6.cell? ⟨na, 1, none⟩ = some (.int .i64 (wd x.six x.hi x.lo 1)) := cell_of h66 1
      have y2 : W6.cell? ⟨na, 2, none⟩ = some (.int .i64 (wd x.six x.hi x.lo 2)) := cell_of h66 2
      have y3 : W6.cell? ⟨na, 3, none⟩ = some (.int .i64 (wd x.six x.hi x.lo 3)) := cell_of h66 3
      have y4 : W6.cell? ⟨na, 4, none⟩ = some (.int .i64 (wd x.six x.hi x.lo 4)) := cell_of h66 4
      have y5 : W6.cell? ⟨na, 5, none⟩ = some (.int .i64 (wd x.six x.hi x.lo 5)) := cell_of h66 5
      have y6 : W6.cell? ⟨na, 6, none⟩ = some (.int .i64 (wd x.six x.hi x.lo 6)) := cell_of h66 6
      have y7 : W6.cell? ⟨na, 7, none⟩ = some (.int .i64 (wd x.six x.hi x.lo 7)) := cell_of h66 7
      have y8 : W6.cell? ⟨na, 8, none⟩ = some (.int .i64 (wd x.six x.hi x.lo 8)) := cell_of h66 8
      have n9 : W6.cell? ⟨ns, 9, none⟩ = some (.int .i64 (wd r.six2 r.hi2 r.lo2 0)) := cell_of h56 9
      have n10 : W6.cell? ⟨ns, 10, none⟩ = some (.int .i64 (wd r.six2 r.hi2 r.lo2 1)) := cell_of h56 10
      have n11 : W6.cell? ⟨ns, 11, none⟩ = some (.int .i64 (wd r.six2 r.hi2 r.lo2 2)) := cell_of h56 11
      have n12 : W6.cell? ⟨ns, 12, none⟩ = some (.int .i64 (wd r.six2 r.hi2 r.lo2 3)) := cell_of h56 12
      have n13 : W6.cell? ⟨ns, 13, none⟩ = some (.int .i64 (wd r.six2 r.hi2 r.lo2 4)) := cell_of h56 13
      have n14 : W6.cell? ⟨ns, 14, none⟩ = some (.int .i64 (wd r.six2 r.hi2 r.lo2 5)) := cell_of h56 14
      have n15 : W6.cell? ⟨ns, 15, none⟩ = some (.int .i64 (wd r.six2 r.hi2 r.lo2 6)) := cell_of h56 15
      have n16 : W6.cell? ⟨ns, 16, none⟩ = some (.int .i64 (wd r.six2 r.hi2 r.lo2 7)) := cell_of h56 16
      have n17 : W6.cell? ⟨ns, 17, none⟩ = some (.int .i64 (wd r.six2 r.hi2 r.lo2 8)) := cell_of h56 17
      go_cut [42] from 29 to 42 (fun v42 wc => v42 = .bool (!q || cb) ∧ Below W6.heap.size W6 wc)
      case first =>
       cases q
       ·skip
        refine wp_region_exact 13 (fun f' => ⟨#[.slice (some ⟨gA, off, none⟩) R.length cap, undef, .slice none 0 0, u3, undef, .pointer (some ⟨ns, 0, none⟩), .pointer (some ⟨na, 0, none⟩), .pointer (some ⟨n7, 0, none⟩), .int .i64 (L0 - ↑m), .pointer (some ⟨nq, 0, none⟩), u10, .slice (some ⟨gA, off, none⟩) R.length cap, .int .i64 R.length, .int .i64 k, .bool true, .pointer (some ⟨gA, off + k * 18, none⟩), .agg (spC r).toArray, .pointer (some ⟨ns, 0, none⟩), .agg #[Value.int IntKind.i64 (wd r.six r.hi r.lo 0), Value.int IntKind.i64 (wd r.six r.hi r.lo 1), Value.int IntKind.i64 (wd r.six r.hi r.lo 2), Value.int IntKind.i64 (wd r.six r.hi r.lo 3), Value.int IntKind.i64 (wd r.six r.hi r.lo 4), Value.int IntKind.i64 (wd r.six r.hi r.lo 5), Value.int IntKind.i64 (wd r.six r.hi r.lo 6), Value.int IntKind.i64 (wd r.six r.hi r.lo 7), Value.int IntKind.i64 (wd r.six r.hi r.lo 8)], .agg #[Value.int IntKind.i64 (wd x.six x.hi x.lo 0), Value.int IntKind.i64 (wd x.six x.hi x.lo 1), Value.int IntKind.i64 (wd x.six x.hi x.lo 2), Value.int IntKind.i64 (wd x.six x.hi x.lo 3), Value.int IntKind.i64 (wd x.six x.hi x.lo 4), Value.int IntKind.i64 (wd x.six x.hi x.lo 5), Value.int IntKind.i64 (wd x.six x.hi x.lo 6), Value.int IntKind.i64 (wd x.six x.hi x.lo 7), Value.int IntKind.i64 (wd x.six x.hi x.lo 8)], .agg #[Value.bool x.six, Value.int IntKind.u64 x.hi, Value.int IntKind.u64 x.lo], .agg #[Value.bool x.six, Value.int IntKind.u64 x.hi, Value.int IntKind.u64 x.lo], .int .i64 L0, .int .i64 (L0 - ↑m), .bool true, .agg #[Value.bool x.six, Value.int IntKind.u64 x.hi, Value.int IntKind.u64 x.lo], .int .i64 (L0 - ↑m), .int .i64 (L0 - (↑m + 1)), .agg #[Value.bool x.six, Value.int IntKind.u64 x.hi, Value.int IntKind.u64 x.lo, Value.int IntKind.i64 (L0 - (↑m + 1))], f' 0, f' 1, f' 2, f' 3, f' 4, f' 5, f' 6, f' 7, f' 8, f' 9, f' 10, f' 11, f' 12, u42, u43, u44, u45, u46, u47, u48, u49, u50, u51, u52, u53, u54, u55, u56, u57, u58, u59, u60, undef], []⟩) (fun i9 => match i9 with | 0 => .agg #[.bool x.six, .int .u64 x.hi, .int .u64 x.lo] | 1 => .int .i64 (L0 - ↑m) | 2 => .int .i64 (L0 - ((m : Int) + 1)) | 3 => .agg #[.int .i64 (wd x.six ch cl 0), .int .i64 (wd x.six ch cl 1), .int .i64 (wd x.six ch cl 2), .int .i64 (wd x.six ch cl 3), .int .i64 (wd x.six ch cl 4), .int .i64 (wd x.six ch cl 5), .int .i64 (wd x.six ch cl 6), .int .i64 (wd x.six ch cl 7), .int .i64 (wd x.six ch cl 8)] | 4 => .agg #[.int .i64 (wd x.six x.hi x.lo 0), .int .i64 (wd x.six x.hi x.lo 1), .int .i64 (wd x.six x.hi x.lo 2), .int .i64 (wd x.six x.hi x.lo 3), .int .i64 (wd x.six x.hi x.lo 4), .int .i64 (wd x.six x.hi x.lo 5), .int .i64 (wd x.six x.hi x.lo 6), .int .i64 (wd x.six x.hi x.lo 7), .int .i64 (wd x.six x.hi x.lo 8)] | 5 => .bool true | 6 => .bool true | 7 => undef | 8 => undef | 9 => undef | 10 => undef | 11 => undef | 12 => undef | _ => undef) (fun lb w' => Hid (Below W6.heap.size W6 w')) (fun i9 => match i9 with | 0 => u29 | 1 => u30 | 2 => u31 | 3 => u32 | 4 => u33 | 5 => u34 | 6 => u35 | 7 => u36 | 8 => u37 | 9 => u38 | 10 => u39 | 11 => u40 | 12 => u41 | _ => undef) 30 (show Tryz.prog.follows .mixedOrders = true from by kernel_rfl) (by kernel_rfl) ?_ ?_ (Lib.hid (Below.refl _ _).drew)
        ·intro i9 op hi9 ho lb f' w' hl hS hd
         have hcase : i9 = 0 ∨ i9 = 1 ∨ i9 = 2 ∨ i9 = 3 ∨ i9 = 4 ∨ i9 = 5 ∨ i9 = 6 ∨ i9 = 7 ∨ i9 = 8 ∨ i9 = 9 ∨ i9 = 10 ∨ i9 = 11 ∨ i9 = 12 := by omega
         rcases hcase with rfl | rfl | rfl | rfl | rfl | rfl | rfl | rfl | rfl | rfl | rfl | rfl | rfl <;> (replace ho := Option.some.inj ho; subst ho)
         ·refine OpStep.of rfl ?_
          have x0' : w'.cell? ⟨n7, 0, none⟩ = some (.bool x.six) := (hS.out.cell (p := ⟨n7, _, none⟩) hl76).trans x0
          have x1' : w'.cell? ⟨n7, 1, none⟩ = some (.int .u64 x.hi) := (hS.out.cell (p := ⟨n7, _, none⟩) hl76).trans x1
          have x2' : w'.cell? ⟨n7, 2, none⟩ = some (.int .u64 x.lo) := (hS.out.cell (p := ⟨n7, _, none⟩) hl76).trans x2
          unfold Oper.wp
          go_simp
          first | exact ⟨by first | (simp [upd]; done) | (simp [upd]; omega), hS⟩ | (simp [upd]; done) | (simp [upd]; omega)
         ·refine OpStep.of rfl ?_
          unfold Oper.wp
          go_simp
          first | exact ⟨by first | (simp [upd]; done) | (simp [upd]; omega), hS⟩ | (simp [upd]; done) | (simp [upd]; omega)
         ·have e1 : f' 1 = .int .i64 (L0 - ↑m) := (hd ⟨1, .data⟩ (by simp) rfl).2
          refine OpStep.of rfl ?_
          unfold Oper.wp
          go_simp
          first | exact ⟨by first | (simp [upd, e1]; done) | (simp [upd, e1]; omega), hS⟩ | (simp [upd, e1]; done) | (simp [upd, e1]; omega)
         ·have e0 : f' 0 = .agg #[.bool x.six, .int .u64 x.hi, .int .u64 x.lo] := (hd ⟨0, .data⟩ (by simp) rfl).2
          have e2 : f' 2 = .int .i64 (L0 - ((m : Int) + 1)) := (hd ⟨2, .data⟩ (by simp) rfl).2
          refine OpStep.of rfl ?_
          unfold Oper.wp
          go_simp
          refine (hfo w').mono ?_
          rintro e w9 ⟨rfl, hb9⟩
          exact ⟨by simp [upd, e0, e2], Lib.hid (hS.out.trans (hb9.mono hS.out.size))⟩
         ·refine OpStep.of rfl ?_
          have y0' : w'.cell? ⟨na, 0, none⟩ = some (.int .i64 (wd x.six x.hi x.lo 0)) := (hS.out.cell (p := ⟨na, _, none⟩) hl66).trans y0
          have y1' : w'.cell? ⟨na, 1, none⟩ = some (.int .i64 (wd x.six x.hi x.lo 1)) := (hS.out.cell (p := ⟨na, _, none⟩) hl66).trans y1
          have y2' : w'.cell? ⟨na, 2, none⟩ = some (.int .i64 (wd x.six x.hi x.lo 2)) := (hS.out.cell (p := ⟨na, _, none⟩) hl66).trans y2
          have y3' : w'.cell? ⟨na, 3, none⟩ = some (.int .i64 (wd x.six x.hi x.lo 3)) := (hS.out.cell (p := ⟨na, _, none⟩) hl66).trans y3
          have y4' : w'.cell? ⟨na, 4, none⟩ = some (.int .i64 (wd x.six x.hi x.lo 4)) := (hS.out.cell (p := ⟨na, _, none⟩) hl66).trans y4
          have y5' : w'.cell? ⟨na, 5, none⟩ = some (.int .i64 (wd x.six x.hi x.lo 5)) := (hS.out.cell (p := ⟨na, _, none⟩) hl66).trans y5
          have y6' : w'.cell? ⟨na, 6, none⟩ = some (.int .i64 (wd x.six x.hi x.lo 6)) := (hS.out.cell (p := ⟨na, _, none⟩) hl66).trans y6
          have y7' : w'.cell? ⟨na, 7, none⟩ = some (.int .i64 (wd x.six x.hi x.lo 7)) := (hS.out.cell (p := ⟨na, _, none⟩) hl66).trans y7
          have y8' : w'.cell? ⟨na, 8, none⟩ = some (.int .i64 (wd x.six x.hi x.lo 8)) := (hS.out.cell (p := ⟨na, _, none⟩) hl66).trans y8
          unfold Oper.wp
          go_simp
          first | exact ⟨by first | (simp [upd]; done) | (simp [upd]; omega), hS⟩ | (simp [upd]; done) | (simp [upd]; omega)
         ·have e3 : f' 3 = .agg #[.int .i64 (wd x.six ch cl 0), .int .i64 (wd x.six ch cl 1), .int .i64 (wd x.six ch cl 2), .int .i64 (wd x.six ch cl 3), .int .i64 (wd x.six ch cl 4), .int .i64 (wd x.six ch cl 5), .int .i64 (wd x.six ch cl 6), .int .i64 (wd x.six ch cl 7), .int .i64 (wd x.six ch cl 8)] := (hd ⟨3, .data⟩ (by simp) rfl).2
          have e4 : f' 4 = .agg #[.int .i64 (wd x.six x.hi x.lo 0), .int .i64 (wd x.six x.hi x.lo 1), .int .i64 (wd x.six x.hi x.lo 2), .int .i64 (wd x.six x.hi x.lo 3), .int .i64 (wd x.six x.hi x.lo 4), .int .i64 (wd x.six x.hi x.lo 5), .int .i64 (wd x.six x.hi x.lo 6), .int .i64 (wd x.six x.hi x.lo 7), .int .i64 (wd x.six x.hi x.lo 8)] := (hd ⟨4, .data⟩ (by simp) rfl).2
          refine OpStep.of rfl ?_
          unfold Oper.wp
          go_simp
          first | exact ⟨by first | (simp [upd, e3, e4]; done) | (simp [upd, e3, e4]; omega), hS⟩ | (simp [upd, e3, e4]; done) | (simp [upd, e3, e4]; omega)
         ·have e5 : f' 5 = .bool true := (hd ⟨5, .data⟩ (by simp) rfl).2
          refine OpStep.of rfl ?_
          unfold Oper.wp
          go_simp
          first | exact ⟨by first | (simp [upd, e5]; done) | (simp [upd, e5]; omega), hS⟩ | (simp [upd, e5]; done) | (simp [upd, e5]; omega)
         ·refine OpStep.not (by have e6 : f' 6 = .bool true := (hd ⟨6, .guard⟩ (by simp) rfl).2; simp [Region.wanted, yielded, e6]) ?_
          exact ⟨rfl, hS⟩
         ·refine OpStep.not (by have e6 : f' 6 = .bool true := (hd ⟨6, .guard⟩ (by simp) rfl).2; simp [Region.wanted, yielded, e6]) ?_
          exact ⟨rfl, hS⟩
         ·refine OpStep.not (by have e6 : f' 6 = .bool true := (hd ⟨6, .guard⟩ (by simp) rfl).2; simp [Region.wanted, yielded, e6]) ?_
          exact ⟨rfl, hS⟩
         ·refine OpStep.not (by have e6 : f' 6 = .bool true := (hd ⟨6, .guard⟩ (by simp) rfl).2; simp [Region.wanted, yielded, e6]) ?_
          exact ⟨rfl, hS⟩
         ·refine OpStep.not (by have e6 : f' 6 = .bool true := (hd ⟨6, .guard⟩ (by simp) rfl).2; simp [Region.wanted, yielded, e6]) ?_
          exact ⟨rfl, hS⟩
         ·refine OpStep.not (by have e6 : f' 6 = .bool true := (hd ⟨6, .guard⟩ (by simp) rfl).2; simp [Region.wanted, yielded, e6]) ?_
          exact ⟨rfl, hS⟩
        ·intro op ho lb f' w' hd hS
         have e6 : f' 6 = .bool true := (hd 6 (by omega)).2
         replace ho := Option.some.inj ho
         subst ho
         refine ⟨rfl, ?_⟩
         unfold Oper.wp
         go_simp
         first | (go_step; go_step; go_meet) | (go_step; go_meet) | go_meet | skip
         exact ⟨rfl, hS.out⟩
       ·skip
        refine wp_region_exact 13 (fun f' => ⟨#[.slice (some ⟨gA, off, none⟩) R.length cap, undef, .slice none 0 0, u3, undef, .pointer (some ⟨ns, 0, none⟩), .pointer (some ⟨na, 0, none⟩), .pointer (some ⟨n7, 0, none⟩), .int .i64 (L0 - ↑m), .pointer (some ⟨nq, 0, none⟩), u10, .slice (some ⟨gA, off, none⟩) R.length cap, .int .i64 R.length, .int .i64 k, .bool true, .pointer (some ⟨gA, off + k * 18, none⟩), .agg (spC r).toArray, .pointer (some ⟨ns, 0, none⟩), .agg #[Value.int IntKind.i64 (wd r.six r.hi r.lo 0), Value.int IntKind.i64 (wd r.six r.hi r.lo 1), Value.int IntKind.i64 (wd r.six r.hi r.lo 2), Value.int IntKind.i64 (wd r.six r.hi r.lo 3), Value.int IntKind.i64 (wd r.six r.hi r.lo 4), Value.int IntKind.i64 (wd r.six r.hi r.lo 5), Value.int IntKind.i64 (wd r.six r.hi r.lo 6), Value.int IntKind.i64 (wd r.six r.hi r.lo 7), Value.int IntKind.i64 (wd r.six r.hi r.lo 8)], .agg #[Value.int IntKind.i64 (wd x.six x.hi x.lo 0), Value.int IntKind.i64 (wd x.six x.hi x.lo 1), Value.int IntKind.i64 (wd x.six x.hi x.lo 2), Value.int IntKind.i64 (wd x.six x.hi x.lo 3), Value.int IntKind.i64 (wd x.six x.hi x.lo 4), Value.int IntKind.i64 (wd x.six x.hi x.lo 5), Value.int IntKind.i64 (wd x.six x.hi x.lo 6), Value.int IntKind.i64 (wd x.six x.hi x.lo 7), Value.int IntKind.i64 (wd x.six x.hi x.lo 8)], .agg #[Value.bool x.six, Value.int IntKind.u64 x.hi, Value.int IntKind.u64 x.lo], .agg #[Value.bool x.six, Value.int IntKind.u64 x.hi, Value.int IntKind.u64 x.lo], .int .i64 L0, .int .i64 (L0 - ↑m), .bool true, .agg #[Value.bool x.six, Value.int IntKind.u64 x.hi, Value.int IntKind.u64 x.lo], .int .i64 (L0 - ↑m), .int .i64 (L0 - (↑m + 1)), .agg #[Value.bool x.six, Value.int IntKind.u64 x.hi, Value.int IntKind.u64 x.lo, Value.int IntKind.i64 (L0 - (↑m + 1))], f' 0, f' 1, f' 2, f' 3, f' 4, f' 5, f' 6, f' 7, f' 8, f' 9, f' 10, f' 11, f' 12, u42, u43, u44, u45, u46, u47, u48, u49, u50, u51, u52, u53, u54, u55, u56, u57, u58, u59, u60, undef], []⟩) (fun i9 => match i9 with | 0 => .agg #[.bool x.six, .int .u64 x.hi, .int .u64 x.lo] | 1 => .int .i64 (L0 - ↑m) | 2 => .int .i64 (L0 - ((m : Int) + 1)) | 3 => .agg #[.int .i64 (wd x.six ch cl 0), .int .i64 (wd x.six ch cl 1), .int .i64 (wd x.six ch cl 2), .int .i64 (wd x.six ch cl 3), .int .i64 (wd x.six ch cl 4), .int .i64 (wd x.six ch cl 5), .int .i64 (wd x.six ch cl 6), .int .i64 (wd x.six ch cl 7), .int .i64 (wd x.six ch cl 8)] | 4 => .agg #[.int .i64 (wd x.six x.hi x.lo 0), .int .i64 (wd x.six x.hi x.lo 1), .int .i64 (wd x.six x.hi x.lo 2), .int .i64 (wd x.six x.hi x.lo 3), .int .i64 (wd x.six x.hi x.lo 4), .int .i64 (wd x.six x.hi x.lo 5), .int .i64 (wd x.six x.hi x.lo 6), .int .i64 (wd x.six x.hi x.lo 7), .int .i64 (wd x.six x.hi x.lo 8)] | 5 => .bool false | 6 => .bool false | 7 => .agg #[.bool x.six, .int .u64 x.hi, .int .u64 x.lo, .int .i64 (L0 - ((m : Int) + 1))] | 8 => .agg #[.int .i64 (wd x.six fh fl 0), .int .i64 (wd x.six fh fl 1), .int .i64 (wd x.six fh fl 2), .int .i64 (wd x.six fh fl 3), .int .i64 (wd x.six fh fl 4), .int .i64 (wd x.six fh fl 5), .int .i64 (wd x.six fh fl 6), .int .i64 (wd x.six fh fl 7), .int .i64 (wd x.six fh fl 8)] | 9 => .pointer (some ⟨ns, 9, none⟩) | 10 => .agg #[.int .i64 (wd r.six2 r.hi2 r.lo2 0), .int .i64 (wd r.six2 r.hi2 r.lo2 1), .int .i64 (wd r.six2 r.hi2 r.lo2 2), .int .i64 (wd r.six2 r.hi2 r.lo2 3), .int .i64 (wd r.six2 r.hi2 r.lo2 4), .int .i64 (wd r.six2 r.hi2 r.lo2 5), .int .i64 (wd r.six2 r.hi2 r.lo2 6), .int .i64 (wd r.six2 r.hi2 r.lo2 7), .int .i64 (wd r.six2 r.hi2 r.lo2 8)] | 11 => .int .i64 c2 | 12 => .bool cb | _ => undef) (fun lb w' => Hid (Below W6.heap.size W6 w')) (fun i9 => match i9 with | 0 => u29 | 1 => u30 | 2 => u31 | 3 => u32 | 4 => u33 | 5 => u34 | 6 => u35 | 7 => u36 | 8 => u37 | 9 => u38 | 10 => u39 | 11 => u40 | 12 => u41 | _ => undef) 30 (show Tryz.prog.follows .mixedOrders = true from by kernel_rfl) (by kernel_rfl) ?_ ?_ (Lib.hid (Below.refl _ _).drew)
        ·intro i9 op hi9 ho lb f' w' hl hS hd
         have hcase : i9 = 0 ∨ i9 = 1 ∨ i9 = 2 ∨ i9 = 3 ∨ i9 = 4 ∨ i9 = 5 ∨ i9 = 6 ∨ i9 = 7 ∨ i9 = 8 ∨ i9 = 9 ∨ i9 = 10 ∨ i9 = 11 ∨ i9 = 12 := by omega
         rcases hcase with rfl | rfl | rfl | rfl | rfl | rfl | rfl | rfl | rfl | rfl | rfl | rfl | rfl <;> (replace ho := Option.some.inj ho; subst ho)
         ·refine OpStep.of rfl ?_
          have x0' : w'.cell? ⟨n7, 0, none⟩ = some (.bool x.six) := (hS.out.cell (p := ⟨n7, _, none⟩) hl76).trans x0
          have x1' : w'.cell? ⟨n7, 1, none⟩ = some (.int .u64 x.hi) := (hS.out.cell (p := ⟨n7, _, none⟩) hl76).trans x1
          have x2' : w'.cell? ⟨n7, 2, none⟩ = some (.int .u64 x.lo) := (hS.out.cell (p := ⟨n7, _, none⟩) hl76).trans x2
          unfold Oper.wp
          go_simp
          first | exact ⟨by first | (simp [upd]; done) | (simp [upd]; omega), hS⟩ | (simp [upd]; done) | (simp [upd]; omega)
         ·refine OpStep.of rfl ?_
          unfold Oper.wp
          go_simp
          first | exact ⟨by first | (simp [upd]; done) | (simp [upd]; omega), hS⟩ | (simp [upd]; done) | (simp [upd]; omega)
         ·have e1 : f' 1 = .int .i64 (L0 - ↑m) := (hd ⟨1, .data⟩ (by simp) rfl).2
          refine OpStep.of rfl ?_
          unfold Oper.wp
          go_simp
          first | exact ⟨by first | (simp [upd, e1]; done) | (simp [upd, e1]; omega), hS⟩ | (simp [upd, e1]; done) | (simp [upd, e1]; omega)
         ·have e0 : f' 0 = .agg #[.bool x.six, .int .u64 x.hi, .int .u64 x.lo] := (hd ⟨0, .data⟩ (by simp) rfl).2
          have e2 : f' 2 = .int .i64 (L0 - ((m : Int) + 1)) := (hd ⟨2, .data⟩ (by simp) rfl).2
          refine OpStep.of rfl ?_
          unfold Oper.wp
          go_simp
          refine (hfo w').mono ?_
          rintro e w9 ⟨rfl, hb9⟩
          exact ⟨by simp [upd, e0, e2], Lib.hid (hS.out.trans (hb9.mono hS.out.size))⟩
         ·refine OpStep.of rfl ?_
          have y0' : w'.cell? ⟨na, 0, none⟩ = some (.int .i64 (wd x.six x.hi x.lo 0)) := (hS.out.cell (p := ⟨na, _, none⟩) hl66).trans y0
          have y1' : w'.cell? ⟨na, 1, none⟩ = some (.int .i64 (wd x.six x.hi x.lo 1)) := (hS.out.cell (p := ⟨na, _, none⟩) hl66).trans y1
          have y2' : w'.cell? ⟨na, 2, none⟩ = some (.int .i64 (wd x.six x.hi x.lo 2)) := (hS.out.cell (p := ⟨na, _, none⟩) hl66).trans y2
          have y3' : w'.cell? ⟨na, 3, none⟩ = some (.int .i64 (wd x.six x.hi x.lo 3)) := (hS.out.cell (p := ⟨na, _, none⟩) hl66).trans y3
          have y4' : w'.cell? ⟨na, 4, none⟩ = some (.int .i64 (wd x.six x.hi x.lo 4)) := (hS.out.cell (p := ⟨na, _, none⟩) hl66).trans y4
          have y5' : w'.cell? ⟨na, 5, none⟩ = some (.int .i64 (wd x.six x.hi x.lo 5)) := (hS.out.cell (p := ⟨na, _, none⟩) hl66).trans y5
          have y6' : w'.cell? ⟨na, 6, none⟩ = some (.int .i64 (wd x.six x.hi x.lo 6)) := (hS.out.cell (p := ⟨na, _, none⟩) hl66).trans y6
          have y7' : w'.cell? ⟨na, 7, none⟩ = some (.int .i64 (wd x.six x.hi x.lo 7)) := (hS.out.cell (p := ⟨na, _, none⟩) hl66).trans y7
          have y8' : w'.cell? ⟨na, 8, none⟩ = some (.int .i64 (wd x.six x.hi x.lo 8)) := (hS.out.cell (p := ⟨na, _, none⟩) hl66).trans y8
          unfold Oper.wp
          go_simp
          first | exact ⟨by first | (simp [upd]; done) | (simp [upd]; omega), hS⟩ | (simp [upd]; done) | (simp [upd]; omega)
         ·have e3 : f' 3 = .agg #[.int .i64 (wd x.six ch cl 0), .int .i64 (wd x.six ch cl 1), .int .i64 (wd x.six ch cl 2), .int .i64 (wd x.six ch cl 3), .int .i64 (wd x.six ch cl 4), .int .i64 (wd x.six ch cl 5), .int .i64 (wd x.six ch cl 6), .int .i64 (wd x.six ch cl 7), .int .i64 (wd x.six ch cl 8)] := (hd ⟨3, .data⟩ (by simp) rfl).2
          have e4 : f' 4 = .agg #[.int .i64 (wd x.six x.hi x.lo 0), .int .i64 (wd x.six x.hi x.lo 1), .int .i64 (wd x.six x.hi x.lo 2), .int .i64 (wd x.six x.hi x.lo 3), .int .i64 (wd x.six x.hi x.lo 4), .int .i64 (wd x.six x.hi x.lo 5), .int .i64 (wd x.six x.hi x.lo 6), .int .i64 (wd x.six x.hi x.lo 7), .int .i64 (wd x.six x.hi x.lo 8)] := (hd ⟨4, .data⟩ (by simp) rfl).2
          refine OpStep.of rfl ?_
          unfold Oper.wp
          go_simp
          first | exact ⟨by first | (simp [upd, e3, e4]; done) | (simp [upd, e3, e4]; omega), hS⟩ | (simp [upd, e3, e4]; done) | (simp [upd, e3, e4]; omega)
         ·have e5 : f' 5 = .bool false := (hd ⟨5, .data⟩ (by simp) rfl).2
          refine OpStep.of rfl ?_
          unfold Oper.wp
          go_simp
          first | exact ⟨by first | (simp [upd, e5]; done) | (simp [upd, e5]; omega), hS⟩ | (simp [upd, e5]; done) | (simp [upd, e5]; omega)
         ·refine OpStep.of (by have e6 : f' 6 = .bool false := (hd ⟨6, .guard⟩ (by simp) rfl).2; simp [Region.wanted, yielded, e6]) ?_
          have q0' : w'.cell? ⟨nq, 0, none⟩ = some (.bool x.six) := (hS.out.cell (p := ⟨nq, _, none⟩) hlq6).trans q0
          have q1' : w'.cell? ⟨nq, 1, none⟩ = some (.int .u64 x.hi) := (hS.out.cell (p := ⟨nq, _, none⟩) hlq6).trans q1
          have q2' : w'.cell? ⟨nq, 2, none⟩ = some (.int .u64 x.lo) := (hS.out.cell (p := ⟨nq, _, none⟩) hlq6).trans q2
          have q3' : w'.cell? ⟨nq, 3, none⟩ = some (.int .i64 (L0 - ((m : Int) + 1))) := (hS.out.cell (p := ⟨nq, _, none⟩) hlq6).trans q3
          unfold Oper.wp
          go_simp
          first | exact ⟨by first | (simp [upd]; done) | (simp [upd]; omega), hS⟩ | (simp [upd]; done) | (simp [upd]; omega)
         ·have e7 : f' 7 = .agg #[.bool x.six, .int .u64 x.hi, .int .u64 x.lo, .int .i64 (L0 - ((m : Int) + 1))] := (hd ⟨7, .data⟩ (by simp) rfl).2
          refine OpStep.of (by have e6 : f' 6 = .bool false := (hd ⟨6, .guard⟩ (by simp) rfl).2; simp [Region.wanted, yielded, e6]) ?_
          unfold Oper.wp
          go_simp
          refine (hlo w').mono ?_
          rintro e w9 ⟨rfl, hb9⟩
          exact ⟨by simp [upd, e7], Lib.hid (hS.out.trans (hb9.mono hS.out.size))⟩
         ·refine OpStep.of (by have e6 : f' 6 = .bool false := (hd ⟨6, .guard⟩ (by simp) rfl).2; simp [Region.wanted, yielded, e6]) ?_
          unfold Oper.wp
          go_simp
          first | exact ⟨by first | (simp [upd]; done) | (simp [upd]; omega), hS⟩ | (simp [upd]; done) | (simp [upd]; omega)
         ·have e9 : f' 9 = .pointer (some ⟨ns, 9, none⟩) := (hd ⟨9, .data⟩ (by simp) rfl).2
          refine OpStep.of (by have e6 : f' 6 = .bool false := (hd ⟨6, .guard⟩ (by simp) rfl).2; simp [Region.wanted, yielded, e6]) ?_
          have n9' : w'.cell? ⟨ns, 9, none⟩ = some (.int .i64 (wd r.six2 r.hi2 r.lo2 0)) := (hS.out.cell (p := ⟨ns, _, none⟩) hl56).trans n9
          have n10' : w'.cell? ⟨ns, 10, none⟩ = some (.int .i64 (wd r.six2 r.hi2 r.lo2 1)) := (hS.out.cell (p := ⟨ns, _, none⟩) hl56).trans n10
          have n11' : w'.cell? ⟨ns, 11, none⟩ = some (.int .i64 (wd r.six2 r.hi2 r.lo2 2)) := (hS.out.cell (p := ⟨ns, _, none⟩) hl56).trans n11
          have n12' : w'.cell? ⟨ns, 12, none⟩ = some (.int .i64 (wd r.six2 r.hi2 r.lo2 3)) := (hS.out.cell (p := ⟨ns, _, none⟩) hl56).trans n12
          have n13' : w'.cell? ⟨ns, 13, none⟩ = some (.int .i64 (wd r.six2 r.hi2 r.lo2 4)) := (hS.out.cell (p := ⟨ns, _, none⟩) hl56).trans n13
          have n14' : w'.cell? ⟨ns, 14, none⟩ = some (.int .i64 (wd r.six2 r.hi2 r.lo2 5)) := (hS.out.cell (p := ⟨ns, _, none⟩) hl56).trans n14
          have n15' : w'.cell? ⟨ns, 15, none⟩ = some (.int .i64 (wd r.six2 r.hi2 r.lo2 6)) := (hS.out.cell (p := ⟨ns, _, none⟩) hl56).trans n15
          have n16' : w'.cell? ⟨ns, 16, none⟩ = some (.int .i64 (wd r.six2 r.hi2 r.lo2 7)) := (hS.out.cell (p := ⟨ns, _, none⟩) hl56).trans n16
          have n17' : w'.cell? ⟨ns, 17, none⟩ = some (.int .i64 (wd r.six2 r.hi2 r.lo2 8)) := (hS.out.cell (p := ⟨ns, _, none⟩) hl56).trans n17
          unfold Oper.wp
          go_simp
          first | exact ⟨by first | (simp [upd, e9]; done) | (simp [upd, e9]; omega), hS⟩ | (simp [upd, e9]; done) | (simp [upd, e9]; omega)
         ·have e8 : f' 8 = .agg #[.int .i64 (wd x.six fh fl 0), .int .i64 (wd x.six fh fl 1), .int .i64 (wd x.six fh fl 2), .int .i64 (wd x.six fh fl 3), .int .i64 (wd x.six fh fl 4), .int .i64 (wd x.six fh fl 5), .int .i64 (wd x.six fh fl 6), .int .i64 (wd x.six fh fl 7), .int .i64 (wd x.six fh fl 8)] := (hd ⟨8, .data⟩ (by simp) rfl).2
          have e10 : f' 10 = .agg #[.int .i64 (wd r.six2 r.hi2 r.lo2 0), .int .i64 (wd r.six2 r.hi2 r.lo2 1), .int .i64 (wd r.six2 r.hi2 r.lo2 2), .int .i64 (wd r.six2 r.hi2 r.lo2 3), .int .i64 (wd r.six2 r.hi2 r.lo2 4), .int .i64 (wd r.six2 r.hi2 r.lo2 5), .int .i64 (wd r.six2 r.hi2 r.lo2 6), .int .i64 (wd r.six2 r.hi2 r.lo2 7), .int .i64 (wd r.six2 r.hi2 r.lo2 8)] := (hd ⟨10, .data⟩ (by simp) rfl).2
          refine OpStep.of (by have e6 : f' 6 = .bool false := (hd ⟨6, .guard⟩ (by simp) rfl).2; simp [Region.wanted, yielded, e6]) ?_
          unfold Oper.wp
          go_simp
          refine (hcm w').mono ?_
          rintro e w9 ⟨rfl, hb9⟩
          exact ⟨by simp [upd, e8, e10], Lib.hid (hS.out.trans (hb9.mono hS.out.size))⟩
         ·have e11 : f' 11 = .int .i64 c2 := (hd ⟨11, .data⟩ (by simp) rfl).2
          refine OpStep.of (by have e6 : f' 6 = .bool false := (hd ⟨6, .guard⟩ (by simp) rfl).2; simp [Region.wanted, yielded, e6]) ?_
          unfold Oper.wp
          go_simp
          first | exact ⟨by first | (simp [upd, e11, HCB.out]; done) | (simp [upd, e11, HCB.out]; omega), hS⟩ | (simp [upd, e11, HCB.out]; done) | (simp [upd, e11, HCB.out]; omega)
        ·intro op ho lb f' w' hd hS
         have e6 : f' 6 = .bool false := (hd 6 (by omega)).2
         have e12 : f' 12 = .bool cb := (hd 12 (by omega)).2
         replace ho := Option.some.inj ho
         subst ho
         refine ⟨rfl, ?_⟩
         unfold Oper.wp
         go_simp
         first | (go_step; go_step; go_meet) | (go_step; go_meet) | go_meet | skip
         exact ⟨rfl, hS.out⟩
      case rest =>
      obtain ⟨rfl, hbc⟩ := hcut
      obtain ⟨wr, rfl⟩ : ∃ wr : World, wr = wc := ⟨_, rfl⟩
      have HBI := Lib.hid (HB6.out.trans (hbc.mono HB6.out.size))
      obtain ⟨st, hst⟩ : ∃ st, (!q || cb) = st := ⟨_, rfl⟩
      rw [hst] at HCT ⊢
      clear hbc y0 y1 y2 y3 y4 y5 y6 y7 y8 n9 n10 n11 n12 n13 n14 n15 n16 n17 q0 q1 q2 q3 x0 x1 x2 h56 h66 h76 hl56 hl66 hl76 hlq6 hBQ hQX HB6 hfo hlo hcm hqr hgd HCB hst
      cases st
      ·have hcc := HCT.out.1 rfl
       have HG : Hid (GrI W5 x e (.int .i64 (L0 - ((m : Int) + 1))) wr) := Lib.hid ⟨m + 1, by rw [HL0.out]; simp, by omega, hcc.1, hcc.2, by rw [← grow_go (by omega) ⟨hmn, hcc⟩]; exact HGM.out, HBI.out⟩
       clear hcc
       go_wp2_with fail
       go_roundw
       case rel => exact HG.out
       case measure => simp [intOf]; omega
      ·have HM := Lib.hid (HAFT.out (fun h => by have := HCT.out.2 h.2; cases this))
       clear HCT
       have hfk := fill_key HX.out hm HDV.out
       have hlo := fun W => lastOf_wd x.six x.hi x.lo (L0 - (m : Int)) W HX.out.1 HX.out.2.1 m (by rw [HL0.out]; omega) (by omega) (by omega)
       have hfu := fil_u64 HX.out.1 (m := m - 64) (by omega)
       have hfv := fil_u64 HX.out.2.1 (m := min 64 m) (by omega)
       have hro := right_of HX.out hm HDV.out
       rw [HL0.out] at hro
       have HPO4 : Hid (∀ p ∈ P ++ [(⟨x.six, x.hi, x.lo, L0 - (m : Int)⟩ : Pf)], okP p) := Lib.hid (fun p hp => (List.mem_append.1 hp).elim (HPO.out p) (fun h => by simp at h; rw [h]; exact hro))
       have HPG : Hid ((P ++ [(⟨x.six, x.hi, x.lo, L0 - (m : Int)⟩ : Pf)]).map bkP ++ preG (keyA x + 2 ^ m) e = B0) := Lib.hid (by
        rw [← HPB.out, ← HL0.out, List.map_append, List.append_assoc]
        congr 1
        show bkP ⟨x.six, x.hi, x.lo, lenA x.six - m⟩ :: preG (keyA x + 2 ^ m) e = preG (keyA x) e
        rw [bk_new, preG_some HLT.out, HM.out])
       have HPN : Hid (P.length + 1 ≤ 1000000) := Lib.hid (by
        have h1 := congrArg List.length HPG.out
        rw [List.length_append, List.length_map, List.length_append] at h1
        have := HPL.out
        simp only [List.length_cons, List.length_nil] at h1
        omega)
       have hq0 := fun a b W => run_eq_wide (wd x.six a b) (wd r.six2 r.hi2 r.lo2) W
       have hpn := fun a b W (h1 : AddrFine x.six a b) h2 => plus_next x.six a b W h1 h2
       generalize fil x.hi (m - 64) = fh at *
       generalize fil x.lo (min 64 m) = fl at *
       have HFK := Lib.hid hfk
       obtain ⟨q, hq⟩ : ∃ q, eqN (wd x.six fh fl) (wd r.six2 r.hi2 r.lo2) = q := ⟨_, rfl⟩
       have hqr := fun W => hq0 fh fl W
       rw [hq] at hqr
       have hgd := guard_wide
       have HQE : Hid (q = true ↔ keyA x + 2 ^ m = e) := Lib.hid (by
        have u1 : U64 r.hi2 := HRO.out.l.1
        have u2 : U64 r.lo2 := HRO.out.l.2.1
        rw [← hq, eqN_wd hfu hfv u1 u2]
        have h1 := hfk.2
        have h2 := HEE.out
        constructor
        ·rintro ⟨a1, a2, a3⟩
         have : keyA ⟨x.six, fh, fl⟩ = keyA (laR r) := by
          show keyA ⟨x.six, fh, fl⟩ = keyA ⟨r.six2, r.hi2, r.lo2⟩
          rw [a1, a2, a3]
         omega
        ·intro h9
         have := keyA_inj (x := ⟨x.six, fh, fl⟩) (y := laR r) hfk.1 HRO.out.l (by omega)
         simp only [laR, Ad.mk.injEq] at this
         exact this)
       have HEND : Hid (q = false → endA x.six fh fl = false) := Lib.hid (fun hqf => by
        have h1 := end_key hfk.1
        have h3 := (keyA_lt HRO.out.l).2
        have h4 : (laR r).six = x.six := HRO.out.six.trans HX6.out.symm
        rw [h4] at h3
        have h5 : endA x.six fh fl = decide (keyA ⟨x.six, fh, fl⟩ + 1 = famE x.six) := h1
        rw [h5]
        refine decide_eq_false fun h6 => ?_
        have h7 := hfk.2
        have h8 := bigM_law HLT.out
        rw [HM.out] at h8
        have h9 : ¬ keyA x + 2 ^ m = e := fun h => by have := HQE.out.2 h; rw [hqf] at this; cases this
        have h10 := HEE.out
        omega)
       have HLE9 : Hid (keyA x + 2 ^ m ≤ e) := Lib.hid (by have h8 := bigM_law HLT.out; rw [HM.out] at h8; exact h8.2.1)
       clear hfk hro hq hq0 hfu hfv
       have HB7 := Lib.hid (HB5.out.trans (HBI.out.mono HB5.out.size))
       have HO7 := Lib.hid (own_belowR HO5.out HBI.out (Nat.le_refl _))
       have H57 := Lib.hid ((HBI.out.block _ hl5).trans H55.out)
       have H67 := Lib.hid ((HBI.out.block _ hl6).trans H65.out)
       have H77 := Lib.hid ((HBI.out.block _ hl7).trans H75.out)
       obtain ⟨x0, x1, x2, -⟩ := res3 H77.out
       have HBP := Lib.hid (HB7.out.alloc HB7.out.size (.cells #[.bool x.six, .int .u64 x.hi, .int .u64 x.lo, .int .i64 (L0 - (m : Int))] 48 (0, 0)))
       have HOP : Hid (World.ownsRow (wr.alloc (.cells #[.bool x.six, .int .u64 x.hi, .int .u64 x.lo, .int .i64 (L0 - (m : Int))] 48 (0, 0))) w.heap.size 48 4 u3 P.length (rwC pxC P)) := Lib.hid (World.ownsRow.alloc HO7.out _)
       have HPX := Lib.hid (heap_alloc_new wr (.cells #[.bool x.six, .int .u64 x.hi, .int .u64 x.lo, .int .i64 (L0 - (m : Int))] 48 (0, 0)))
       have H5P := Lib.hid ((heap_alloc_old wr (.cells #[.bool x.six, .int .u64 x.hi, .int .u64 x.lo, .int .i64 (L0 - (m : Int))] 48 (0, 0)) (lt_of_block H57.out)).trans H57.out)
       have H6P := Lib.hid ((heap_alloc_old wr (.cells #[.bool x.six, .int .u64 x.hi, .int .u64 x.lo, .int .i64 (L0 - (m : Int))] 48 (0, 0)) (lt_of_block H67.out)).trans H67.out)
       have HAPP : Hid (∀ b, u3.ownBlock = some b → b < wr.heap.size) := Lib.hid (fun b hb => (HO7.out.lt b hb).2)
       clear H57 H67 H77 HO7 HB7 H55 H65 H75 HB5 HO5 HBI hl5 hl6 hl7 HGM HLE HAFT
       go_upto_region 13 with (fail)
       generalize World.alloc wr _ = W7 at *
       generalize wr.heap.size = np at *
       have HAP5 := Lib.hid (own_apart HOP.out H5P.out (by decide))
       have HAP6 := Lib.hid (own_apart HOP.out H6P.out (by decide))
       have hl5P := lt_of_block H5P.out
       have hl6P := lt_of_block H6P.out
       have hlPP := lt_of_block HPX.out
       obtain ⟨⟨p0, p1, p2, p3⟩, -⟩ := res4 HPX.out
       go_wp2_with (at_builtin; refine wpList_append_own _ rfl (.tmp 48) (.tmp 50) 26 rfl w.heap.size 48 i0 (.agg #[.bool false, .int .u64 0, .int .u64 0, .int .i64 0]) 4 32 Tryz.underlying26 hi0 hz0 hz1 hz2 rfl (by decide) _ _ _ rfl (World.ownsRow.alloc HOP.out _) ⟨W7.heap.size, 0, none⟩ 1 1 [.bool x.six, .int .u64 x.hi, .int .u64 x.lo, .int .i64 (L0 - (m : Int))] rfl rfl (cells_new W7 [.bool x.six, .int .u64 x.hi, .int .u64 x.lo, .int .i64 (L0 - (m : Int))] _) (by simp [Value.oneCell']) (by have := HPN.out; unfold maxLen; first | omega | (simp; omega)) (by have := HPN.out; first | omega | (simp; omega)) (by have := HBP.out.size; first | omega | (simp; omega) | simp) ?_)
       intro v8 w8 ho8 hg8 _
       have hoA := World.ownsRow.alloc HOP.out (.cells #[.bool x.six, .int .u64 x.hi, .int .u64 x.lo, .int .i64 (L0 - (m : Int))] 48 (0, 0))
       have hbA := HBP.out.alloc HBP.out.size (.cells #[.bool x.six, .int .u64 x.hi, .int .u64 x.lo, .int .i64 (L0 - (m : Int))] 48 (0, 0))
       have HB8 : Hid (Below w.heap.size w w8) := Lib.hid (hbA.grown hg8 hbA.size (fun j hj => (hoA.lt j hj).1))
       have HO8 : Hid (w8.ownsRow w.heap.size 48 4 v8 (P ++ [(⟨x.six, x.hi, x.lo, L0 - (m : Int)⟩ : Pf)]).length (rwC pxC (P ++ [(⟨x.six, x.hi, x.lo, L0 - (m : Int)⟩ : Pf)]))) := Lib.hid (own_asT ho8 (by simp) (by simp [rwC, pxC]))
       have H58 := Lib.hid ((hg8.block ns (by simp; omega) (fun h => HAP5.out ns h.symm rfl)).trans ((heap_alloc_old _ _ hl5P).trans H5P.out))
       have H68 := Lib.hid ((hg8.block na (by simp; omega) (fun h => HAP6.out _ h.symm rfl)).trans ((heap_alloc_old _ _ hl6P).trans H6P.out))
       have HP8 := Lib.hid ((hg8.block np (by simp; omega) (fun h => by have := HAPP.out _ h.symm; omega)).trans ((heap_alloc_old _ _ hlPP).trans HPX.out))
       clear ho8 hg8 hoA hbA H5P H6P HOP HBP HPX HAP5 HAP6 HAPP hl5P hl6P hlPP p0 p1 p2 p3
       go_upto_region 14 with (fail)
       obtain ⟨⟨p0, p1, p2, p3⟩, -⟩ := res4 HP8.out
       have hl58 := lt_of_block H58.out
       have hlp8 := lt_of_block HP8.out
       have n9 : w8.cell? ⟨ns, 9, none⟩ = some (.int .i64 (wd r.six2 r.hi2 r.lo2 0)) := cell_of H58.out 9
       have n10 : w8.cell? ⟨ns, 10, none⟩ = some (.int .i64 (wd r.six2 r.hi2 r.lo2 1)) := cell_of H58.out 10
       have n11 : w8.cell? ⟨ns, 11, none⟩ = some (.int .i64 (wd r.six2 r.hi2 r.lo2 2)) := cell_of H58.out 11
       have n12 : w8.cell? ⟨ns, 12, none⟩ = some (.int .i64 (wd r.six2 r.hi2 r.lo2 3)) := cell_of H58.out 12
       have n13 : w8.cell? ⟨ns, 13, none⟩ = some (.int .i64 (wd r.six2 r.hi2 r.lo2 4)) := cell_of H58.out 13
       have n14 : w8.cell? ⟨ns, 14, none⟩ = some (.int .i64 (wd r.six2 r.hi2 r.lo2 5)) := cell_of H58.out 14
       have n15 : w8.cell? ⟨ns, 15, none⟩ = some (.int .i64 (wd r.six2 r.hi2 r.lo2 6)) := cell_of H58.out 15
       have n16 : w8.cell? ⟨ns, 16, none⟩ = some (.int .i64 (wd r.six2 r.hi2 r.lo2 7)) := cell_of H58.out 16
       have n17 : w8.cell? ⟨ns, 17, none⟩ = some (.int .i64 (wd r.six2 r.hi2 r.lo2 8)) := cell_of H58.out 17
       go_cut [56] from 52 to 56 (fun v56 wc => v56 = .bool q ∧ Below w8.heap.size w8 wc)
       case first =>
        refine wp_region_exact 4 (fun f' => ⟨#[.slice (some ⟨gA, off, none⟩) R.length cap, undef, .slice none 0 0, v8, undef, .pointer (some ⟨ns, 0, none⟩), .pointer (some ⟨na, 0, none⟩), .pointer (some ⟨n7, 0, none⟩), .int .i64 (L0 - ↑m), .pointer (some ⟨nq, 0, none⟩), .pointer (some ⟨np, 0, none⟩), .slice (some ⟨gA, off, none⟩) R.length cap, .int .i64 R.length, .int .i64 k, .bool true, .pointer (some ⟨gA, off + k * 18, none⟩), .agg (spC r).toArray, .pointer (some ⟨ns, 0, none⟩), .agg #[Value.int IntKind.i64 (wd r.six r.hi r.lo 0), Value.int IntKind.i64 (wd r.six r.hi r.lo 1), Value.int IntKind.i64 (wd r.six r.hi r.lo 2), Value.int IntKind.i64 (wd r.six r.hi r.lo 3), Value.int IntKind.i64 (wd r.six r.hi r.lo 4), Value.int IntKind.i64 (wd r.six r.hi r.lo 5), Value.int IntKind.i64 (wd r.six r.hi r.lo 6), Value.int IntKind.i64 (wd r.six r.hi r.lo 7), Value.int IntKind.i64 (wd r.six r.hi r.lo 8)], .agg #[Value.int IntKind.i64 (wd x.six x.hi x.lo 0), Value.int IntKind.i64 (wd x.six x.hi x.lo 1), Value.int IntKind.i64 (wd x.six x.hi x.lo 2), Value.int IntKind.i64 (wd x.six x.hi x.lo 3), Value.int IntKind.i64 (wd x.six x.hi x.lo 4), Value.int IntKind.i64 (wd x.six x.hi x.lo 5), Value.int IntKind.i64 (wd x.six x.hi x.lo 6), Value.int IntKind.i64 (wd x.six x.hi x.lo 7), Value.int IntKind.i64 (wd x.six x.hi x.lo 8)], .agg #[Value.bool x.six, Value.int IntKind.u64 x.hi, Value.int IntKind.u64 x.lo], .agg #[Value.bool x.six, Value.int IntKind.u64 x.hi, Value.int IntKind.u64 x.lo], .int .i64 L0, .int .i64 (L0 - ↑m), .bool true, .agg #[Value.bool x.six, Value.int IntKind.u64 x.hi, Value.int IntKind.u64 x.lo], .int .i64 (L0 - ↑m), .int .i64 (L0 - (↑m + 1)), .agg #[Value.bool x.six, Value.int IntKind.u64 x.hi, Value.int IntKind.u64 x.lo, Value.int IntKind.i64 (L0 - (↑m + 1))], u29, u30, u31, u32, u33, u34, u35, u36, u37, u38, u39, u40, u41, .bool true, u43, u44, .agg #[Value.bool x.six, Value.int IntKind.u64 x.hi, Value.int IntKind.u64 x.lo], .int .i64 (L0 - ↑m), .agg #[Value.bool x.six, Value.int IntKind.u64 x.hi, Value.int IntKind.u64 x.lo, Value.int IntKind.i64 (L0 - ↑m)], u3, .agg #[Value.bool x.six, Value.int IntKind.u64 x.hi, Value.int IntKind.u64 x.lo, Value.int IntKind.i64 (L0 - ↑m)], .slice (some ⟨W7.heap.size, 0, none⟩) 1 1, v8, f' 0, f' 1, f' 2, f' 3, u56, u57, u58, u59, u60, undef], []⟩) (fun i9 => match i9 with | 0 => .agg #[.bool x.six, .int .u64 x.hi, .int .u64 x.lo, .int .i64 (L0 - (m : Int))] | 1 => .agg #[.int .i64 (wd x.six fh fl 0), .int .i64 (wd x.six fh fl 1), .int .i64 (wd x.six fh fl 2), .int .i64 (wd x.six fh fl 3), .int .i64 (wd x.six fh fl 4), .int .i64 (wd x.six fh fl 5), .int .i64 (wd x.six fh fl 6), .int .i64 (wd x.six fh fl 7), .int .i64 (wd x.six fh fl 8)] | 2 => .pointer (some ⟨ns, 9, none⟩) | 3 => .agg #[.int .i64 (wd r.six2 r.hi2 r.lo2 0), .int .i64 (wd r.six2 r.hi2 r.lo2 1), .int .i64 (wd r.six2 r.hi2 r.lo2 2), .int .i64 (wd r.six2 r.hi2 r.lo2 3), .int .i64 (wd r.six2 r.hi2 r.lo2 4), .int .i64 (wd r.six2 r.hi2 r.lo2 5), .int .i64 (wd r.six2 r.hi2 r.lo2 6), .int .i64 (wd r.six2 r.hi2 r.lo2 7), .int .i64 (wd r.six2 r.hi2 r.lo2 8)] | _ => undef) (fun lb w' => Hid (Below w8.heap.size w8 w')) (fun i9 => match i9 with | 0 => u52 | 1 => u53 | 2 => u54 | 3 => u55 | _ => undef) 30 (show Tryz.prog.follows .mixedOrders = true from by kernel_rfl) (by kernel_rfl) ?_ ?_ (Lib.hid (Below.refl _ _).drew)
        ·intro i9 op hi9 ho lb f' w' hl hS hd
         have hcase : i9 = 0 ∨ i9 = 1 ∨ i9 = 2 ∨ i9 = 3 := by omega
         rcases hcase with rfl | rfl | rfl | rfl <;> (replace ho := Option.some.inj ho; subst ho)
         ·refine OpStep.of rfl ?_
          have p0' : w'.cell? ⟨np, 0, none⟩ = some (.bool x.six) := (hS.out.cell (p := ⟨np, _, none⟩) hlp8).trans p0
          have p1' : w'.cell? ⟨np, 1, none⟩ = some (.int .u64 x.hi) := (hS.out.cell (p := ⟨np, _, none⟩) hlp8).trans p1
          have p2' : w'.cell? ⟨np, 2, none⟩ = some (.int .u64 x.lo) := (hS.out.cell (p := ⟨np, _, none⟩) hlp8).trans p2
          have p3' : w'.cell? ⟨np, 3, none⟩ = some (.int .i64 (L0 - (m : Int))) := (hS.out.cell (p := ⟨np, _, none⟩) hlp8).trans p3
          unfold Oper.wp
          go_simp
          first | exact ⟨by first | (simp [upd]; done) | (simp [upd]; omega), hS⟩ | (simp [upd]; done) | (simp [upd]; omega)
         ·have e0 : f' 0 = .agg #[.bool x.six, .int .u64 x.hi, .int .u64 x.lo, .int .i64 (L0 - (m : Int))] := (hd ⟨0, .data⟩ (by simp) rfl).2
          refine OpStep.of rfl ?_
          unfold Oper.wp
          go_simp
          refine (hlo w').mono ?_
          rintro e w9 ⟨rfl, hb9⟩
          exact ⟨by simp [upd, e0], Lib.hid (hS.out.trans (hb9.mono hS.out.size))⟩
         ·refine OpStep.of rfl ?_
          unfold Oper.wp
          go_simp
          first | exact ⟨by first | (simp [upd]; done) | (simp [upd]; omega), hS⟩ | (simp [upd]; done) | (simp [upd]; omega)
         ·have e2 : f' 2 = .pointer (some ⟨ns, 9, none⟩) := (hd ⟨2, .data⟩ (by simp) rfl).2
          refine OpStep.of rfl ?_
          have n9' : w'.cell? ⟨ns, 9, none⟩ = some (.int .i64 (wd r.six2 r.hi2 r.lo2 0)) := (hS.out.cell (p := ⟨ns, _, none⟩) hl58).trans n9
          have n10' : w'.cell? ⟨ns, 10, none⟩ = some (.int .i64 (wd r.six2 r.hi2 r.lo2 1)) := (hS.out.cell (p := ⟨ns, _, none⟩) hl58).trans n10
          have n11' : w'.cell? ⟨ns, 11, none⟩ = some (.int .i64 (wd r.six2 r.hi2 r.lo2 2)) := (hS.out.cell (p := ⟨ns, _, none⟩) hl58).trans n11
          have n12' : w'.cell? ⟨ns, 12, none⟩ = some (.int .i64 (wd r.six2 r.hi2 r.lo2 3)) := (hS.out.cell (p := ⟨ns, _, none⟩) hl58).trans n12
          have n13' : w'.cell? ⟨ns, 13, none⟩ = some (.int .i64 (wd r.six2 r.hi2 r.lo2 4)) := (hS.out.cell (p := ⟨ns, _, none⟩) hl58).trans n13
          have n14' : w'.cell? ⟨ns, 14, none⟩ = some (.int .i64 (wd r.six2 r.hi2 r.lo2 5)) := (hS.out.cell (p := ⟨ns, _, none⟩) hl58).trans n14
          have n15' : w'.cell? ⟨ns, 15, none⟩ = some (.int .i64 (wd r.six2 r.hi2 r.lo2 6)) := (hS.out.cell (p := ⟨ns, _, none⟩) hl58).trans n15
          have n16' : w'.cell? ⟨ns, 16, none⟩ = some (.int .i64 (wd r.six2 r.hi2 r.lo2 7)) := (hS.out.cell (p := ⟨ns, _, none⟩) hl58).trans n16
          have n17' : w'.cell? ⟨ns, 17, none⟩ = some (.int .i64 (wd r.six2 r.hi2 r.lo2 8)) := (hS.out.cell (p := ⟨ns, _, none⟩) hl58).trans n17
          unfold Oper.wp
          go_simp
          first | exact ⟨by first | (simp [upd, e2]; done) | (simp [upd, e2]; omega), hS⟩ | (simp [upd, e2]; done) | (simp [upd, e2]; omega)
        ·intro op ho lb f' w' hd hS
         have e1 : f' 1 = .agg #[.int .i64 (wd x.six fh fl 0), .int .i64 (wd x.six fh fl 1), .int .i64 (wd x.six fh fl 2), .int .i64 (wd x.six fh fl 3), .int .i64 (wd x.six fh fl 4), .int .i64 (wd x.six fh fl 5), .int .i64 (wd x.six fh fl 6), .int .i64 (wd x.six fh fl 7), .int .i64 (wd x.six fh fl 8)] := (hd 1 (by omega)).2
         have e3 : f' 3 = .agg #[.int .i64 (wd r.six2 r.hi2 r.lo2 0), .int .i64 (wd r.six2 r.hi2 r.lo2 1), .int .i64 (wd r.six2 r.hi2 r.lo2 2), .int .i64 (wd r.six2 r.hi2 r.lo2 3), .int .i64 (wd r.six2 r.hi2 r.lo2 4), .int .i64 (wd r.six2 r.hi2 r.lo2 5), .int .i64 (wd r.six2 r.hi2 r.lo2 6), .int .i64 (wd r.six2 r.hi2 r.lo2 7), .int .i64 (wd r.six2 r.hi2 r.lo2 8)] := (hd 3 (by omega)).2
         replace ho := Option.some.inj ho
         subst ho
         refine ⟨rfl, ?_⟩
         unfold Oper.wp
         go_simp
         first | (go_step; go_step; go_meet) | (go_step; go_meet) | go_meet | skip
         exact ⟨rfl, hS.out⟩
       case rest =>
       obtain ⟨rfl, hb9⟩ := hcut
       obtain ⟨W9, rfl⟩ : ∃ W9 : World, W9 = wc := ⟨_, rfl⟩
       have HB9 := Lib.hid (HB8.out.trans (hb9.mono HB8.out.size))
       have HO9 := Lib.hid (own_belowR HO8.out hb9 (Nat.le_refl _))
       have H59 := Lib.hid ((hb9.block _ hl58).trans H58.out)
       have H69 := Lib.hid ((hb9.block _ (lt_of_block H68.out)).trans H68.out)
       have HP9 := Lib.hid ((hb9.block _ hlp8).trans HP8.out)
       have HAP9 := Lib.hid (own_apart HO9.out H69.out (by decide))
       obtain ⟨⟨p0, p1, p2, p3⟩, -⟩ := res4 HP9.out
       clear hb9 n9 n10 n11 n12 n13 n14 n15 n16 n17 HO8 HB8 H58 H68 HP8 hl58 hlp8 hqr
       cases q
       ·have HQ2 := Lib.hid (HEND.out rfl)
        have hpn1 := fun W => hpn fh fl W HFK.out.1 HQ2.out
        have HNK := Lib.hid (next_key HFK.out.1 HQ2.out)
        have HKN : Hid (keyA ⟨x.six, nxH fh fl, nxL fl⟩ = keyA x + 2 ^ m ∧ fineA ⟨x.six, nxH fh fl, nxL fl⟩) := Lib.hid ⟨HNK.out.1.trans HFK.out.2, HNK.out.2⟩
        have HLT9 : Hid (keyA x + 2 ^ m < e) := Lib.hid (by
         have h1 := HLE9.out
         have h2 : ¬ keyA x + 2 ^ m = e := fun h => by have := HQE.out.2 h; cases this
         omega)
        generalize nxH fh fl = gh at *
        generalize nxL fl = gl at *
        clear hpn HNK
        go_wp2_with fail
        refine (hlo W9).mono ?_
        rintro e' W10 ⟨rfl, hb10⟩
        have HB10 := Lib.hid (HB9.out.trans (hb10.mono HB9.out.size))
        have HO10 := Lib.hid (own_belowR HO9.out hb10 (Nat.le_refl _))
        have H510 := Lib.hid ((hb10.block _ (lt_of_block H59.out)).trans H59.out)
        have H610 := Lib.hid ((hb10.block _ (lt_of_block H69.out)).trans H69.out)
        clear hb10 hlo p0 p1 p2 p3 H59 H69 HO9 HB9
        go_wp2_with fail
        refine (hpn1 W10).mono ?_
        rintro e' W11 ⟨rfl, hb11⟩
        have HB11 := Lib.hid (HB10.out.trans (hb11.mono HB10.out.size))
        have HO11 := Lib.hid (own_belowR HO10.out hb11 (Nat.le_refl _))
        have H511 := Lib.hid ((hb11.block _ (lt_of_block H510.out)).trans H510.out)
        have H611 := Lib.hid ((hb11.block _ (lt_of_block H610.out)).trans H610.out)
        have HAP11 := Lib.hid (own_apart HO11.out H611.out (by decide))
        clear hb11 hpn1 H510 H610 HO10 HB10
        dsimp only
        first | refine store_step (vs := #[.int .i64 (wd x.six gh gl 0), .int .i64 (wd x.six gh gl 1), .int .i64 (wd x.six gh gl 2), .int .i64 (wd x.six gh gl 3), .int .i64 (wd x.six gh gl 4), .int .i64 (wd x.six gh gl 5), .int .i64 (wd x.six gh gl 6), .int .i64 (wd x.six gh gl 7), .int .i64 (wd x.six gh gl 8)]) rfl rfl H611.out rfl (by kernel_rfl) (by simp [Value.oneCell']) (fun W12 hr12 => ?_) | (go_step; first | refine store_step (vs := #[.int .i64 (wd x.six gh gl 0), .int .i64 (wd x.six gh gl 1), .int .i64 (wd x.six gh gl 2), .int .i64 (wd x.six gh gl 3), .int .i64 (wd x.six gh gl 4), .int .i64 (wd x.six gh gl 5), .int .i64 (wd x.six gh gl 6), .int .i64 (wd x.six gh gl 7), .int .i64 (wd x.six gh gl 8)]) rfl rfl H611.out rfl (by kernel_rfl) (by simp [Value.oneCell']) (fun W12 hr12 => ?_) | (go_step; first | refine store_step (vs := #[.int .i64 (wd x.six gh gl 0), .int .i64 (wd x.six gh gl 1), .int .i64 (wd x.six gh gl 2), .int .i64 (wd x.six gh gl 3), .int .i64 (wd x.six gh gl 4), .int .i64 (wd x.six gh gl 5), .int .i64 (wd x.six gh gl 6), .int .i64 (wd x.six gh gl 7), .int .i64 (wd x.six gh gl 8)]) rfl rfl H611.out rfl (by kernel_rfl) (by simp [Value.oneCell']) (fun W12 hr12 => ?_) | (go_step; first | refine store_step (vs := #[.int .i64 (wd x.six gh gl 0), .int .i64 (wd x.six gh gl 1), .int .i64 (wd x.six gh gl 2), .int .i64 (wd x.six gh gl 3), .int .i64 (wd x.six gh gl 4), .int .i64 (wd x.six gh gl 5), .int .i64 (wd x.six gh gl 6), .int .i64 (wd x.six gh gl 7), .int .i64 (wd x.six gh gl 8)]) rfl rfl H611.out rfl (by kernel_rfl) (by simp [Value.oneCell']) (fun W12 hr12 => ?_) | (go_step; first | refine store_step (vs := #[.int .i64 (wd x.six gh gl 0), .int .i64 (wd x.six gh gl 1), .int .i64 (wd x.six gh gl 2), .int .i64 (wd x.six gh gl 3), .int .i64 (wd x.six gh gl 4), .int .i64 (wd x.six gh gl 5), .int .i64 (wd x.six gh gl 6), .int .i64 (wd x.six gh gl 7), .int .i64 (wd x.six gh gl 8)]) rfl rfl H611.out rfl (by kernel_rfl) (by simp [Value.oneCell']) (fun W12 hr12 => ?_) | (go_step; first | refine store_step (vs := #[.int .i64 (wd x.six gh gl 0), .int .i64 (wd x.six gh gl 1), .int .i64 (wd x.six gh gl 2), .int .i64 (wd x.six gh gl 3), .int .i64 (wd x.six gh gl 4), .int .i64 (wd x.six gh gl 5), .int .i64 (wd x.six gh gl 6), .int .i64 (wd x.six gh gl 7), .int .i64 (wd x.six gh gl 8)]) rfl rfl H611.out rfl (by kernel_rfl) (by simp [Value.oneCell']) (fun W12 hr12 => ?_) | (go_step; first | refine store_step (vs := #[.int .i64 (wd x.six gh gl 0), .int .i64 (wd x.six gh gl 1), .int .i64 (wd x.six gh gl 2), .int .i64 (wd x.six gh gl 3), .int .i64 (wd x.six gh gl 4), .int .i64 (wd x.six gh gl 5), .int .i64 (wd x.six gh gl 6), .int .i64 (wd x.six gh gl 7), .int .i64 (wd x.six gh gl 8)]) rfl rfl H611.out rfl (by kernel_rfl) (by simp [Value.oneCell']) (fun W12 hr12 => ?_) | (go_step; first | refine store_step (vs := #[.int .i64 (wd x.six gh gl 0), .int .i64 (wd x.six gh gl 1), .int .i64 (wd x.six gh gl 2), .int .i64 (wd x.six gh gl 3), .int .i64 (wd x.six gh gl 4), .int .i64 (wd x.six gh gl 5), .int .i64 (wd x.six gh gl 6), .int .i64 (wd x.six gh gl 7), .int .i64 (wd x.six gh gl 8)]) rfl rfl H611.out rfl (by kernel_rfl) (by simp [Value.oneCell']) (fun W12 hr12 => ?_) | (go_step; refine store_step (vs := #[.int .i64 (wd x.six gh gl 0), .int .i64 (wd x.six gh gl 1), .int .i64 (wd x.six gh gl 2), .int .i64 (wd x.six gh gl 3), .int .i64 (wd x.six gh gl 4), .int .i64 (wd x.six gh gl 5), .int .i64 (wd x.six gh gl 6), .int .i64 (wd x.six gh gl 7), .int .i64 (wd x.six gh gl 8)]) rfl rfl H611.out rfl (by kernel_rfl) (by simp [Value.oneCell']) (fun W12 hr12 => ?_)))))))))
        have HR12 := Lib.hid hr12
        clear hr12
        go_wp2_with fail
        go_roundg (e - (keyA x + 2 ^ m))
        case measure =>
         have h1 := HN.out
         have h2 := HLT.out
         have h3 := Nat.two_pow_pos m
         omega
        case rel =>
         refine ⟨P ++ [(⟨x.six, x.hi, x.lo, L0 - (m : Int)⟩ : Pf)], ⟨x.six, gh, gl⟩, ?_, ?_, HKN.out.2, HX6.out, rw_same HO11.out (fun b hb => HR12.out.oth _ (HAP11.out b hb)), HPO4.out, ?_, HR12.out.below HB11.out (by have := HNS.out; have := HNA.out; omega), (HR12.out.oth _ (by have := HNA.out; omega)).trans H511.out, HR12.out.blk⟩
         ·have h1 := HKN.out.1; have h2 := HLT9.out; have h3 := HEE.out; omega
         ·have h1 := HKN.out.1; have h3 := HEE.out; omega
         ·rw [HKN.out.1, HEE.out]; exact HPG.out
       ·have HF : Hid ((P ++ [(⟨x.six, x.hi, x.lo, L0 - (m : Int)⟩ : Pf)]).map bkP = preS ((R.take (k + 1)).map rgS)) := Lib.hid (by
         have h1 := HQE.out.1 rfl
         have h2 := HPG.out
         rw [h1, preG_none (by omega), List.append_nil] at h2
         rw [HBE.out, h2])
        clear p0 p1 p2 p3
        go_wp2_with fail
        go_roundw
        case rel => exact ⟨k + 1, _, _, by omega, by simp, rfl, HO9.out, HPO4.out, HF.out, HB9.out⟩
        case measure => simp [intOf]; omega
     ·have hd0 : decide (0 < L0 - (m : Int)) = false := by simp; omega
      have hd1 : decide ((m : Int) < L0) = false := by simp; omega
      have HM := Lib.hid (HAFT.out (fun h => hmn h.1))
      have hfk := fill_key HX.out hm HDV.out
      have hlo := fun W => lastOf_wd x.six x.hi x.lo (L0 - (m : Int)) W HX.out.1 HX.out.2.1 m (by rw [HL0.out]; omega) (by omega) (by omega)
      have hfu := fil_u64 HX.out.1 (m := m - 64) (by omega)
      have hfv := fil_u64 HX.out.2.1 (m := min 64 m) (by omega)
      have hro := right_of HX.out hm HDV.out
      rw [HL0.out] at hro
      have HPO4 : Hid (∀ p ∈ P ++ [(⟨x.six, x.hi, x.lo, L0 - (m : Int)⟩ : Pf)], okP p) := Lib.hid (fun p hp => (List.mem_append.1 hp).elim (HPO.out p) (fun h => by simp at h; rw [h]; exact hro))
      have HPG : Hid ((P ++ [(⟨x.six, x.hi, x.lo, L0 - (m : Int)⟩ : Pf)]).map bkP ++ preG (keyA x + 2 ^ m) e = B0) := Lib.hid (by
       rw [← HPB.out, ← HL0.out, List.map_append, List.append_assoc]
       congr 1
       show bkP ⟨x.six, x.hi, x.lo, lenA x.six - m⟩ :: preG (keyA x + 2 ^ m) e = preG (keyA x) e
       rw [bk_new, preG_some HLT.out, HM.out])
      have HPN : Hid (P.length + 1 ≤ 1000000) := Lib.hid (by
       have h1 := congrArg List.length HPG.out
       rw [List.length_append, List.length_map, List.length_append] at h1
       have := HPL.out
       simp only [List.length_cons, List.length_nil] at h1
       omega)
      have hq0 := fun a b W => run_eq_wide (wd x.six a b) (wd r.six2 r.hi2 r.lo2) W
      have hpn := fun a b W (h1 : AddrFine x.six a b) h2 => plus_next x.six a b W h1 h2
      generalize fil x.hi (m - 64) = fh at *
      generalize fil x.lo (min 64 m) = fl at *
      have HFK := Lib.hid hfk
      obtain ⟨q, hq⟩ : ∃ q, eqN (wd x.six fh fl) (wd r.six2 r.hi2 r.lo2) = q := ⟨_, rfl⟩
      have hqr := fun W => hq0 fh fl W
      rw [hq] at hqr
      have hgd := guard_wide
      have HQE : Hid (q = true ↔ keyA x + 2 ^ m = e) := Lib.hid (by
       have u1 : U64 r.hi2 := HRO.out.l.1
       have u2 : U64 r.lo2 := HRO.out.l.2.1
       rw [← hq, eqN_wd hfu hfv u1 u2]
       have h1 := hfk.2
       have h2 := HEE.out
       constructor
       ·rintro ⟨a1, a2, a3⟩
        have : keyA ⟨x.six, fh, fl⟩ = keyA (laR r) := by
         show keyA ⟨x.six, fh, fl⟩ = keyA ⟨r.six2, r.hi2, r.lo2⟩
         rw [a1, a2, a3]
        omega
       ·intro h9
        have := keyA_inj (x := ⟨x.six, fh, fl⟩) (y := laR r) hfk.1 HRO.out.l (by omega)
        simp only [laR, Ad.mk.injEq] at this
        exact this)
      have HEND : Hid (q = false → endA x.six fh fl = false) := Lib.hid (fun hqf => by
       have h1 := end_key hfk.1
       have h3 := (keyA_lt HRO.out.l).2
       have h4 : (laR r).six = x.six := HRO.out.six.trans HX6.out.symm
       rw [h4] at h3
       have h5 : endA x.six fh fl = decide (keyA ⟨x.six, fh, fl⟩ + 1 = famE x.six) := h1
       rw [h5]
       refine decide_eq_false fun h6 => ?_
       have h7 := hfk.2
       have h8 := bigM_law HLT.out
       rw [HM.out] at h8
       have h9 : ¬ keyA x + 2 ^ m = e := fun h => by have := HQE.out.2 h; rw [hqf] at this; cases this
       have h10 := HEE.out
       omega)
      have HLE9 : Hid (keyA x + 2 ^ m ≤ e) := Lib.hid (by have h8 := bigM_law HLT.out; rw [HM.out] at h8; exact h8.2.1)
      clear hfk hro hq hq0 hfu hfv
      have HB7 := Lib.hid (HB5.out.trans (HBI.out.mono HB5.out.size))
      have HO7 := Lib.hid (own_belowR HO5.out HBI.out (Nat.le_refl _))
      have H57 := Lib.hid ((HBI.out.block _ hl5).trans H55.out)
      have H67 := Lib.hid ((HBI.out.block _ hl6).trans H65.out)
      have H77 := Lib.hid ((HBI.out.block _ hl7).trans H75.out)
      obtain ⟨x0, x1, x2, -⟩ := res3 H77.out
      have HBP := Lib.hid (HB7.out.alloc HB7.out.size (.cells #[.bool x.six, .int .u64 x.hi, .int .u64 x.lo, .int .i64 (L0 - (m : Int))] 48 (0, 0)))
      have HOP : Hid (World.ownsRow (wr.alloc (.cells #[.bool x.six, .int .u64 x.hi, .int .u64 x.lo, .int .i64 (L0 - (m : Int))] 48 (0, 0))) w.heap.size 48 4 u3 P.length (rwC pxC P)) := Lib.hid (World.ownsRow.alloc HO7.out _)
      have HPX := Lib.hid (heap_alloc_new wr (.cells #[.bool x.six, .int .u64 x.hi, .int .u64 x.lo, .int .i64 (L0 - (m : Int))] 48 (0, 0)))
      have H5P := Lib.hid ((heap_alloc_old wr (.cells #[.bool x.six, .int .u64 x.hi, .int .u64 x.lo, .int .i64 (L0 - (m : Int))] 48 (0, 0)) (lt_of_block H57.out)).trans H57.out)
      have H6P := Lib.hid ((heap_alloc_old wr (.cells #[.bool x.six, .int .u64 x.hi, .int .u64 x.lo, .int .i64 (L0 - (m : Int))] 48 (0, 0)) (lt_of_block H67.out)).trans H67.out)
      have HAPP : Hid (∀ b, u3.ownBlock = some b → b < wr.heap.size) := Lib.hid (fun b hb => (HO7.out.lt b hb).2)
      clear H57 H67 H77 HO7 HB7 H55 H65 H75 HB5 HO5 HBI hl5 hl6 hl7 HGM HLE HAFT
      go_upto_region 13 with (fail)
      generalize World.alloc wr _ = W7 at *
      generalize wr.heap.size = np at *
      have HAP5 := Lib.hid (own_apart HOP.out H5P.out (by decide))
      have HAP6 := Lib.hid (own_apart HOP.out H6P.out (by decide))
      have hl5P := lt_of_block H5P.out
      have hl6P := lt_of_block H6P.out
      have hlPP := lt_of_block HPX.out
      obtain ⟨⟨p0, p1, p2, p3⟩, -⟩ := res4 HPX.out
      go_wp2_with (at_builtin; refine wpList_append_own _ rfl (.tmp 48) (.tmp 50) 26 rfl w.heap.size 48 i0 (.agg #[.bool false, .int .u64 0, .int .u64 0, .int .i64 0]) 4 32 Tryz.underlying26 hi0 hz0 hz1 hz2 rfl (by decide) _ _ _ rfl (World.ownsRow.alloc HOP.out _) ⟨W7.heap.size, 0, none⟩ 1 1 [.bool x.six, .int .u64 x.hi, .int .u64 x.lo, .int .i64 (L0 - (m : Int))] rfl rfl (cells_new W7 [.bool x.six, .int .u64 x.hi, .int .u64 x.lo, .int .i64 (L0 - (m : Int))] _) (by simp [Value.oneCell']) (by have := HPN.out; unfold maxLen; first | omega | (simp; omega)) (by have := HPN.out; first | omega | (simp; omega)) (by have := HBP.out.size; first | omega | (simp; omega) | simp) ?_)
      intro v8 w8 ho8 hg8 _
      have hoA := World.ownsRow.alloc HOP.out (.cells #[.bool x.six, .int .u64 x.hi, .int .u64 x.lo, .int .i64 (L0 - (m : Int))] 48 (0, 0))
      have hbA := HBP.out.alloc HBP.out.size (.cells #[.bool x.six, .int .u64 x.hi, .int .u64 x.lo, .int .i64 (L0 - (m : Int))] 48 (0, 0))
      have HB8 : Hid (Below w.heap.size w w8) := Lib.hid (hbA.grown hg8 hbA.size (fun j hj => (hoA.lt j hj).1))
      have HO8 : Hid (w8.ownsRow w.heap.size 48 4 v8 (P ++ [(⟨x.six, x.hi, x.lo, L0 - (m : Int)⟩ : Pf)]).length (rwC pxC (P ++ [(⟨x.six, x.hi, x.lo, L0 - (m : Int)⟩ : Pf)]))) := Lib.hid (own_asT ho8 (by simp) (by simp [rwC, pxC]))
      have H58 := Lib.hid ((hg8.block ns (by simp; omega) (fun h => HAP5.out ns h.symm rfl)).trans ((heap_alloc_old _ _ hl5P).trans H5P.out))
      have H68 := Lib.hid ((hg8.block na (by simp; omega) (fun h => HAP6.out _ h.symm rfl)).trans ((heap_alloc_old _ _ hl6P).trans H6P.out))
      have HP8 := Lib.hid ((hg8.block np (by simp; omega) (fun h => by have := HAPP.out _ h.symm; omega)).trans ((heap_alloc_old _ _ hlPP).trans HPX.out))
      clear ho8 hg8 hoA hbA H5P H6P HOP HBP HPX HAP5 HAP6 HAPP hl5P hl6P hlPP p0 p1 p2 p3
      go_upto_region 14 with (fail)
      obtain ⟨⟨p0, p1, p2, p3⟩, -⟩ := res4 HP8.out
      have hl58 := lt_of_block H58.out
      have hlp8 := lt_of_block HP8.out
      have n9 : w8.cell? ⟨ns, 9, none⟩ = some (.int .i64 (wd r.six2 r.hi2 r.lo2 0)) := cell_of H58.out 9
      have n10 : w8.cell? ⟨ns, 10, none⟩ = some (.int .i64 (wd r.six2 r.hi2 r.lo2 1)) := cell_of H58.out 10
      have n11 : w8.cell? ⟨ns, 11, none⟩ = some (.int .i64 (wd r.six2 r.hi2 r.lo2 2)) := cell_of H58.out 11
      have n12 : w8.cell? ⟨ns, 12, none⟩ = some (.int .i64 (wd r.six2 r.hi2 r.lo2 3)) := cell_of H58.out 12
      have n13 : w8.cell? ⟨ns, 13, none⟩ = some (.int .i64 (wd r.six2 r.hi2 r.lo2 4)) := cell_of H58.out 13
      have n14 : w8.cell? ⟨ns, 14, none⟩ = some (.int .i64 (wd r.six2 r.hi2 r.lo2 5)) := cell_of H58.out 14
      have n15 : w8.cell? ⟨ns, 15, none⟩ = some (.int .i64 (wd r.six2 r.hi2 r.lo2 6)) := cell_of H58.out 15
      have n16 : w8.cell? ⟨ns, 16, none⟩ = some (.int .i64 (wd r.six2 r.hi2 r.lo2 7)) := cell_of H58.out 16
      have n17 : w8.cell? ⟨ns, 17, none⟩ = some (.int .i64 (wd r.six2 r.hi2 r.lo2 8)) := cell_of H58.out 17
      go_cut [56] from 52 to 56 (fun v56 wc => v56 = .bool q ∧ Below w8.heap.size w8 wc)
      case first =>
       refine wp_region_exact 4 (fun f' => ⟨#[.slice (some ⟨gA, off, none⟩) R.length cap, undef, .slice none 0 0, v8, undef, .pointer (some ⟨ns, 0, none⟩), .pointer (some ⟨na, 0, none⟩), .pointer (some ⟨n7, 0, none⟩), .int .i64 (L0 - ↑m), u9, .pointer (some ⟨np, 0, none⟩), .slice (some ⟨gA, off, none⟩) R.length cap, .int .i64 R.length, .int .i64 k, .bool true, .pointer (some ⟨gA, off + k * 18, none⟩), .agg (spC r).toArray, .pointer (some ⟨ns, 0, none⟩), .agg #[Value.int IntKind.i64 (wd r.six r.hi r.lo 0), Value.int IntKind.i64 (wd r.six r.hi r.lo 1), Value.int IntKind.i64 (wd r.six r.hi r.lo 2), Value.int IntKind.i64 (wd r.six r.hi r.lo 3), Value.int IntKind.i64 (wd r.six r.hi r.lo 4), Value.int IntKind.i64 (wd r.six r.hi r.lo 5), Value.int IntKind.i64 (wd r.six r.hi r.lo 6), Value.int IntKind.i64 (wd r.six r.hi r.lo 7), Value.int IntKind.i64 (wd r.six r.hi r.lo 8)], .agg #[Value.int IntKind.i64 (wd x.six x.hi x.lo 0), Value.int IntKind.i64 (wd x.six x.hi x.lo 1), Value.int IntKind.i64 (wd x.six x.hi x.lo 2), Value.int IntKind.i64 (wd x.six x.hi x.lo 3), Value.int IntKind.i64 (wd x.six x.hi x.lo 4), Value.int IntKind.i64 (wd x.six x.hi x.lo 5), Value.int IntKind.i64 (wd x.six x.hi x.lo 6), Value.int IntKind.i64 (wd x.six x.hi x.lo 7), Value.int IntKind.i64 (wd x.six x.hi x.lo 8)], .agg #[Value.bool x.six, Value.int IntKind.u64 x.hi, Value.int IntKind.u64 x.lo], .agg #[Value.bool x.six, Value.int IntKind.u64 x.hi, Value.int IntKind.u64 x.lo], .int .i64 L0, .int .i64 (L0 - ↑m), .bool false, u25, u26, u27, u28, u29, u30, u31, u32, u33, u34, u35, u36, u37, u38, u39, u40, u41, u42, u43, u44, .agg #[Value.bool x.six, Value.int IntKind.u64 x.hi, Value.int IntKind.u64 x.lo], .int .i64 (L0 - ↑m), .agg #[Value.bool x.six, Value.int IntKind.u64 x.hi, Value.int IntKind.u64 x.lo, Value.int IntKind.i64 (L0 - ↑m)], u3, .agg #[Value.bool x.six, Value.int IntKind.u64 x.hi, Value.int IntKind.u64 x.lo, Value.int IntKind.i64 (L0 - ↑m)], .slice (some ⟨W7.heap.size, 0, none⟩) 1 1, v8, f' 0, f' 1, f' 2, f' 3, u56, u57, u58, u59, u60, undef], []⟩) (fun i9 => match i9 with | 0 => .agg #[.bool x.six, .int .u64 x.hi, .int .u64 x.lo, .int .i64 (L0 - (m : Int))] | 1 => .agg #[.int .i64 (wd x.six fh fl 0), .int .i64 (wd x.six fh fl 1), .int .i64 (wd x.six fh fl 2), .int .i64 (wd x.six fh fl 3), .int .i64 (wd x.six fh fl 4), .int .i64 (wd x.six fh fl 5), .int .i64 (wd x.six fh fl 6), .int .i64 (wd x.six fh fl 7), .int .i64 (wd x.six fh fl 8)] | 2 => .pointer (some ⟨ns, 9, none⟩) | 3 => .agg #[.int .i64 (wd r.six2 r.hi2 r.lo2 0), .int .i64 (wd r.six2 r.hi2 r.lo2 1), .int .i64 (wd r.six2 r.hi2 r.lo2 2), .int .i64 (wd r.six2 r.hi2 r.lo2 3), .int .i64 (wd r.six2 r.hi2 r.lo2 4), .int .i64 (wd r.six2 r.hi2 r.lo2 5), .int .i64 (wd r.six2 r.hi2 r.lo2 6), .int .i64 (wd r.six2 r.hi2 r.lo2 7), .int .i64 (wd r.six2 r.hi2 r.lo2 8)] | _ => undef) (fun lb w' => Hid (Below w8.heap.size w8 w')) (fun i9 => match i9 with | 0 => u52 | 1 => u53 | 2 => u54 | 3 => u55 | _ => undef) 30 (show Tryz.prog.follows .mixedOrders = true from by kernel_rfl) (by kernel_rfl) ?_ ?_ (Lib.hid (Below.refl _ _).drew)
       ·intro i9 op hi9 ho lb f' w' hl hS hd
        have hcase : i9 = 0 ∨ i9 = 1 ∨ i9 = 2 ∨ i9 = 3 := by omega
        rcases hcase with rfl | rfl | rfl | rfl <;> (replace ho := Option.some.inj ho; subst ho)
        ·refine OpStep.of rfl ?_
         have p0' : w'.cell? ⟨np, 0, none⟩ = some (.bool x.six) := (hS.out.cell (p := ⟨np, _, none⟩) hlp8).trans p0
         have p1' : w'.cell? ⟨np, 1, none⟩ = some (.int .u64 x.hi) := (hS.out.cell (p := ⟨np, _, none⟩) hlp8).trans p1
         have p2' : w'.cell? ⟨np, 2, none⟩ = some (.int .u64 x.lo) := (hS.out.cell (p := ⟨np, _, none⟩) hlp8).trans p2
         have p3' : w'.cell? ⟨np, 3, none⟩ = some (.int .i64 (L0 - (m : Int))) := (hS.out.cell (p := ⟨np, _, none⟩) hlp8).trans p3
         unfold Oper.wp
         go_simp
         first | exact ⟨by first | (simp [upd]; done) | (simp [upd]; omega), hS⟩ | (simp [upd]; done) | (simp [upd]; omega)
        ·have e0 : f' 0 = .agg #[.bool x.six, .int .u64 x.hi, .int .u64 x.lo, .int .i64 (L0 - (m : Int))] := (hd ⟨0, .data⟩ (by simp) rfl).2
         refine OpStep.of rfl ?_
         unfold Oper.wp
         go_simp
         refine (hlo w').mono ?_
         rintro e w9 ⟨rfl, hb9⟩
         exact ⟨by simp [upd, e0], Lib.hid (hS.out.trans (hb9.mono hS.out.size))⟩
        ·refine OpStep.of rfl ?_
         unfold Oper.wp
         go_simp
         first | exact ⟨by first | (simp [upd]; done) | (simp [upd]; omega), hS⟩ | (simp [upd]; done) | (simp [upd]; omega)
        ·have e2 : f' 2 = .pointer (some ⟨ns, 9, none⟩) := (hd ⟨2, .data⟩ (by simp) rfl).2
         refine OpStep.of rfl ?_
         have n9' : w'.cell? ⟨ns, 9, none⟩ = some (.int .i64 (wd r.six2 r.hi2 r.lo2 0)) := (hS.out.cell (p := ⟨ns, _, none⟩) hl58).trans n9
         have n10' : w'.cell? ⟨ns, 10, none⟩ = some (.int .i64 (wd r.six2 r.hi2 r.lo2 1)) := (hS.out.cell (p := ⟨ns, _, none⟩) hl58).trans n10
         have n11' : w'.cell? ⟨ns, 11, none⟩ = some (.int .i64 (wd r.six2 r.hi2 r.lo2 2)) := (hS.out.cell (p := ⟨ns, _, none⟩) hl58).trans n11
         have n12' : w'.cell? ⟨ns, 12, none⟩ = some (.int .i64 (wd r.six2 r.hi2 r.lo2 3)) := (hS.out.cell (p := ⟨ns, _, none⟩) hl58).trans n12
         have n13' : w'.cell? ⟨ns, 13, none⟩ = some (.int .i64 (wd r.six2 r.hi2 r.lo2 4)) := (hS.out.cell (p := ⟨ns, _, none⟩) hl58).trans n13
         have n14' : w'.cell? ⟨ns, 14, none⟩ = some (.int .i64 (wd r.six2 r.hi2 r.lo2 5)) := (hS.out.cell (p := ⟨ns, _, none⟩) hl58).trans n14
         have n15' : w'.cell? ⟨ns, 15, none⟩ = some (.int .i64 (wd r.six2 r.hi2 r.lo2 6)) := (hS.out.cell (p := ⟨ns, _, none⟩) hl58).trans n15
         have n16' : w'.cell? ⟨ns, 16, none⟩ = some (.int .i64 (wd r.six2 r.hi2 r.lo2 7)) := (hS.out.cell (p := ⟨ns, _, none⟩) hl58).trans n16
         have n17' : w'.cell? ⟨ns, 17, none⟩ = some (.int .i64 (wd r.six2 r.hi2 r.lo2 8)) := (hS.out.cell (p := ⟨ns, _, none⟩) hl58).trans n17
         unfold Oper.wp
         go_simp
         first | exact ⟨by first | (simp [upd, e2]; done) | (simp [upd, e2]; omega), hS⟩ | (simp [upd, e2]; done) | (simp [upd, e2]; omega)
       ·intro op ho lb f' w' hd hS
        have e1 : f' 1 = .agg #[.int .i64 (wd x.six fh fl 0), .int .i64 (wd x.six fh fl 1), .int .i64 (wd x.six fh fl 2), .int .i64 (wd x.six fh fl 3), .int .i64 (wd x.six fh fl 4), .int .i64 (wd x.six fh fl 5), .int .i64 (wd x.six fh fl 6), .int .i64 (wd x.six fh fl 7), .int .i64 (wd x.six fh fl 8)] := (hd 1 (by omega)).2
        have e3 : f' 3 = .agg #[.int .i64 (wd r.six2 r.hi2 r.lo2 0), .int .i64 (wd r.six2 r.hi2 r.lo2 1), .int .i64 (wd r.six2 r.hi2 r.lo2 2), .int .i64 (wd r.six2 r.hi2 r.lo2 3), .int .i64 (wd r.six2 r.hi2 r.lo2 4), .int .i64 (wd r.six2 r.hi2 r.lo2 5), .int .i64 (wd r.six2 r.hi2 r.lo2 6), .int .i64 (wd r.six2 r.hi2 r.lo2 7), .int .i64 (wd r.six2 r.hi2 r.lo2 8)] := (hd 3 (by omega)).2
        replace ho := Option.some.inj ho
        subst ho
        refine ⟨rfl, ?_⟩
        unfold Oper.wp
        go_simp
        first | (go_step; go_step; go_meet) | (go_step; go_meet) | go_meet | skip
        exact ⟨rfl, hS.out⟩
      case rest =>
      obtain ⟨rfl, hb9⟩ := hcut
      obtain ⟨W9, rfl⟩ : ∃ W9 : World, W9 = wc := ⟨_, rfl⟩
      have HB9 := Lib.hid (HB8.out.trans (hb9.mono HB8.out.size))
      have HO9 := Lib.hid (own_belowR HO8.out hb9 (Nat.le_refl _))
      have H59 := Lib.hid ((hb9.block _ hl58).trans H58.out)
      have H69 := Lib.hid ((hb9.block _ (lt_of_block H68.out)).trans H68.out)
      have HP9 := Lib.hid ((hb9.block _ hlp8).trans HP8.out)
      have HAP9 := Lib.hid (own_apart HO9.out H69.out (by decide))
      obtain ⟨⟨p0, p1, p2, p3⟩, -⟩ := res4 HP9.out
      clear hb9 n9 n10 n11 n12 n13 n14 n15 n16 n17 HO8 HB8 H58 H68 HP8 hl58 hlp8 hqr
      cases q
      ·have HQ2 := Lib.hid (HEND.out rfl)
       have hpn1 := fun W => hpn fh fl W HFK.out.1 HQ2.out
       have HNK := Lib.hid (next_key HFK.out.1 HQ2.out)
       have HKN : Hid (keyA ⟨x.six, nxH fh fl, nxL fl⟩ = keyA x + 2 ^ m ∧ fineA ⟨x.six, nxH fh fl, nxL fl⟩) := Lib.hid ⟨HNK.out.1.trans HFK.out.2, HNK.out.2⟩
       have HLT9 : Hid (keyA x + 2 ^ m < e) := Lib.hid (by
        have h1 := HLE9.out
        have h2 : ¬ keyA x + 2 ^ m = e := fun h => by have := HQE.out.2 h; cases this
        omega)
       generalize nxH fh fl = gh at *
       generalize nxL fl = gl at *
       clear hpn HNK
       go_wp2_with fail
       refine (hlo W9).mono ?_
       rintro e' W10 ⟨rfl, hb10⟩
       have HB10 := Lib.hid (HB9.out.trans (hb10.mono HB9.out.size))
       have HO10 := Lib.hid (own_belowR HO9.out hb10 (Nat.le_refl _))
       have H510 := Lib.hid ((hb10.block _ (lt_of_block H59.out)).trans H59.out)
       have H610 := Lib.hid ((hb10.block _ (lt_of_block H69.out)).trans H69.out)
       clear hb10 hlo p0 p1 p2 p3 H59 H69 HO9 HB9
       go_wp2_with fail
       refine (hpn1 W10).mono ?_
       rintro e' W11 ⟨rfl, hb11⟩
       have HB11 := Lib.hid (HB10.out.trans (hb11.mono HB10.out.size))
       have HO11 := Lib.hid (own_belowR HO10.out hb11 (Nat.le_refl _))
       have H511 := Lib.hid ((hb11.block _ (lt_of_block H510.out)).trans H510.out)
       have H611 := Lib.hid ((hb11.block _ (lt_of_block H610.out)).trans H610.out)
       have HAP11 := Lib.hid (own_apart HO11.out H611.out (by decide))
       clear hb11 hpn1 H510 H610 HO10 HB10
       dsimp only
       first | refine store_step (vs := #[.int .i64 (wd x.six gh gl 0), .int .i64 (wd x.six gh gl 1), .int .i64 (wd x.six gh gl 2), .int .i64 (wd x.six gh gl 3), .int .i64 (wd x.six gh gl 4), .int .i64 (wd x.six gh gl 5), .int .i64 (wd x.six gh gl 6), .int .i64 (wd x.six gh gl 7), .int .i64 (wd x.six gh gl 8)]) rfl rfl H611.out rfl (by kernel_rfl) (by simp [Value.oneCell']) (fun W12 hr12 => ?_) | (go_step; first | refine store_step (vs := #[.int .i64 (wd x.six gh gl 0), .int .i64 (wd x.six gh gl 1), .int .i64 (wd x.six gh gl 2), .int .i64 (wd x.six gh gl 3), .int .i64 (wd x.six gh gl 4), .int .i64 (wd x.six gh gl 5), .int .i64 (wd x.six gh gl 6), .int .i64 (wd x.six gh gl 7), .int .i64 (wd x.six gh gl 8)]) rfl rfl H611.out rfl (by kernel_rfl) (by simp [Value.oneCell']) (fun W12 hr12 => ?_) | (go_step; first | refine store_step (vs := #[.int .i64 (wd x.six gh gl 0), .int .i64 (wd x.six gh gl 1), .int .i64 (wd x.six gh gl 2), .int .i64 (wd x.six gh gl 3), .int .i64 (wd x.six gh gl 4), .int .i64 (wd x.six gh gl 5), .int .i64 (wd x.six gh gl 6), .int .i64 (wd x.six gh gl 7), .int .i64 (wd x.six gh gl 8)]) rfl rfl H611.out rfl (by kernel_rfl) (by simp [Value.oneCell']) (fun W12 hr12 => ?_) | (go_step; first | refine store_step (vs := #[.int .i64 (wd x.six gh gl 0), .int .i64 (wd x.six gh gl 1), .int .i64 (wd x.six gh gl 2), .int .i64 (wd x.six gh gl 3), .int .i64 (wd x.six gh gl 4), .int .i64 (wd x.six gh gl 5), .int .i64 (wd x.six gh gl 6), .int .i64 (wd x.six gh gl 7), .int .i64 (wd x.six gh gl 8)]) rfl rfl H611.out rfl (by kernel_rfl) (by simp [Value.oneCell']) (fun W12 hr12 => ?_) | (go_step; first | refine store_step (vs := #[.int .i64 (wd x.six gh gl 0), .int .i64 (wd x.six gh gl 1), .int .i64 (wd x.six gh gl 2), .int .i64 (wd x.six gh gl 3), .int .i64 (wd x.six gh gl 4), .int .i64 (wd x.six gh gl 5), .int .i64 (wd x.six gh gl 6), .int .i64 (wd x.six gh gl 7), .int .i64 (wd x.six gh gl 8)]) rfl rfl H611.out rfl (by kernel_rfl) (by simp [Value.oneCell']) (fun W12 hr12 => ?_) | (go_step; first | refine store_step (vs := #[.int .i64 (wd x.six gh gl 0), .int .i64 (wd x.six gh gl 1), .int .i64 (wd x.six gh gl 2), .int .i64 (wd x.six gh gl 3), .int .i64 (wd x.six gh gl 4), .int .i64 (wd x.six gh gl 5), .int .i64 (wd x.six gh gl 6), .int .i64 (wd x.six gh gl 7), .int .i64 (wd x.six gh gl 8)]) rfl rfl H611.out rfl (by kernel_rfl) (by simp [Value.oneCell']) (fun W12 hr12 => ?_) | (go_step; first | refine store_step (vs := #[.int .i64 (wd x.six gh gl 0), .int .i64 (wd x.six gh gl 1), .int .i64 (wd x.six gh gl 2), .int .i64 (wd x.six gh gl 3), .int .i64 (wd x.six gh gl 4), .int .i64 (wd x.six gh gl 5), .int .i64 (wd x.six gh gl 6), .int .i64 (wd x.six gh gl 7), .int .i64 (wd x.six gh gl 8)]) rfl rfl H611.out rfl (by kernel_rfl) (by simp [Value.oneCell']) (fun W12 hr12 => ?_) | (go_step; first | refine store_step (vs := #[.int .i64 (wd x.six gh gl 0), .int .i64 (wd x.six gh gl 1), .int .i64 (wd x.six gh gl 2), .int .i64 (wd x.six gh gl 3), .int .i64 (wd x.six gh gl 4), .int .i64 (wd x.six gh gl 5), .int .i64 (wd x.six gh gl 6), .int .i64 (wd x.six gh gl 7), .int .i64 (wd x.six gh gl 8)]) rfl rfl H611.out rfl (by kernel_rfl) (by simp [Value.oneCell']) (fun W12 hr12 => ?_) | (go_step; refine store_step (vs := #[.int .i64 (wd x.six gh gl 0), .int .i64 (wd x.six gh gl 1), .int .i64 (wd x.six gh gl 2), .int .i64 (wd x.six gh gl 3), .int .i64 (wd x.six gh gl 4), .int .i64 (wd x.six gh gl 5), .int .i64 (wd x.six gh gl 6), .int .i64 (wd x.six gh gl 7), .int .i64 (wd x.six gh gl 8)]) rfl rfl H611.out rfl (by kernel_rfl) (by simp [Value.oneCell']) (fun W12 hr12 => ?_)))))))))
       have HR12 := Lib.hid hr12
       clear hr12
       go_wp2_with fail
       go_roundg (e - (keyA x + 2 ^ m))
       case measure =>
        have h1 := HN.out
        have h2 := HLT.out
        have h3 := Nat.two_pow_pos m
        omega
       case rel =>
        refine ⟨P ++ [(⟨x.six, x.hi, x.lo, L0 - (m : Int)⟩ : Pf)], ⟨x.six, gh, gl⟩, ?_, ?_, HKN.out.2, HX6.out, rw_same HO11.out (fun b hb => HR12.out.oth _ (HAP11.out b hb)), HPO4.out, ?_, HR12.out.below HB11.out (by have := HNS.out; have := HNA.out; omega), (HR12.out.oth _ (by have := HNA.out; omega)).trans H511.out, HR12.out.blk⟩
        ·have h1 := HKN.out.1; have h2 := HLT9.out; have h3 := HEE.out; omega
        ·have h1 := HKN.out.1; have h3 := HEE.out; omega
        ·rw [HKN.out.1, HEE.out]; exact HPG.out
      ·have HF : Hid ((P ++ [(⟨x.six, x.hi, x.lo, L0 - (m : Int)⟩ : Pf)]).map bkP = preS ((R.take (k + 1)).map rgS)) := Lib.hid (by
        have h1 := HQE.out.1 rfl
        have h2 := HPG.out
        rw [h1, preG_none (by omega), List.append_nil] at h2
        rw [HBE.out, h2])
       clear p0 p1 p2 p3
       go_wp2_with fail
       go_roundw
       case rel => exact ⟨k + 1, _, _, by omega, by simp, rfl, HO9.out, HPO4.out, HF.out, HB9.out⟩
       case measure => simp [intOf]; omega
  ·have hkl : k = R.length := by omega
   subst hkl
   rw [List.take_length] at hpm
   have HF := Lib.hid hpm
   have HO := Lib.hid ho
   have HB := Lib.hid hb
   clear hpm ho hb
   go_wp2_with fail
   go_ret
   exact ⟨_, P, rfl, HO.out, hpo, HF.out, HB.out⟩
end Go.Proofs.YtcmfkheohhfpiaaGreatDoor

namespace Go.Proofs.YtcmfkheohhfpiaaGreatDoor
open Go.RowKit Go.Hw
theorem own_keepW {w w' : World} {base b : Nat} {e : TypeId} {size : Nat} {v : Value} {n : Nat} {xs : List Value} (h : w.ownsRow base e size v n xs) (hg : w.grownBy w' (some b)) (hb : b < base) : w'.ownsRow base e size v n xs :=
 rw_same h fun k hk => hg.block k (h.lt k hk).2 (fun e => by have := (h.lt k hk).1; injection e with e; omega)
theorem sp_own {w : World} {base : Nat} {v : Value} {R : List Rg} (h : spOwn w base v R) : ∃ A cap, v = .slice A R.length cap ∧ spAt w A R := by
 obtain ⟨A, cap, rfl, ha⟩ := rw_at (d := noRg) spC_len h
 exact ⟨A, cap, rfl, ha⟩
theorem setR_alB {L : List Pf} (h : ∀ p ∈ L, okP p) : ∀ b ∈ L.map bkP, alB b := fun b hb => by
 obtain ⟨p, hp, rfl⟩ := List.mem_map.1 hb
 exact (bkP_al (h p hp)).1
set_option maxRecDepth 100000 in
set_option maxHeartbeats 1000000 in
theorem leastOf_any (A : Option Addr) (cap : Nat) (L : List Pf) (w : World) (h : pxAt w A L) (hok : ∀ p ∈ L, okP p) (hl : L.length ≤ 12) :
  Calls Tryz.prog 24 #[.slice A L.length cap] w fun e w' => ∃ v P S, e = .returned v ∧ pxOwn w' w.heap.size v P ∧ SetIs P S ∧ P.length ≤ L.length ∧ Below w.heap.size w w' := by
 have hsp := spansOf_any A cap L w h hok hl
 have HOK := Lib.hid hok
 clear h hok
 go_enter Tryz.func24, Tryz.ntmps24
 go_wp2_with fail
 refine hsp.mono ?_
 rintro e W1 ⟨v1, R, rfl, ho, hr, hrl, hb⟩
 obtain ⟨A2, c2, rfl, ha2⟩ := sp_own ho
 have HB1 := Lib.hid hb
 have HR := Lib.hid hr
 have HPL : Hid ((preS (R.map rgS)).length ≤ L.length) := Lib.hid (by
  have := preS_least HR.out.norm (fun x hx => famOk_len (okR_fam HR.out.ok x hx)) (setR_alB HOK.out) (fun n => (HR.out.has n).symm)
  rwa [List.length_map] at this)
 have hpx := refPrefixes_any A2 c2 R W1 ha2 hr.ok (by have := HPL.out; omega) (by omega)
 clear hsp ho hr hrl hb ha2
 go_wp2_with fail
 refine hpx.mono ?_
 rintro e W2 ⟨v2, P, rfl, ho2, hp2, hm2, hb2⟩
 have HF : Hid (pxOwn W2 w.heap.size v2 P ∧ SetIs P (R.map rgS) ∧ P.length ≤ L.length ∧ Below w.heap.size w W2) := Lib.hid ⟨own_base ho2 HB1.out.size, set_of HR.out.ok HR.out.norm hp2 hm2, by have h1 := HPL.out; rw [← hm2, List.length_map] at h1; exact h1, HB1.out.trans (hb2.mono HB1.out.size)⟩
 clear hpx ho2 hp2 hm2 hb2
 go_wp2_with fail
 go_ret
 exact ⟨v2, P, _, rfl, HF.out⟩
def PsI (w : World) (b : Nat) (A : Option Addr) (cap : Nat) (l : List Int) (at_ : Int) (k : Nat) (v : Value) (wr : World) : Prop :=
 ∃ (L : List Pf) (x : Int), L.length = k ∧ (∀ p ∈ L, okP p) ∧ pxOwn wr w.heap.size v L ∧ (at_ ≤ x ∧ x ≤ at_ + 10 * k) ∧ Str wr b A cap l x ∧ w.grownBy wr (some b)
set_option maxRecDepth 100000 in
set_option maxHeartbeats 1000000 in
theorem prefixesDraw_any (b : Nat) (A : Option Addr) (cap : Nat) (l : List Int) (at_ : Int) (n : Nat) (w : World) (h : Str w b A cap l at_) (hn : n ≤ 12) (hh : at_ < 1099511000000) :
  Calls Tryz.prog 25 #[.pointer (some ⟨b, 0, none⟩), .int .i64 n] w fun e w' => ∃ v, e = .returned v ∧ PsI w b A cap l at_ n v w' := by
 obtain ⟨i0, hi0, hz0, hz1, hz2⟩ := info_parts px_info
 have hbl := h.lt
 have HI : Hid (PsI w b A cap l at_ 0 (.slice none 0 0) w) := Lib.hid ⟨[], at_, rfl, (by intro p hp; cases hp), World.ownsRow_nil _ _ _ _, ⟨by omega, by omega⟩, h, World.grownBy.refl _ _⟩
 clear h
 go_enter Tryz.func25, Tryz.ntmps25
 go_wp2_with fail
 go_loopw [5, 7] (fun v5 v7 wr => ∃ k : Nat, k ≤ n ∧ v7 = .int .i64 k ∧ PsI w b A cap l at_ k v5 wr) (fun _ v7 _ => n - (intOf v7).toNat)
 case atStart => exact ⟨0, Nat.zero_le _, rfl, HI.out⟩
 case round =>
  obtain ⟨k, hk, rfl, L, x, hLk, hR, hO, hx, hs, hg⟩ := hrel
  have HR := Lib.hid hR
  have HO := Lib.hid hO
  have HG := Lib.hid hg
  have HSx := Lib.hid hs
  have HX := Lib.hid hx
  have hwr := hg.size
  have HLK := Lib.hid hLk
  have hL12 : L.length ≤ 12 := by omega
  clear hR hO hg hs hx HI hLk
  by_cases hlt : k < n
  ·have hd : decide ((k : Int) < (n : Int)) = true := by simp; omega
   go_wp2_with fail
   refine (rightPrefix_det b A cap l x wr HSx.out (by have := HX.out; omega)).mono ?_
   rintro e w2 ⟨six, hi, lo, bits_, y, ⟨-, hpr⟩, rfl, hxy, hs2, hg2⟩
   have HO2 : Hid (w2.ownsRow w.heap.size 48 4 u5 L.length (rwC pxC L)) := Lib.hid (own_keepW HO.out hg2 hbl)
   have HG2 := Lib.hid (HG.out.andThen hg2 (fun _ h => .inr h))
   have HPR := Lib.hid hpr
   have hw2 := hg2.size
   have HXY := Lib.hid hxy
   have HS2 := Lib.hid hs2
   have HEA := Lib.hid (World.ownsRow.alloc HO2.out (.cells #[.bool six, .int .u64 hi, .int .u64 lo, .int .i64 bits_] 48 (0, 0)))
   clear hg2 hs2 hpr hxy
   go_wp2_with (at_builtin; refine wpList_append_own _ rfl (.tmp 9) (.tmp 12) 26 rfl w.heap.size 48 i0 (.agg #[.bool false, .int .u64 0, .int .u64 0, .int .i64 0]) 4 32 Tryz.underlying26 hi0 hz0 hz1 hz2 rfl (by decide) _ _ _ rfl HEA.out ⟨w2.heap.size, 0, none⟩ 1 1 (pxC ⟨six, hi, lo, bits_⟩) rfl rfl (cells_new w2 (pxC ⟨six, hi, lo, bits_⟩) _) (pxC_one _) (by unfold maxLen; first | omega | (simp; omega)) (by first | omega | (simp; omega)) (by first | omega | (simp; omega)) ?_)
   intro v5 w5 ho5 hg5 _
   have HO5 : Hid (pxOwn w5 w.heap.size v5 (L ++ [⟨six, hi, lo, bits_⟩])) := Lib.hid (own_asT ho5 (by simp) (by simp [rwC]))
   have hlt5 := HEA.out.lt
   have HG5 : Hid (w.grownBy w5 (some b)) := Lib.hid ((HG2.out.andThen (grownB ((Below.refl _ _).alloc (Nat.le_refl _) _) none) (fun _ h => by simp at h)).andThen hg5 (fun j hj => .inl (hlt5 j hj).1))
   have HS5 : Hid (Str w5 b A cap l y) := Lib.hid ((HS2.out.alloc _).grown hg5 (fun j hj => by have := (hlt5 j hj).1; omega))
   clear ho5 hg5 hlt5 HEA HO2 HG2 HS2
   go_wp2_with fail
   go_roundw
   case rel => exact ⟨k + 1, by omega, by simp, L ++ [⟨six, hi, lo, bits_⟩], y, by simp [HLK.out], (by
    intro p hp
    rcases List.mem_append.1 hp with h | h
    ·exact HR.out p h
    ·simp only [List.mem_cons, List.not_mem_nil, or_false] at h
     rw [h]
     exact HPR.out), HO5.out, (by have := HX.out; have := HXY.out; push_cast; omega), HS5.out, HG5.out⟩
   case measure => simp [intOf]; omega
  ·have hkn : k = n := by omega
   subst hkn
   go_wp2_with fail
   go_ret
   exact ⟨_, rfl, L, x, HLK.out, HR.out, HO.out, HX.out, HSx.out, HG.out⟩
set_option maxRecDepth 100000 in
set_option maxHeartbeats 1000000 in
theorem rightSet_any (b : Nat) (A : Option Addr) (cap : Nat) (l : List Int) (at_ : Int) (w : World) (h : Str w b A cap l at_) (hh : at_ < 1099510000000) :
  Calls Tryz.prog 5 #[.pointer (some ⟨b, 0, none⟩)] w fun e w' => ∃ v P S x, e = .returned v ∧ pxOwn w' w.heap.size v P ∧ SetIs P S ∧ P.length ≤ 5 ∧ (at_ ≤ x ∧ x ≤ at_ + 60) ∧ Str w' b A cap l x ∧ w.grownBy w' (some b) := by
 have hrg := range_any b A cap l at_ 0 5 w h (by omega) (by omega) (by omega) (by omega) (by omega)
 have d1 := draw_low l at_ 6 (by omega)
 have d2 := draw_high l at_ 6 (by omega)
 rw [show (5 : Int) - 0 + 1 = 6 from rfl, Int.zero_add] at hrg
 obtain ⟨n, hn⟩ : ∃ n : Nat, drawOf l at_ 6 = n := ⟨(drawOf l at_ 6).toNat, by omega⟩
 rw [hn] at hrg
 have hn5 : n ≤ 5 := by omega
 have hbl := h.lt
 clear h d1 d2 hn
 go_enter Tryz.func5, Tryz.ntmps5
 go_wp2_with fail
 refine hrg.mono ?_
 rintro e W1 ⟨rfl, hs1, hg1⟩
 have HG1 := Lib.hid hg1
 have hps := prefixesDraw_any b A cap l (at_ + 1) n W1 hs1 (by omega) (by omega)
 have hw1 := hg1.size
 clear hrg hs1 hg1
 go_wp2_with fail
 refine hps.mono ?_
 rintro e W2 ⟨v2, rfl, L, x, hLk, hR, hO, hx, hs, hg⟩
 have HG2 := Lib.hid (HG1.out.andThen hg (fun _ h => .inr h))
 have HS2 := Lib.hid hs
 have HX := Lib.hid hx
 have hw2 := hg.size
 have hL5 : L.length ≤ 5 := by omega
 obtain ⟨A3, c3, rfl, ha3, -⟩ := px_own hO
 have hle := leastOf_any A3 c3 L W2 ha3 hR (by omega)
 clear hps hLk hR hO hx hs hg ha3
 go_wp2_with fail
 refine hle.mono ?_
 rintro e W3 ⟨v3, P, S, rfl, ho3, hs3, hl3, hb3⟩
 have HF : Hid (pxOwn W3 w.heap.size v3 P ∧ SetIs P S ∧ P.length ≤ 5 ∧ (at_ ≤ x ∧ x ≤ at_ + 60) ∧ Str W3 b A cap l x ∧ w.grownBy W3 (some b)) := Lib.hid ⟨own_base ho3 (by omega), hs3, by omega, by have := HX.out; omega, HS2.out.grown (grownB hb3 none) (fun j hj => by cases hj), HG2.out.andThen (grownB hb3 none) (fun _ h => by cases h)⟩
 clear hle ho3 hs3 hl3 hb3
 go_wp2_with fail
 go_ret
 exact ⟨v3, P, S, x, rfl, HF.out⟩
end Go.Proofs.YtcmfkheohhfpiaaGreatDoor
namespace Go.Proofs.YtcmfkheohhfpiaaGreatDoor
open Go.RowKit Go.Hw
/-- A set is handed back. -/
def SetGot (w : World) (p : Nat → Prop) (e : Ending) (w' : World) : Prop := ∃ A c P T, e = .returned (.tuple #[.slice A P.length c, .int .i64 0]) ∧ pxAt w' A P ∧ SetIs P T ∧ (∀ k, hasS T k ↔ p k) ∧ P.length ≤ 1000 ∧ Below w.heap.size w w'
theorem SetOp.small {w : World} {p : Nat → Prop} {e : Ending} {w' : World} (h : SetOp w p e w') (hb : ∀ T, (∀ k, hasS T k ↔ p k) → NormS T → (∀ x ∈ T, famOk x) → (preS T).length ≤ 1000) : SetGot w p e w' := by
 obtain ⟨T, h1, h2, h3, v, c, P, rfl, h4, h5, h6⟩ := h
 rcases h6 with ⟨rfl, h7, h8⟩ | ⟨_, _, h7⟩
 ·obtain ⟨A, cp, rfl, ha, -⟩ := px_own h4
  exact ⟨A, cp, P, T, rfl, ha, h7, h1, by rw [h7.len]; exact h8, h5⟩
 ·exact absurd (hb T h1 h2 h3) (by omega)
theorem set_eq {S T : List Sn} (h1 : NormS S) (h2 : NormS T) (h : ∀ k, hasS S k ↔ hasS T k) : S = T := norm_eq h1 h2 h
end Go.Proofs.YtcmfkheohhfpiaaGreatDoor

namespace Go.Proofs.YtcmfkheohhfpiaaGreatDoor
open Go.RowKit
/-- At most n blocks make these numbers. -/
def CovN (p : Nat → Prop) (n : Nat) : Prop := ∃ B : List Bk, (∀ b ∈ B, alB b) ∧ B.length ≤ n ∧ ∀ k, hasS (B.map bkS) k ↔ p k
/-- The set of these numbers has at most n blocks. -/
def BdN (p : Nat → Prop) (n : Nat) : Prop := ∀ T, (∀ k, hasS T k ↔ p k) → NormS T → (∀ x ∈ T, famOk x) → (preS T).length ≤ n
theorem CovN.bd {p : Nat → Prop} {n m : Nat} (h : CovN p n) (hm : n ≤ m) : BdN p m := by
  obtain ⟨B, h1, h2, h3⟩ := h
  intro T t1 t2 t3
  have := preS_least t2 (fun x hx => famOk_len (t3 x hx)) h1 (fun k => by rw [h3 k, t1 k])
  omega
theorem CovN.congr {p q : Nat → Prop} {n : Nat} (h : CovN p n) (e : ∀ k, p k ↔ q k) : CovN q n := by
  obtain ⟨B, h1, h2, h3⟩ := h
  exact ⟨B, h1, h2, fun k => (h3 k).trans (e k)⟩
theorem BdN.congr {p q : Nat → Prop} {n : Nat} (h : BdN p n) (e : ∀ k, q k ↔ p k) : BdN q n := fun T t1 t2 t3 => h T (fun k => (t1 k).trans (e k)) t2 t3
theorem SetIs.cov {P : List Pf} {S : List Sn} (h : SetIs P S) : CovN (hasS S) P.length := ⟨P.map bkP, h.als, by rw [List.length_map]; exact Nat.le_refl _, h.bl⟩
theorem CovN.or {p q : Nat → Prop} {n m : Nat} (h : CovN p n) (g : CovN q m) : CovN (fun k => p k ∨ q k) (n + m) := by
  obtain ⟨B, h1, h2, h3⟩ := h
  obtain ⟨C, g1, g2, g3⟩ := g
  refine ⟨B ++ C, fun b hb => (List.mem_append.1 hb).elim (h1 b) (g1 b), by rw [List.length_append]; omega, fun k => ?_⟩
  rw [List.map_append, hasS_append, h3, g3]
theorem CovN.and {p q : Nat → Prop} {n m : Nat} (h : CovN p n) (g : CovN q m) : CovN (fun k => p k ∧ q k) (n + m) := by
  obtain ⟨B, h1, h2, h3⟩ := h
  obtain ⟨C, g1, g2, g3⟩ := g
  obtain ⟨m1, m2, m3⟩ := meetL_law h1 g1
  exact ⟨meetL B C, m2, by omega, fun k => by rw [m1, h3, g3]⟩
theorem CovN.less {P : List Pf} {S : List Sn} (h : SetIs P S) {q : Nat → Prop} {m : Nat} (g : CovN q m) : CovN (fun k => hasS S k ∧ ¬ q k) (P.length + 127 * m) := by
  obtain ⟨C, g1, g2, g3⟩ := g
  obtain ⟨m1, m2, m3⟩ := cutAll_law C (P.map bkP) h.row g1
  rw [List.length_map] at m3
  exact ⟨_, fun b hb => (m2.al b hb).1, Nat.le_trans m3 (by omega), fun k => by rw [m1, h.bl, g3]⟩
theorem CovN.rest {q : Nat → Prop} {m : Nat} (g : CovN q m) : CovN (fun k => inU k ∧ ¬ q k) (2 + 127 * m) := by
  obtain ⟨C, g1, g2, g3⟩ := g
  obtain ⟨m1, m2, m3⟩ := cutAll_law C allB allB_row g1
  have e : allB.length = 2 := rfl
  exact ⟨_, fun b hb => (m2.al b hb).1, by omega, fun k => by rw [m1, allB_has, g3]⟩
/-- A value that is the set of these numbers. -/
def VS (p : Nat → Prop) : World → Value → Prop := fun w v => ∃ A c P T, v = .slice A P.length c ∧ pxAt w A P ∧ SetIs P T ∧ (∀ k, hasS T k ↔ p k) ∧ P.length ≤ 1000
theorem VS.kept (p : Nat → Prop) : KeptV (VS p) := fun _ _ _ ⟨A, c, P, T, h1, h2, h3, h4, h5⟩ hb => ⟨A, c, P, T, h1, h2.below hb, h3, h4, h5⟩
theorem VS.congr {p q : Nat → Prop} {w : World} {v : Value} (h : VS p w v) (e : ∀ k, p k ↔ q k) : VS q w v := by
  obtain ⟨A, c, P, T, h1, h2, h3, h4, h5⟩ := h
  exact ⟨A, c, P, T, h1, h2, h3, fun k => (h4 k).trans (e k), h5⟩
/-- An operation over sets whose answer has at most 1000 blocks hands it back. -/
theorem SetOp.vs {w : World} {p q : Nat → Prop} {e : Ending} {w' : World} (h : SetOp w p e w') (he : ∀ k, p k ↔ q k) (hb : BdN q 1000) : ∃ v, e = .returned (.tuple #[v, .int .i64 0]) ∧ VS q w' v ∧ Below w.heap.size w w' := by
  obtain ⟨A, c, P, T, h1, h2, h3, h4, h5, h6⟩ := h.small (fun T t1 t2 t3 => hb T (fun k => (t1 k).trans (he k)) t2 t3)
  exact ⟨_, h1, ⟨A, c, P, T, rfl, h2, h3, fun k => (h4 k).trans (he k), h5⟩, h6⟩
/-- Two values that are the set of the same numbers are rows of the same prefixes. -/
theorem VS.same {p q : Nat → Prop} {w : World} {x y : Value} (hx : VS p w x) (hy : VS q w y) (e : ∀ k, p k ↔ q k) : ∃ A B c d P, x = .slice A P.length c ∧ y = .slice B P.length d ∧ pxAt w A P ∧ pxAt w B P ∧ P.length ≤ 1000 := by
  obtain ⟨A, c, P, T, rfl, h2, h3, h4, h5⟩ := hx
  obtain ⟨B, d, Q, U, rfl, g2, g3, g4, g5⟩ := hy
  have hTU : T = U := set_eq h3.norm g3.norm (fun k => by rw [h4, g4, e])
  subst hTU
  obtain rfl : P = Q := h3.eq g3
  exact ⟨A, B, c, d, P, rfl, rfl, h2, g2, h5⟩
/-- The size of a set of numbers, told by its blocks. -/
theorem VS.none {p : Nat → Prop} {w : World} {x : Value} (hx : VS p w x) (e : ∀ k, ¬ p k) : ∃ A c, x = .slice A 0 c := by
  obtain ⟨A, c, P, T, rfl, h2, h3, h4, h5⟩ := hx
  have hT : T = [] := set_eq h3.norm ⟨(fun _ h => by cases h), List.Pairwise.nil⟩ (fun k => by rw [h4]; exact ⟨fun h => absurd h (e k), fun h => absurd h (hasS_nil k)⟩)
  subst hT
  have := h3.len
  rw [show preS [] = [] from rfl, List.length_nil] at this
  exact ⟨A, c, by rw [this]⟩
end Go.Proofs.YtcmfkheohhfpiaaGreatDoor

namespace Go.Proofs.YtcmfkheohhfpiaaGreatDoor
open Go.RowKit Go.Hw
set_option maxRecDepth 100000 in
set_option maxHeartbeats 1000000 in
theorem do_union {p q r : Nat → Prop} {x y : Value} (fb : Nat) (w : World) (hx : VS p w x) (hy : VS q w y) (he : ∀ k, (p k ∨ q k) ↔ r k) (hb : BdN r 1000) :
    Calls Tryz.prog 19 #[.func (.func 9) #[] #[], x, y, .pointer (some ⟨fb, 0, none⟩)] w fun e w' => ∃ v, e = .returned v ∧ VS r w' v ∧ Below w.heap.size w w' := by
  obtain ⟨A, ca, L, SA, rfl, hA, hL, hp, h1⟩ := hx
  obtain ⟨B, cb, M, SB, rfl, hB, hM, hq, h2⟩ := hy
  have hop := (union_set A B ca cb L M SA SB w hA hB hL hM h1 h2).mono fun e w' h => h.vs (q := r) (fun k => by rw [hp, hq]; exact he k) hb
  have HN : True := trivial
  clear hA hB hL hM hp hq he hb h1 h2
  go_enter Tryz.func19, Tryz.ntmps19
  go_wp2_with fail
  refine hop.mono ?_
  rintro e w1 ⟨v, rfl, hv, hb1⟩
  have HV := Lib.hid hv
  have HB := Lib.hid hb1
  clear hop hv hb1
  go_wp2_with fail
  go_ret
  exact ⟨v, rfl, HV.out, HB.out⟩
set_option maxRecDepth 100000 in
set_option maxHeartbeats 1000000 in
theorem do_both {p q r : Nat → Prop} {x y : Value} (fb : Nat) (w : World) (hx : VS p w x) (hy : VS q w y) (he : ∀ k, (p k ∧ q k) ↔ r k) (hb : BdN r 1000) :
    Calls Tryz.prog 19 #[.func (.func 10) #[] #[], x, y, .pointer (some ⟨fb, 0, none⟩)] w fun e w' => ∃ v, e = .returned v ∧ VS r w' v ∧ Below w.heap.size w w' := by
  obtain ⟨A, ca, L, SA, rfl, hA, hL, hp, h1⟩ := hx
  obtain ⟨B, cb, M, SB, rfl, hB, hM, hq, h2⟩ := hy
  have hop := (both_set A B ca cb L M SA SB w hA hB hL hM h1 h2).mono fun e w' h => h.vs (q := r) (fun k => by rw [hp, hq]; exact he k) hb
  have HN : True := trivial
  clear hA hB hL hM hp hq he hb h1 h2
  go_enter Tryz.func19, Tryz.ntmps19
  go_wp2_with fail
  refine hop.mono ?_
  rintro e w1 ⟨v, rfl, hv, hb1⟩
  have HV := Lib.hid hv
  have HB := Lib.hid hb1
  clear hop hv hb1
  go_wp2_with fail
  go_ret
  exact ⟨v, rfl, HV.out, HB.out⟩
set_option maxRecDepth 100000 in
set_option maxHeartbeats 1000000 in
theorem do_less {p q r : Nat → Prop} {x y : Value} (fb : Nat) (w : World) (hx : VS p w x) (hy : VS q w y) (he : ∀ k, (p k ∧ ¬ q k) ↔ r k) (hb : BdN r 1000) :
    Calls Tryz.prog 19 #[.func (.func 11) #[] #[], x, y, .pointer (some ⟨fb, 0, none⟩)] w fun e w' => ∃ v, e = .returned v ∧ VS r w' v ∧ Below w.heap.size w w' := by
  obtain ⟨A, ca, L, SA, rfl, hA, hL, hp, h1⟩ := hx
  obtain ⟨B, cb, M, SB, rfl, hB, hM, hq, h2⟩ := hy
  have hop := (without_set A B ca cb L M SA SB w hA hB hL hM h1 h2).mono fun e w' h => h.vs (q := r) (fun k => by rw [hp, hq]; exact he k) hb
  have HN : True := trivial
  clear hA hB hL hM hp hq he hb h1 h2
  go_enter Tryz.func19, Tryz.ntmps19
  go_wp2_with fail
  refine hop.mono ?_
  rintro e w1 ⟨v, rfl, hv, hb1⟩
  have HV := Lib.hid hv
  have HB := Lib.hid hb1
  clear hop hv hb1
  go_wp2_with fail
  go_ret
  exact ⟨v, rfl, HV.out, HB.out⟩
/-- Where the rest of a set is too large. -/
def TooMany (r : Nat → Prop) : Prop := ∃ T, (∀ k, hasS T k ↔ r k) ∧ NormS T ∧ (∀ x ∈ T, famOk x) ∧ 1000 < (preS T).length
def RestGot (fb : Nat) (r : Nat → Prop) (w : World) (e : Ending) (w' : World) : Prop :=
  (∃ v, e = .returned v ∧ VS r w' v ∧ Below w.heap.size w w') ∨ (TooMany r ∧ ∃ A c, e = .returned (.slice A 0 c) ∧ w'.heap[fb]? = some (.cells #[.int .i64 2] 32 (0, 0)) ∧ w.grownBy w' (some fb))
set_option maxRecDepth 100000 in
set_option maxHeartbeats 1000000 in
theorem wrap_rest (A : Option Addr) (ca : Nat) (L : List Pf) (SA : List Sn) (y : Value) (w : World) (hA : pxAt w A L) (hL : SetIs L SA) (h1 : L.length ≤ 1000) :
    Calls Tryz.prog 21 #[.slice A L.length ca, y] w (SetOp w (fun k => inU k ∧ ¬ hasS SA k)) := by
  have hop := rest_set A ca L SA w hA hL h1
  clear hA hL
  go_enter Tryz.func21, Tryz.ntmps21
  go_wp2_with fail
  refine hop.mono ?_
  rintro e w1 ⟨T, t1, t2, t3, v, c, P, rfl, h4, h5, h6⟩
  have HF : Hid (pxOwn w1 w.heap.size v P ∧ Below w.heap.size w w1 ∧ ((c = 0 ∧ SetIs P T ∧ (preS T).length ≤ 1000) ∨ (c = 2 ∧ P = [] ∧ 1000 < (preS T).length))) := Lib.hid ⟨h4, h5, h6⟩
  have HT := Lib.hid (And.intro t1 (And.intro t2 t3))
  clear hop h4 h5 h6 t1 t2 t3
  go_wp2_with fail
  go_ret2
  exact ⟨T, HT.out.1, HT.out.2.1, HT.out.2.2, v, c, P, rfl, HF.out⟩
set_option maxRecDepth 100000 in
set_option maxHeartbeats 1000000 in
theorem do_rest {p r : Nat → Prop} {x : Value} (fb : Nat) (w : World) (hx : VS p w x) (he : ∀ k, (inU k ∧ ¬ p k) ↔ r k) (hf : w.heap[fb]? = some (.cells #[.int .i64 0] 32 (0, 0))) :
    Calls Tryz.prog 19 #[.func (.func 21) #[] #[], x, .slice none 0 0, .pointer (some ⟨fb, 0, none⟩)] w (RestGot fb r w) := by
  obtain ⟨A, ca, L, SA, rfl, hA, hL, hp, h1⟩ := hx
  have hop := wrap_rest A ca L SA (.slice none 0 0) w hA hL h1
  have HR : Hid (∀ k, (inU k ∧ ¬ hasS SA k) ↔ r k) := Lib.hid fun k => by rw [hp]; exact he k
  have hlt := lt_of_block hf
  have HF := Lib.hid hf
  clear hA hL hp he h1 hf
  go_enter Tryz.func19, Tryz.ntmps19
  go_wp2_with fail
  refine hop.mono ?_
  rintro e w1 ⟨T, t1, t2, t3, v, c, P, rfl, h4, h5, h6⟩
  obtain ⟨B, cb, rfl, hB, -⟩ := px_own h4
  have HB := Lib.hid h5
  have hf1 := (h5.block _ hlt).trans HF.out
  have HT := Lib.hid (And.intro t1 (And.intro t2 t3))
  rcases h6 with ⟨rfl, h7, h8⟩ | ⟨rfl, rfl, h7⟩
  · have HV : Hid (VS r w1 (.slice B P.length cb)) := Lib.hid ⟨B, cb, P, T, rfl, hB, h7, fun k => (HT.out.1 k).trans (HR.out k), by rw [h7.len]; exact h8⟩
    clear hop h4 h5 h7 h8 t1 t2 t3 hB hf1
    go_wp2_with fail
    go_ret
    exact .inl ⟨_, rfl, HV.out, HB.out⟩
  · have c0 : w1.cell? ⟨fb, 0, none⟩ = some (.int .i64 0) := by simp [World.cell?, hf1]
    have f0 : w1.frozen? ⟨fb, 0, none⟩ = false := by simp [World.frozen?, hf1]
    have HM : Hid (TooMany r) := Lib.hid ⟨T, fun k => (HT.out.1 k).trans (HR.out k), HT.out.2.1, HT.out.2.2, h7⟩
    have HS := Lib.hid (ct_setI hf1 0 (.int .i64 2))
    clear hop h4 h5 h7 t1 t2 t3 hB hf1
    go_wp2_with fail
    go_ret
    refine .inr ⟨HM.out, B, cb, rfl, HS.out, ?_⟩
    exact ⟨HB.out.os, HB.out.tape, HB.out.output, by have := HB.out.size; simpa using this, fun k hk hne => by
      rw [show (w1.setCell ⟨fb, 0, none⟩ (.int .i64 2)).heap[k]? = w1.heap[k]? by simp only [World.setCell]; rw [Array.getElem?_modify, if_neg (fun e => hne (by rw [e]))]]
      exact HB.out.block k hk⟩
set_option maxRecDepth 100000 in
set_option maxHeartbeats 1000000 in
theorem rest_got2 {p r : Nat → Prop} {x : Value} (fb db : Nat) {D : TypeId} (w : World) (hx : VS p w x) (he : ∀ k, (inU k ∧ ¬ p k) ↔ r k) (hf : w.heap[fb]? = some (.cells #[.int .i64 0] 32 (0, 0)))
    (hd : w.heap[db]? = some (.cells #[.func (.func 19) #[] #[.pointer (some ⟨fb, 0, none⟩)]] D (0, 0))) :
    Calls Tryz.prog 20 #[x, .pointer (some ⟨db, 0, none⟩)] w (RestGot fb r w) := by
  have hop := do_rest (r := r) fb w hx he hf
  have c0 : w.cell? ⟨db, 0, none⟩ = some (.func (.func 19) #[] #[.pointer (some ⟨fb, 0, none⟩)]) := by simp [World.cell?, hd]
  clear hx he hf hd
  go_enter Tryz.func20, Tryz.ntmps20
  go_wp2_with fail
  refine hop.mono ?_
  rintro e w1 (⟨v, rfl, h1, h2⟩ | ⟨h1, A, c, rfl, h2, h3⟩)
  · have H1 := Lib.hid h1
    have H2 := Lib.hid h2
    clear hop h1 h2
    go_wp2_with fail
    go_ret
    exact .inl ⟨v, rfl, H1.out, H2.out⟩
  · have H1 := Lib.hid h1
    have H2 := Lib.hid h2
    have H3 := Lib.hid h3
    clear hop h1 h2 h3
    go_wp2_with fail
    go_ret
    exact .inr ⟨H1.out, A, c, rfl, H2.out, H3.out⟩
theorem rest_vs {p r : Nat → Prop} {x : Value} (fb db : Nat) {D : TypeId} (w : World) (hx : VS p w x) (he : ∀ k, (inU k ∧ ¬ p k) ↔ r k) (hb : BdN r 1000) (hf : w.heap[fb]? = some (.cells #[.int .i64 0] 32 (0, 0)))
    (hd : w.heap[db]? = some (.cells #[.func (.func 19) #[] #[.pointer (some ⟨fb, 0, none⟩)]] D (0, 0))) :
    Calls Tryz.prog 20 #[x, .pointer (some ⟨db, 0, none⟩)] w fun e w' => ∃ v, e = .returned v ∧ VS r w' v ∧ Below w.heap.size w w' :=
  (rest_got2 (r := r) fb db w hx he hf hd).mono fun e w' h => by
    rcases h with h | ⟨⟨T, t1, t2, t3, t4⟩, _⟩
    · exact h
    · exact absurd (hb T t1 t2 t3) (by omega)
end Go.Proofs.YtcmfkheohhfpiaaGreatDoor
