/- route.turns. -/
import Derived.Test.YtkbbmlkgaooaiaaGreatDoorTuA
import Derived.Test.YtkbbmlkgaooaiaaGreatDoorMkE
import Derived.Test.YtkbbmlkgaooaiaaGreatDoorHlA
import Derived.Test.YtkbbmlkgaooaiaaGreatDoorTnO
import Derived.Deep.RegionHeld3
import Derived.Deep.Cut
import Derived.Deep.CutRange
import Derived.BigQuiet
import Derived.WalkSmall
namespace Go.Hw
/-- Is a node up, by all that is told. -/
def upLast (l : List Hl) (n : ByteArray) : Bool := l.foldl (fun u h => if h.node = n then h.up else u) false
theorem upLast_snoc (l : List Hl) (x : Hl) (n : ByteArray) : upLast (l ++ [x]) n = if x.node = n then x.up else upLast l n := by
  unfold upLast
  rw [List.foldl_append]
  rfl
theorem take_getH {l : List Hl} {i : Nat} (h : i < l.length) : l.take (i + 1) = l.take i ++ [l.getD i noHl] := by
  rw [List.take_succ_eq_append_getElem h, List.getD_eq_getElem?_getD, List.getElem?_eq_getElem h]
  rfl
theorem take_getR {l : List Rt} {i : Nat} (h : i < l.length) : l.take (i + 1) = l.take i ++ [l.getD i noRt] := by
  rw [List.take_succ_eq_append_getElem h, List.getD_eq_getElem?_getD, List.getElem?_eq_getElem h]
  rfl
theorem up_eq {l : List Hl} (h : Rises l) {i : Nat} (hi : i ≤ l.length) {t : Int} (hb : ∀ j, j < i → (l.getD j noHl).at_ ≤ t) (ha : i < l.length → t < (l.getD i noHl).at_) (n : ByteArray) : upAt l n t = upLast (l.take i) n := by
  rw [upAt_take h n (fun h' => ha h')]
  have h2 : ∀ y ∈ l.take i, y.at_ ≤ t := by
    intro y hy
    obtain ⟨k, hk, e⟩ := List.getElem_of_mem hy
    simp at hk
    have h4 : l.getD k noHl = y := by
      rw [List.getD_eq_getElem?_getD, List.getElem?_eq_getElem (by omega)]
      simpa using e
    rw [← h4]
    exact hb k (by omega)
  unfold upAt upLast
  generalize false = o
  generalize l.take i = m at h2
  induction m generalizing o with
  | nil => rfl
  | cons y m ih =>
    rw [List.foldl_cons, List.foldl_cons]
    have hy := h2 y (by simp)
    have e : (if y.node = n ∧ y.at_ ≤ t then y.up else o) = (if y.node = n then y.up else o) := by simp [hy]
    rw [e]
    exact ih _ (fun z hz => h2 z (List.mem_cons_of_mem _ hz))
theorem scan_snoc (up : ByteArray → Bool) (r : List Rt) (x : Rt) : scanP up (r ++ [x]) = if up x.node = true ∧ (scanP up r).2 < x.weight then (x.node, x.weight) else scanP up r := by
  unfold scanP
  rw [List.foldl_append]
  rfl
/-- The end of a group. -/
theorem turn_end {r : List Rt} {l : List Hl} (hl : Rises l) {i k : Nat} {t : Int} (hik : i ≤ k) (hk : k ≤ l.length) (hi : i < l.length) (ht : (l.getD i noHl).at_ = t) (hsame : ∀ j, i ≤ j → j < k → (l.getD j noHl).at_ = t) (hend : ¬ (k < l.length ∧ (l.getD k noHl).at_ = t)) :
    i < k ∧ (∀ n, upLast (l.take k) n = upAt l n t) ∧ turnSt r l k = turnStep r l (turnSt r l i) t ∧ Edge l k := by
  have h1 : i < k := by
    by_cases e : k = i
    · subst e; exact absurd ⟨hi, ht⟩ hend
    · omega
  have hlast := hsame (k - 1) (by omega) (by omega)
  have hend' : k = l.length ∨ (l.getD k noHl).at_ ≠ (l.getD (k - 1) noHl).at_ := by
    by_cases e : k = l.length
    · exact .inl e
    · exact .inr (fun e' => hend ⟨by omega, by rw [e', hlast]⟩)
  refine ⟨h1, fun n => (up_eq hl hk (fun j hj => ?_) (fun hkl => ?_) n).symm, ?_, edge_end hl h1 hk hend'⟩
  · by_cases e : i ≤ j
    · have := hsame j e hj; omega
    · have := hl.le (i := j) (i - j) (by omega)
      rw [show j + (i - j) = i from by omega] at this
      omega
  · have h2 := hl (k - 1) (by omega)
    rw [show k - 1 + 1 = k from by omega] at h2
    have h3 : (l.getD k noHl).at_ ≠ t := fun e => hend ⟨hkl, e⟩
    omega
  · rw [turnSt_next r l i k h1 hk (fun j a b => by rw [hsame (j + 1) (by omega) (by omega), hsame j a (by omega)]) hend', hlast]
end Go.Hw

namespace Go.Proofs.YtkbbmlkgaooaiaaGreatDoor
open Go.RowKit Go.Hw Go.Shelf

theorem hl_fine {l : List Hl} (h : hlFault l = 0) (hl : l.length ≤ 2000) : HlFine l := by
  have hp := fun i (hi : i < l.length) => hl_of (hl_parts h hl hi)
  have hm : ∀ x ∈ l, ∃ i, i < l.length ∧ l.getD i noHl = x := fun x hx => by
    obtain ⟨i, hi, e⟩ := List.getElem_of_mem hx
    exact ⟨i, hi, by rw [List.getD_eq_getElem?_getD, List.getElem?_eq_getElem hi]; simpa using e⟩
  refine ⟨fun i hi => ?_, fun x hx => ?_, fun x hx => ?_⟩
  · have h1 := (hp (i + 1) hi).2.2 (by omega)
    rw [Nat.add_sub_cancel] at h1
    have := orOf_two h1
    exact cmpI_le (by omega)
  · obtain ⟨i, hi, rfl⟩ := hm x hx
    have := (hp i hi).1
    unfold isMom at this
    simp only [Bool.and_eq_true, decide_eq_true_eq] at this
    unfold endT
    omega
  · obtain ⟨i, hi, rfl⟩ := hm x hx
    have := (hp i hi).2.1
    unfold isKey at this
    simp only [Bool.and_eq_true, decide_eq_true_eq] at this
    omega
theorem rt_mem {r : List Rt} {x : Rt} (hx : x ∈ r) : ∃ i, i < r.length ∧ r.getD i noRt = x := by
  obtain ⟨i, hi, e⟩ := List.getElem_of_mem hx
  exact ⟨i, hi, by rw [List.getD_eq_getElem?_getD, List.getElem?_eq_getElem hi]; simpa using e⟩
theorem rt_fine {r : List Rt} (h : rtFault r = 0) (hl : r.length ≤ 500) : RtFine r := by
  have hp := fun i (hi : i < r.length) => rt_of (rt_parts h hl hi)
  refine ⟨fun x hx => ?_, fun x hx => ?_⟩
  · obtain ⟨i, hi, rfl⟩ := rt_mem hx
    have := (hp i hi).2.1
    unfold isKey at this
    simp only [Bool.and_eq_true, decide_eq_true_eq] at this
    omega
  · obtain ⟨i, hi, rfl⟩ := rt_mem hx
    exact (hp i hi).2.2.1.1
theorem run_up {w : World} {b : Nat} {um : List (ByteArray × Bool)} (h : MapIs w b Value.bool um) (u : ByteArray) :
    (Instr.lookup 152 (.map (some b)) (.string u) false).run Tryz.prog w = .ok (.bool ((get um u).getD false)) w := by
  rw [run_get h (P := Tryz.prog) Tryz.underlying152 Tryz.underlying9 (Tryz.zeroBool _) u]
  cases get um u <;> rfl
/-- Ahead of the group at i. -/
def TuI (w : World) (r : List Rt) (l : List Hl) (c : Nat) (v6 v7 v8 : Value) (wr : World) : Prop :=
  ∃ (i : Nat) (sv : Value) (um : List (ByteArray × Bool)), c = l.length - i ∧ sv = v6 ∧ v7 = .string (turnSt r l i).1 ∧ v8 = .int .i64 i ∧ i ≤ l.length ∧ Hw.Edge l i ∧ MapIs wr w.heap.size Value.bool um ∧ (∀ n, (get um n).getD false = upLast (l.take i) n) ∧
    TnsOwn wr (w.heap.size + 1) sv (turnSt r l i).2 ∧ Below w.heap.size w wr
/-- In a group. -/
def UpI (w : World) (l : List Hl) (t : Int) (i : Nat) (sv : Value) (out : List Tn) (v8 : Value) (wr : World) : Prop :=
  ∃ (k : Nat) (um : List (ByteArray × Bool)), v8 = .int .i64 k ∧ i ≤ k ∧ k ≤ l.length ∧ (∀ j, i ≤ j → j < k → (l.getD j noHl).at_ = t) ∧ MapIs wr w.heap.size Value.bool um ∧ (∀ n, (get um n).getD false = upLast (l.take k) n) ∧
    TnsOwn wr (w.heap.size + 1) sv out ∧ Below w.heap.size w wr
/-- While the best is sought. -/
def ScI (wx : World) (r : List Rt) (U : ByteArray → Bool) (c : Nat) (v10 v11 v57 : Value) (wi : World) : Prop :=
  ∃ j : Nat, c = r.length - j ∧ j ≤ r.length ∧ v57 = .int .i64 j ∧ v10 = .string (scanP U (r.take j)).1 ∧ v11 = .int .i64 (scanP U (r.take j)).2 ∧ Below wx.heap.size wx wi

theorem mk_tu {w : World} {r : List Rt} {l : List Hl} {k : Nat} {sv : Value} {next : ByteArray} {out : List Tn} {um : List (ByteArray × Bool)} {W : World} (hS : turnSt r l k = (next, out)) (hk : k ≤ l.length) (hE : Hw.Edge l k) (hM : MapIs W w.heap.size Value.bool um)
    (hget : ∀ n, (get um n).getD false = upLast (l.take k) n) (hO : TnsOwn W (w.heap.size + 1) sv out) (hb : Below w.heap.size w W) : TuI w r l (l.length - k) sv (.string next) (.int .i64 k) W :=
  ⟨k, sv, um, rfl, rfl, by rw [hS], rfl, hk, hE, hM, hget, by rw [hS]; exact hO, hb⟩
theorem bytes_ne {a b : ByteArray} (h : a ≠ b) : (a.toList == b.toList) = false := by
  rw [beq_eq_false_iff_ne]
  exact fun e => h (bytes_ext e)

set_option maxRecDepth 100000 in
set_option maxHeartbeats 4000000 in
theorem turns_any (A : Option Addr) (cap : Nat) (r : List Rt) (AH : Option Addr) (capH : Nat) (l : List Hl) (w : World) (h : RtsAt w w.heap.size A r) (hH : HlsAt w w.heap.size AH l) (hr : RtFine r) (hl : HlFine l) (hrl : r.length ≤ 500) (hll : l.length ≤ 2000) :
    Calls Tryz.prog 51 #[.slice A r.length cap, .slice AH l.length capH] w fun e w' => ∃ v, e = .returned v ∧ TnsOwn w' w.heap.size v (turnsP r l) ∧ Below w.heap.size w w' := by
  have hmm := @run_makeMap Tryz.prog
  obtain ⟨i0, hi, hz0, hz1, hz2⟩ := info_parts Tryz.infoTurn
  have H := Lib.hid h
  have HH := Lib.hid hH
  have HR := Lib.hid hr
  have HL := Lib.hid hl
  clear h hH hr hl
  go_enter Tryz.func51, Tryz.ntmps51
  go_wp2_with fail
  go_loopg [6, 7, 8] (l.length) (fun c v6 v7 v8 wr => TuI w r l c v6 v7 v8 wr)
  case atStart => exact ⟨0, _, [], by omega, rfl, rfl, rfl, by omega, .inl rfl, MapIs.made w _, fun n => rfl, World.ownsRow_nil _ _ _ _, (Below.refl _ _).alloc (Nat.le_refl _) _⟩
  case round =>
    obtain ⟨i, sv, um, hcl, rfl, rfl, rfl, hi', hE, hM, hget, hO, hb⟩ := hrel
    have B := behind_any HR.out HL.out i i (Nat.le_refl _) hi' hE
    by_cases hlt : i < l.length
    · obtain ⟨g, off, rfl, hgb, c0, c1, c2⟩ := (HH.out.below hb) i hlt
      have hU0 : UpI w l (l.getD i noHl).at_ i sv (turnSt r l i).2 (.int .i64 i) wr := ⟨i, um, rfl, Nat.le_refl _, hi', fun j a b => by omega, hM, hget, hO, hb⟩
      have HU0 := Lib.hid hU0
      have ht0 := HL.out.time _ (mem_getD hlt)
      have HTE : Hid ((l.getD i noHl).at_ = (l.getD i noHl).at_) := Lib.hid rfl
      generalize hte : (l.getD i noHl).at_ = t at c0 HU0 ht0
      have HTT := Lib.hid hte
      have hinv := Lib.hid B.inv
      have hmany := Lib.hid B.many
      have HCL := Lib.hid hcl
      clear hM hget hO hb hU0 c1 c2 hte HTE B hE hcl
      go_wp2_with fail
      clear c0
      go_loopw [8] (fun v8 wi => UpI w l t i sv (turnSt r l i).2 v8 wi) (fun v8 _ => l.length - (intOf v8).toNat)
      case atStart => exact HU0.out
      case round =>
        clear HU0
        obtain ⟨k, um, rfl, hik, hk, hsame, hM, hget, hO, hb⟩ := hrel
        by_cases hc : k < l.length ∧ (l.getD k noHl).at_ = t
        · obtain ⟨hklt, hkt⟩ := hc
          obtain ⟨g', off', e', hgb', c0, c1, c2⟩ := (HH.out.below hb) k hklt
          injection e' with e'
          injection e' with e1 e2
          subst e1 e2
          have hgn : ∀ n, (get (Hw.put um (l.getD k noHl).node (l.getD k noHl).up) n).getD false = upLast (l.take (k + 1)) n := fun n => by
            rw [get_put, take_getH hklt, upLast_snoc]
            by_cases e : n = (l.getD k noHl).node
            · rw [if_pos e, if_pos e.symm]; rfl
            · rw [if_neg e, if_neg (Ne.symm e)]; exact hget n
          obtain ⟨w5, hput, hM5, hg5, _⟩ := run_put hM.drew (P := Tryz.prog) Tryz.underlying152 Tryz.underlying9 (l.getD k noHl).node (l.getD k noHl).up
          have hg5' := drew_grown' hg5
          have hN : UpI w l t i sv (turnSt r l i).2 (.int .i64 ((k + 1 : Nat) : Int)) w5 := ⟨k + 1, _, rfl, by omega, hklt, fun j a b => by
            by_cases e : j = k
            · rw [e]; exact hkt
            · exact hsame j a (by omega), hM5, hgn, hO.keep hg5' (fun j hj => by injection hj with hj; omega), hb.grown hg5' hb.size (fun j hj => by injection hj with hj; omega)⟩
          have HN := Lib.hid hN
          have hgw : g < wr.heap.size := Nat.lt_of_lt_of_le hgb hb.size
          have hne : g ≠ w.heap.size := by omega
          have y0 := (hg5.cell_far ⟨g, off + k * 3 + 1, none⟩ hgw (by simp; omega)).trans c1
          have y1 := (hg5.cell_far ⟨g, off + k * 3 + 2, none⟩ hgw (by simp; omega)).trans c2
          rw [hkt] at c0
          clear hM hget hO hb hgn hM5 hg5 hg5' hN hsame
          generalize l.getD k noHl = x at *
          obtain ⟨xa, xn, xu⟩ := x
          simp only at c1 c2 y0 y1 hput
          go_wp2_with fail
          go_region_held3 (fun w' => w'.cell? ⟨g, off + k * 3 + 1, none⟩ = some (.string xn) ∧ w'.cell? ⟨g, off + k * 3 + 2, none⟩ = some (.bool xu))
            (first | go_keep | exact ⟨c1, c2⟩ | exact ⟨y0, y1⟩) (fail)
          clear y0 y1 hput
          go_wp2_with fail
          go_roundw
          case rel => exact HN.out
          case measure => simp [intOf]; omega
        · obtain ⟨hik', hU, hS, hE'⟩ := turn_end (r := r) HL.out.rises hik hk hlt HTT.out hsame hc
          obtain ⟨U, hUe⟩ : ∃ U : ByteArray → Bool, ∀ n, upAt l n t = U n := ⟨_, fun _ => rfl⟩
          have hUf : (fun n => upAt l n t) = U := funext hUe
          have hlook : ∀ u (W : World), MapIs W w.heap.size Value.bool um → (Instr.lookup 152 (.map (some w.heap.size)) (.string u) false).run Tryz.prog W = .ok (.bool (U u)) W := fun u W h => by
            rw [run_up h, hget, hU, hUe]
          unfold turnStep at hS
          rw [hUf] at hS
          have HE := Lib.hid hE'
          have HM := Lib.hid hM
          have HBW := Lib.hid hb
          have HG := Lib.hid hget
          have hml := hb.size
          have hmw : w.heap.size < wr.heap.size := hM.lt
          clear hE' hget hb hsame hU hUe hUf hM HTT
          generalize turnSt r l i = st at *
          obtain ⟨first, out⟩ := st
          dsimp only at hS hO hinv hmany ⊢
          have HS := Lib.hid hS
          have HO := Lib.hid hO
          have hlk := hlook first wr HM.out
          have HLK := Lib.hid hlook
          clear hS hO hlook
          rcases (show k = l.length ∨ (k < l.length ∧ (l.getD k noHl).at_ ≠ t) from by
            by_cases h1 : k < l.length
            · exact .inr ⟨h1, fun e => hc ⟨h1, e⟩⟩
            · exact .inl (by omega)) with hend | ⟨hklt, hgt⟩
          case' inl =>
            have hd : decide (k < l.length) = false := by simp; omega
            clear hc hend
            go_upto_if 54 with (fail)
          case' inr =>
            obtain ⟨g', off', e', hgb', c0, c1, c2⟩ := (HH.out.below HBW.out) k hklt
            injection e' with e'
            injection e' with e1 e2
            subst e1 e2
            clear hc c1 c2
            have hd : decide (k < l.length) = true := by simp; omega
            generalize (l.getD k noHl).at_ = xa at c0 hgt
            have hgt2 : (xa == t) = false := by rw [beq_eq_false_iff_ne]; exact hgt
            go_upto_if 54 with (fail)
            clear c0 hgt2
          all_goals
            clear hd
            go_cut [10] from 15 to 96 (fun v10 wc => v10 = .string (nextP U r first) ∧ Below wr.heap.size wr wc)
            case first =>
              by_cases hu : U first = true
              · have hnx : nextP U r first = first := by unfold nextP; rw [if_pos hu]
                have hub : (!U first) = false := by rw [hu]; rfl
                rw [hu] at hlk
                simp only [hu, Bool.not_true]
                go_wp2_with fail
                go_meet
                exact ⟨by rw [hnx], Below.refl _ _⟩
              · have hnx : nextP U r first = (scanP U r).1 := by unfold nextP; rw [if_neg hu]
                have hu := eq_false_of_ne_true hu
                rw [hu] at hlk
                simp only [hu, Bool.not_false]
                go_wp2_with fail
                obtain ⟨wx, rfl⟩ : ∃ wx : World, wx = wr := ⟨_, rfl⟩
                go_loopg [10, 11, 57] (r.length) (fun c v10 v11 v57 wi => ScI wx r U c v10 v11 v57 wi)
                case atStart => exact ⟨0, by omega, by omega, rfl, rfl, rfl, Below.refl _ _⟩
                case round =>
                  obtain ⟨j, hcj, hj, rfl, rfl, rfl, hbi⟩ := hrel
                  by_cases hjt : j < r.length
                  · obtain ⟨g6, off6, rfl, hg6, d0, d1, d2, d3, d4, d5⟩ := (H.out.below (HBW.out.trans (hbi.mono hml))) j hjt
                    have hsn := scan_snoc U (r.take j) (r.getD j noRt)
                    rw [← take_getR hjt] at hsn
                    have hMi := HM.out.below hbi hmw
                    have hbi' := hbi.size
                    generalize r.getD j noRt = x at *
                    obtain ⟨xs, xh, xl, xb, xn, xw⟩ := x
                    dsimp only at d0 d1 d2 d3 d4 d5 hsn
                    have hlk3 := HLK.out xn _ (hMi.alloc (.cells #[.bool xs, .int .u64 xh, .int .u64 xl, .int .i64 xb, .string xn, .int .i64 xw] 55))
                    have hb2 := hbi.alloc hbi.size (.cells #[.bool xs, .int .u64 xh, .int .u64 xl, .int .i64 xb, .string xn, .int .i64 xw] 55)
                    have HB2 := Lib.hid hb2
                    clear hMi hbi hb2
                    by_cases hu2 : U xn = true
                    · rw [hu2] at hlk3
                      by_cases hbw : (scanP U (r.take j)).2 < xw
                      · have HSN := Lib.hid (hsn.trans (if_pos ⟨hu2, hbw⟩))
                        clear hsn
                        go_wp2_with fail
                        go_quiet (fail)
                        go_wp2_with fail
                        go_roundg (r.length - (j + 1))
                        case measure => omega
                        case rel => exact ⟨j + 1, rfl, by omega, by go_num, by rw [HSN.out], by rw [HSN.out], below_drewN HB2.out _⟩
                      · have HSN := Lib.hid (hsn.trans (if_neg (fun e => hbw e.2)))
                        clear hsn
                        go_wp2_with fail
                        go_roundg (r.length - (j + 1))
                        case measure => omega
                        case rel => exact ⟨j + 1, rfl, by omega, by go_num, by rw [HSN.out], by rw [HSN.out], HB2.out⟩
                    · have hu2 := eq_false_of_ne_true hu2
                      rw [hu2] at hlk3
                      have HSN := Lib.hid (hsn.trans (if_neg (fun e => by rw [hu2] at e; exact absurd e.1 (by decide))))
                      clear hsn
                      go_wp2_with fail
                      go_roundg (r.length - (j + 1))
                      case measure => omega
                      case rel => exact ⟨j + 1, rfl, by omega, by go_num, by rw [HSN.out], by rw [HSN.out], HB2.out⟩
                  · have htk : r.take j = r := List.take_of_length_le (by omega)
                    have HRR := Lib.hid hnx
                    clear hnx
                    rw [htk]
                    go_wp2_with fail
                    go_meet
                    exact ⟨by rw [HRR.out], hbi⟩
            case rest =>
              obtain ⟨rfl, hbc⟩ := hcut
              have hMc := HM.out.below hbc hmw
              have hOc : TnsOwn wc (w.heap.size + 1) sv out := own_below HO.out hbc (Nat.le_refl _)
              have hBc := HBW.out.trans (hbc.mono hml)
              have hcz := hBc.size
              have HMC := Lib.hid hMc
              have HBC := Lib.hid hBc
              have hil := hmany.out
              clear hbc HO HM HBW hMc hBc HLK hlk
              generalize nextP U r first = next at *
              by_cases hne : next = first
              · have hS' : turnSt r l k = (first, out) := by rw [HS.out, if_pos hne]
                have HREL := Lib.hid (mk_tu hS' hk HE.out HMC.out HG.out hOc HBC.out)
                subst hne
                have e1 : (next.toList == next.toList) = true := by simp
                clear hS' hOc
                go_wp2_with fail
                go_roundg (l.length - k)
                case measure => have := HCL.out; omega
                case rel => exact HREL.out
              · have hS' : turnSt r l k = (next, laidP out first next t) := by rw [HS.out, if_neg hne]
                have HS' := Lib.hid hS'
                have e1 := bytes_ne hne
                clear hS' HS hne
                rcases hinv.out.open_ with ⟨he, _⟩ | ⟨hfs, l0, f, rfl, _⟩
                · obtain rfl : first = ⟨#[]⟩ := he
                  by_cases hnz : next.size = 0
                  · obtain rfl : next = ⟨#[]⟩ := size0 hnz rfl
                    have HREL := Lib.hid (mk_tu HS'.out hk HE.out HMC.out HG.out (show TnsOwn wc (w.heap.size + 1) sv (laidP out ByteArray.empty ⟨#[]⟩ t) by rw [laid_none, if_neg (by simp [hnz]), List.append_nil]; exact hOc) HBC.out)
                    clear hOc hnz
                    go_wp2_with fail
                    go_roundg (l.length - k)
                    case measure => have := HCL.out; omega
                    case rel => exact HREL.out
                  · obtain ⟨r1, r2⟩ := str_ne hnz
                    have HL0 := Lib.hid (laid_none (out := out) (next := next) (t := t))
                    have HOC := Lib.hid hOc
                    have HNZ := Lib.hid hnz
                    clear hOc hnz
                    go_wp2_with (at_builtin; refine wpList_append_own _ rfl (.tmp 90) (.tmp 94) 50 rfl (w.heap.size + 1) 151 i0 (.agg #[.string ⟨#[]⟩, .int .i64 0, .int .i64 0]) 3 32 Tryz.underlying50 hi hz0 hz1 hz2 rfl (by decide) _ _ _ rfl (World.ownsRow.alloc HOC.out _) ⟨wc.heap.size, 0, none⟩ 1 1 [.string next, .int .i64 t, .int .i64 345686400] rfl rfl (cells_new wc [.string next, .int .i64 t, .int .i64 345686400] _) (by simp [Value.oneCell']) (by unfold maxLen; first | omega | (simp; omega)) (by first | omega | (simp; omega)) (by have := HBC.out.size; first | omega | (simp; omega) | simp) ?_)
                    intro v' w3 ho3 hg4 _
                    have hlt' := World.ownsRow.lt HOC.out
                    have hown : TnsOwn w3 (w.heap.size + 1) v' (laidP out ⟨#[]⟩ next t) := by
                      rw [show laidP out ⟨#[]⟩ next t = out ++ [⟨next, t, endT⟩] from by rw [show (⟨#[]⟩ : ByteArray) = ByteArray.empty from rfl, HL0.out, if_pos HNZ.out]]
                      unfold TnsOwn
                      rw [tns_snoc]
                      exact own_cast ho3 (by simp) rfl
                    have hMn := (HMC.out.alloc _).grown hg4 (fun e => by have := (hlt' _ e.symm).1; omega)
                    have hbn := (HBC.out.alloc HBC.out.size _).grown hg4 (HBC.out.alloc HBC.out.size _).size (fun j hj => by have := (hlt' j hj).1; omega)
                    have HREL := Lib.hid (mk_tu HS'.out hk HE.out hMn HG.out hown hbn)
                    clear ho3 hg4 hlt' hown hMn hbn
                    go_wp2_with fail
                    go_roundg (l.length - k)
                    case measure => have := HCL.out; omega
                    case rel => exact HREL.out
                · obtain ⟨y1, y2⟩ := str_ne hfs
                  obtain ⟨g, capT, rfl, hgb, hgl, hcap, x0, x1, x2, fz⟩ := hOc.last
                  obtain ⟨ho1, hg1⟩ := hOc.close t
                  dsimp only at ho1 hg1 x0 x1 x2 fz
                  have hl0 : l0.length < 100000 := by simp at hil; omega
                  have s0 : IntKind.i64.wrap (((l0.length + 1 : Nat) : Int) - 1) = (l0.length : Int) := by rw [IntWalk.i64_in _ (by omega)]; omega
                  have s1 : ((l0.length + 1 : Nat) : Int) - 1 = (l0.length : Int) := by omega
                  have HL0 := Lib.hid (laid_some (l0 := l0) (first := first) (next := next) (f := f) (t := t) hfs)
                  have hMs := HMC.out.setCell (a := ⟨g, l0.length * 3 + 2, none⟩) (by show w.heap.size ≠ g; omega) (.int .i64 t)
                  have hbs := HBC.out.grown hg1 HBC.out.size (fun j hj => by injection hj with hj; omega)
                  have HMS := Lib.hid hMs
                  have HBS := Lib.hid hbs
                  have HO1 := Lib.hid ho1
                  clear hOc hg1 ho1 hMs hbs hfs hil
                  by_cases hnz : next.size = 0
                  · obtain rfl : next = ⟨#[]⟩ := size0 hnz rfl
                    have HREL := Lib.hid (mk_tu HS'.out hk HE.out HMS.out HG.out (by rw [HL0.out, if_neg (by simp [hnz]), List.append_nil]; exact HO1.out) HBS.out)
                    clear hnz
                    go_wp2_with fail
                    go_roundg (l.length - k)
                    case measure => have := HCL.out; omega
                    case rel => simpa using HREL.out
                  · obtain ⟨r1, r2⟩ := str_ne hnz
                    have HNZ := Lib.hid hnz
                    clear hnz
                    go_wp2_with (at_builtin; refine wpList_append_own _ rfl (.tmp 90) (.tmp 94) 50 rfl (w.heap.size + 1) 151 i0 (.agg #[.string ⟨#[]⟩, .int .i64 0, .int .i64 0]) 3 32 Tryz.underlying50 hi hz0 hz1 hz2 rfl (by decide) _ _ _ rfl (World.ownsRow.alloc HO1.out _) ⟨wc.heap.size, 0, none⟩ 1 1 [.string next, .int .i64 t, .int .i64 345686400] rfl rfl (by have := cells_new (wc.setCell ⟨g, l0.length * 3 + 2, none⟩ (.int .i64 t)) [.string next, .int .i64 t, .int .i64 345686400] 151; simpa using this) (by simp [Value.oneCell']) (by unfold maxLen; first | omega | (simp; omega)) (by first | omega | (simp; omega)) (by have := HBC.out.size; first | omega | (simp; omega) | simp) ?_)
                    intro v' w3 ho3 hg4 _
                    have hlt' := World.ownsRow.lt HO1.out
                    have hown : TnsOwn w3 (w.heap.size + 1) v' (laidP (l0 ++ [⟨first, f, endT⟩]) first next t) := by
                      rw [HL0.out, if_pos HNZ.out]
                      unfold TnsOwn
                      rw [tns_snoc]
                      exact own_cast ho3 (by simp) rfl
                    have hMn := (HMS.out.alloc _).grown hg4 (fun e => by have := (hlt' _ e.symm).1; omega)
                    have hbn := (HBS.out.alloc HBS.out.size _).grown hg4 (HBS.out.alloc HBS.out.size _).size (fun j hj => by have := (hlt' j hj).1; omega)
                    have HREL := Lib.hid (mk_tu HS'.out hk HE.out hMn HG.out hown hbn)
                    clear ho3 hg4 hlt' hown hMn hbn
                    go_wp2_with fail
                    go_roundg (l.length - k)
                    case measure => have := HCL.out; omega
                    case rel => exact HREL.out
    · have : i = l.length := by omega
      subst this
      have HFIN := Lib.hid (show TnsOwn wr w.heap.size sv (turnsP r l) from own_base hO (by omega))
      clear hM hget hO B hE hcl
      go_wp2_with fail
      go_ret
      exact ⟨_, rfl, HFIN.out, hb⟩
end Go.Proofs.YtkbbmlkgaooaiaaGreatDoor
