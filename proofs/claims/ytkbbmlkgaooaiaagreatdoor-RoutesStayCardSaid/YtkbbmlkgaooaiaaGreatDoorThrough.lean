/- route.through and route.Through. -/
import Derived.Test.YtkbbmlkgaooaiaaGreatDoorDistances
import Derived.Test.YtkbbmlkgaooaiaaGreatDoorCheckL
namespace Go.Proofs.YtkbbmlkgaooaiaaGreatDoor
open Go.RowKit Go.Hw

/-- A way that begins at a, has come to u, and is s long. -/
inductive TrailTo (x : List Link) (a : ByteArray) : List ByteArray → ByteArray → Nat → Prop
  | start : TrailTo x a [a] a 0
  | step {ts : List ByteArray} {u v : ByteArray} {s m : Nat} (h : TrailTo x a ts u s) (hm : (v, m) ∈ stepsAt x u) : TrailTo x a (ts ++ [v]) v (s + m)

def strCells (ts : List ByteArray) : List Value := ts.map Value.string

/-- A step that lies on a shortest way. -/
def Cand (out : List (ByteArray × (Nat × Nat))) (d : Nat × Nat) (s : ByteArray × Nat) : Prop := ∃ dv, get out s.1 = some dv ∧ dv.1 + s.2 = d.1 ∧ dv.2 + 1 = d.2
/-- What is known of the next relay when the first i steps have been looked at. -/
def NextIs (out : List (ByteArray × (Nat × Nat))) (d : Nat × Nat) (st : List (ByteArray × Nat)) (i : Nat) (next : ByteArray) : Prop :=
  (next = ⟨#[]⟩ ∧ ∀ j s, j < i → st[j]? = some s → ¬ Cand out d s) ∨ (∃ s ∈ st, Cand out d s ∧ next = s.1)
theorem NextIs.skip {out : List (ByteArray × (Nat × Nat))} {d : Nat × Nat} {st : List (ByteArray × Nat)} {i : Nat} {next : ByteArray} (h : NextIs out d st i next) {s : ByteArray × Nat} (hs : st[i]? = some s) (hn : ¬ Cand out d s) : NextIs out d st (i + 1) next := by
  rcases h with ⟨h1, h2⟩ | h
  · refine .inl ⟨h1, fun j t hj ht => ?_⟩
    by_cases e : j = i
    · subst e; rw [hs] at ht; injection ht with ht; subst ht; exact hn
    · exact h2 j t (by omega) ht
  · exact .inr h
theorem NextIs.stay {out : List (ByteArray × (Nat × Nat))} {d : Nat × Nat} {st : List (ByteArray × Nat)} {i : Nat} {next : ByteArray} (h : NextIs out d st i next) (hne : next ≠ ⟨#[]⟩) : NextIs out d st (i + 1) next := by
  rcases h with ⟨h1, _⟩ | h
  · exact absurd h1 hne
  · exact .inr h
theorem NextIs.take {out : List (ByteArray × (Nat × Nat))} {d : Nat × Nat} {st : List (ByteArray × Nat)} {i : Nat} {s : ByteArray × Nat} (hs : st[i]? = some s) (hc : Cand out d s) : NextIs out d st (i + 1) s.1 :=
  .inr ⟨s, List.mem_of_getElem? hs, hc, rfl⟩

/-- What holds ahead of a round: the way has come to u. -/
def WInv (w3 : World) (xs : List Link) (out : List (ByteArray × (Nat × Nat))) (a : ByteArray) (d0 : Nat) (k : Nat) (v13 v14 : Value) (wr : World) : Prop :=
  ∃ ts u s du, v14 = .string u ∧ wr.ownsRow w3.heap.size 9 1 v13 ts.length (strCells ts) ∧ TrailTo xs a ts u s ∧ get out u = some du ∧ s + du.1 = d0 ∧ du.2 = k ∧ ts.length + k ≤ 2000 ∧ Below w3.heap.size w3 wr
def SInv (w3 : World) (out : List (ByteArray × (Nat × Nat))) (d : Nat × Nat) (st : List (ByteArray × Nat)) (v13 : Value) (ts : List ByteArray) (k : Nat) (v15 v43 : Value) (wi : World) : Prop :=
  ∃ i next, v43 = .int .i64 (i : Nat) ∧ v15 = .string next ∧ i + k = st.length ∧ wi.ownsRow w3.heap.size 9 1 v13 ts.length (strCells ts) ∧ NextIs out d st i next ∧ Below w3.heap.size w3 wi
theorem below_drewN' {B : Nat} {a w : World} (h : Below B a w) (n : Nat) : Below B a (w.drewN n) := ⟨h.os, h.tape, h.output, h.size, h.block⟩
theorem own_drewN {w : World} {base : Nat} {e : TypeId} {size : Nat} {v : Value} {n : Nat} {xs : List Value} (h : w.ownsRow base e size v n xs) (k : Nat) : (w.drewN k).ownsRow base e size v n xs := h
theorem own_one (w : World) (x : Value) (T : TypeId) : (w.alloc (.cells #[x] T)).ownsRow w.heap.size T 1 (.slice (some ⟨w.heap.size, 0, none⟩) 1 1) 1 [x] :=
  ⟨rfl, .inr ⟨w.heap.size, 1, #[x], rfl, Nat.le_refl _, heap_alloc_new w _, Nat.le_refl _, by decide, rfl, rfl⟩⟩

/-- What through comes to. -/
def ThroughOut (w : World) (xs : List Link) (a b : ByteArray) (e : Ending) (w' : World) : Prop :=
  Below w.heap.size w w' ∧
  ((e = .returned (.tuple #[.slice none 0 0, .int .i64 0, .int .i64 8]) ∧ ∀ s k, ¬ Walk xs b a s k) ∨
   ∃ v ts n, e = .returned (.tuple #[v, .int .i64 (n : Nat), .int .i64 0]) ∧ w'.ownsRow w.heap.size 9 1 v ts.length (strCells ts) ∧ TrailTo xs a ts b n ∧ Shortest xs b a n ∧ ts.length ≤ 2000)

theorem Tryz.infoStr : (Tryz.prog.info? 9).map (fun i => (i.zero, i.size, i.bytes)) = some (some (.string ⟨#[]⟩), 1, 16) := by kernel_rfl

set_option maxRecDepth 100000 in
set_option maxHeartbeats 1000000 in
theorem through_any (A : Option Addr) (cap : Nat) (xs : List Link) (a b : ByteArray) (w : World) (h : LksAt w w.heap.size A (xs.map lkOf)) (hl : xs.length ≤ 500) (hne : ∀ x ∈ xs, x.a ≠ x.b) (hm : ∀ l ∈ xs, l.m ≤ 1000000) (hk : ∀ x ∈ xs, 0 < x.a.size ∧ 0 < x.b.size) :
    Calls Tryz.prog 36 #[.slice A xs.length cap, .string a, .string b] w (ThroughOut w xs a b) := by
  obtain ⟨i0, hi0, hz0, hz1, hz2⟩ := info_parts Tryz.infoStr
  go_enter Tryz.func36, Tryz.ntmps36
  go_wp2_with fail
  refine (stepsOf_any A cap xs w h (by omega) hne).mono ?_
  rintro e w1 ⟨bS, mS, rfl, hG, hb1, hbS⟩
  go_wp2_with fail
  refine (distances_any bS mS _ xs b w1 hG hl hm).mono ?_
  rintro e w2 ⟨bO, out, rfl, hO, ⟨hT, hsm⟩, hb2, hbO⟩
  have hG2 := groups_below hG hb2
  have HT := Lib.hid hT
  have HSM := Lib.hid hsm
  have HK := Lib.hid hk
  have HM := Lib.hid hm
  clear h hG hne hT hk hm hsm
  have hl1 := run_far_ok hO a
  unfold farV at hl1
  cases hga : get out a with
  | none =>
    rw [hga] at hl1
    simp only [Option.getD_none, Option.isSome_none] at hl1
    have HN := Lib.hid (HT.out.none hga)
    clear hga
    go_wp2_with fail
    go_ret3
    refine ⟨(hb1.trans (hb2.mono hb1.size)).alloc (Nat.le_trans hb1.size hb2.size) _, .inl ⟨rfl, HN.out⟩⟩
  | some da =>
    rw [hga] at hl1
    simp only [Option.getD_some, Option.isSome_some] at hl1
    have HGA := Lib.hid hga
    clear hga
    go_wp2_with fail
    obtain ⟨w3, hw3⟩ : ∃ w3 : World, w3 = w2.alloc (.cells #[.int .i64 (da.1 : Int), .int .i64 (da.2 : Int)] 121) := ⟨_, rfl⟩
    have hz3 : w3.heap.size = w2.heap.size + 1 := by rw [hw3]; simp
    rw [← hw3, ← hz3]
    have hO3 : MapIs w3 bO farV out := by rw [hw3]; exact hO.alloc _
    have hG3 := hG2.alloc (.cells #[.int .i64 (da.1 : Int), .int .i64 (da.2 : Int)] 121)
    rw [← hw3] at hG3
    have hb3 : Below w.heap.size w w3 := by rw [hw3]; exact (hb1.trans (hb2.mono hb1.size)).alloc (Nat.le_trans hb1.size hb2.size) _
    have HO := Lib.hid hO3
    have HG := Lib.hid hG3
    have HB := Lib.hid hb3
    have hd2 : da.2 ≤ 1001 := HSM.out a da HGA.out
    clear hO hG2 hb1 hb2 hl1 hw3 hz3 hO3 hG3 hb3
    go_loopg [13, 14] (da.2) (fun k v13 v14 wr => WInv w3 xs out a da.1 k v13 v14 wr)
    case atStart => exact ⟨[a], a, 0, da, rfl, own_one w3 _ _, .start, HGA.out, by omega, rfl, by simp; omega, below_alloc w3 _⟩
    case round =>
      obtain ⟨ts, u, s, du, rfl, hown, hT, hgu, hs, rfl, hlen, hb⟩ := hrel
      by_cases hub : u = b
      · subst hub
        have hdu : du = (0, 0) := by have := HT.out.start; rw [hgu] at this; injection this
        subst hdu
        have hOr := map_below HO.out hb (Nat.le_refl _)
        have hq : ∀ n, (Instr.lookup 118 (.map (some bO)) (.string a) false).run Tryz.prog (wr.drewN n) = .ok (.agg #[.int .i64 (da.1 : Int), .int .i64 (da.2 : Int)]) (wr.drewN n) := fun n => by
          have h1 := run_far (show MapIs (wr.drewN n) bO farV out from hOr) a
          rw [HGA.out, Option.getD_some] at h1
          exact h1
        have hq0 := hq 0
        have hq1 := hq 1
        have hf0 := fld0
        have HFIN : Hid (s = da.1) := Lib.hid (by simpa using hs)
        have HSH := Lib.hid (HT.out.shortest HGA.out)
        clear hs
        go_wp2_with fail
        go_quiet (fail)
        go_wp2_with fail
        go_ret3
        exact ⟨below_drewN' (HB.out.trans (hb.mono HB.out.size)) _, .inr ⟨_, ts, da.1, rfl, own_base (own_drewN hown _) HB.out.size, by rw [← HFIN.out]; exact hT, HSH.out, by omega⟩⟩
      · have hne : (u.toList == b.toList) = false := by
          cases hc : u.toList == b.toList
          · rfl
          · exfalso
            apply hub
            have := eq_of_beq hc
            rw [ByteArray.toList_eq, ByteArray.toList_eq] at this
            exact WideShapes.bytes_inj this
        obtain ⟨A2, cap2, hrow, hcells⟩ := own_reads (HG.out.rows u)
        have hlk := (groups_below HG.out hb).look Tryz.underlying116 Tryz.underlying9 Tryz.zeroSteps u wr rfl
        rw [hrow] at hlk
        have HC := Lib.hid hcells
        clear hcells hrow
        have hsl : (stepsAt xs u).length ≤ 1000 := by have := steps_length xs u; omega
        obtain ⟨wo, rfl⟩ : ∃ wo : World, wo = wr := ⟨_, rfl⟩
        go_wp2_with fail
        clear hlk
        go_loopg [15, 43] ((stepsAt xs u).length) (fun k v15 v43 wi => SInv w3 out du (stepsAt xs u) u13 ts k v15 v43 wi)
        case atStart => exact ⟨0, ⟨#[]⟩, rfl, rfl, by omega, hown, .inl ⟨rfl, fun j _ h => absurd h (by omega)⟩, hb⟩
        case round =>
          have hbo := hb.size
          clear hown hb
          obtain ⟨i, next, rfl, rfl, hik, hown, hN, hb⟩ := hrel
          by_cases hi : i < (stepsAt xs u).length
          · obtain ⟨e0, e1⟩ := flat2 _ i hi
            obtain ⟨g, rfl, hg, c0⟩ := HC.out _ _ e0
            obtain ⟨g', eg, hg', c1⟩ := HC.out _ _ e1
            injection eg with eg
            injection eg with eg
            subst eg
            have hsi : (stepsAt xs u)[i]? = some ((stepsAt xs u)[i].1, (stepsAt xs u)[i].2) := List.getElem?_eq_getElem hi
            have HI := Lib.hid hsi
            have HMem := Lib.hid (show ((stepsAt xs u)[i].1, (stepsAt xs u)[i].2) ∈ stepsAt xs u from List.getElem_mem hi)
            generalize (stepsAt xs u)[i].1 = v at *
            generalize (stepsAt xs u)[i].2 = m at *
            have bm : m ≤ 1000000 := by
              obtain ⟨l, hl, h2 | h2⟩ := mem_steps.1 HMem.out
              · rw [← h2.2.2]; exact HM.out l hl
              · rw [← h2.2.2]; exact HM.out l hl
            have hgw : g < wr.heap.size := Nat.lt_of_lt_of_le hg hb.size
            rw [← hb.cell (by exact hg)] at c0 c1
            clear hsi e0 e1 hg'
            have hOr := map_below HO.out hb (Nat.le_refl _)
            have HN := Lib.hid hN
            have HIK := Lib.hid hik
            clear hN hik
            have hf0 := fld0
            have hf1 := fld1
            have hl1 := run_far_ok (hOr.alloc (.cells #[.string v, .int .i64 (m : Int)] 125)) v
            have HGU := Lib.hid hgu
            have HTR := Lib.hid hT
            have HSS := Lib.hid hs
            clear hT hs
            obtain ⟨x, y⟩ := du
            cases hgv : get out v with
            | none =>
              rw [hgv] at hl1
              simp only [Option.getD_none, Option.isSome_none] at hl1
              unfold farV at hl1
              have HGV := Lib.hid hgv
              have hown3 := (hown.alloc (.cells #[.string v, .int .i64 (m : Int)] 125)).alloc (.cells #[.int .i64 0, .int .i64 0] 121)
              have hb3 := (hb.alloc hb.size (.cells #[.string v, .int .i64 (m : Int)] 125)).alloc (by have := hb.size; simp; omega) (.cells #[.int .i64 0, .int .i64 0] 121)
              clear hown hb hOr hgv hgu
              go_wp2_with fail
              go_roundg ((stepsAt xs u).length - (i + 1))
              case measure => have := HIK.out; omega
              case rel => exact ⟨i + 1, next, by go_num, rfl, by have := HIK.out; omega, hown3, HN.out.skip HI.out (by rintro ⟨dv, h1, _⟩; rw [HGV.out] at h1; cases h1), hb3⟩
            | some dv =>
              obtain ⟨p, q⟩ := dv
              have bq : q ≤ 1001 := HSM.out v (p, q) hgv
              have bp : p ≤ 1001000000 := by
                have h1 := HT.out.bound HM.out hgv
                simp only at h1
                have : q * 1000000 ≤ 1001 * 1000000 := Nat.mul_le_mul_right _ bq
                omega
              rw [hgv] at hl1
              simp only [Option.getD_some, Option.isSome_some] at hl1
              unfold farV at hl1
              have hl2 := run_far ((hOr.alloc (.cells #[.string v, .int .i64 (m : Int)] 125)).alloc (.cells #[.int .i64 (p : Int), .int .i64 (q : Int)] 121)) u
              rw [hgu, Option.getD_some] at hl2
              unfold farV at hl2
              have HGV := Lib.hid hgv
              have hown3 := (hown.alloc (.cells #[.string v, .int .i64 (m : Int)] 125)).alloc (.cells #[.int .i64 (p : Int), .int .i64 (q : Int)] 121)
              have hb3 := (hb.alloc hb.size (.cells #[.string v, .int .i64 (m : Int)] 125)).alloc (by have := hb.size; simp; omega) (.cells #[.int .i64 (p : Int), .int .i64 (q : Int)] 121)
              clear hown hb hOr hgv hgu
              by_cases k1 : p + m = x
              · have t1 : (((p : Int) + (m : Int)) == (x : Int)) = true := by simp; omega
                by_cases k2 : q + 1 = y
                · have t2 : (((q : Int) + 1) == (y : Int)) = true := by simp; omega
                  have HCA : Hid (Cand out (x, y) (v, m)) := Lib.hid ⟨(p, q), HGV.out, k1, k2⟩
                  have HK1 := Lib.hid k1
                  have HK2 := Lib.hid k2
                  clear k1 k2
                  by_cases k3 : next.toList = []
                  · have t3 : next.toList.isEmpty = true := by rw [k3]; rfl
                    go_wp2_with fail
                    go_roundg ((stepsAt xs u).length - (i + 1))
                    case measure => have := HIK.out; omega
                    case rel => exact ⟨i + 1, v, by go_num, rfl, by have := HIK.out; omega, hown3, NextIs.take HI.out HCA.out, hb3⟩
                  · have t3 : next.toList.isEmpty = false := by
                      cases hx : next.toList with
                      | nil => exact absurd hx k3
                      | cons _ _ => rfl
                    have HNE : Hid (next ≠ ⟨#[]⟩) := Lib.hid (fun e => k3 (by rw [e]; exact toList_nil rfl))
                    cases k4 : Op.bytesLess v.toList next.toList
                    · go_wp2_with fail
                      go_roundg ((stepsAt xs u).length - (i + 1))
                      case measure => have := HIK.out; omega
                      case rel => exact ⟨i + 1, next, by go_num, rfl, by have := HIK.out; omega, hown3, HN.out.stay HNE.out, hb3⟩
                    · go_wp2_with fail
                      go_roundg ((stepsAt xs u).length - (i + 1))
                      case measure => have := HIK.out; omega
                      case rel => exact ⟨i + 1, v, by go_num, rfl, by have := HIK.out; omega, hown3, NextIs.take HI.out HCA.out, hb3⟩
                · have t2 : (((q : Int) + 1) == (y : Int)) = false := by simp; omega
                  have HK2 := Lib.hid k2
                  clear k1 k2
                  go_wp2_with fail
                  go_roundg ((stepsAt xs u).length - (i + 1))
                  case measure => have := HIK.out; omega
                  case rel => exact ⟨i + 1, next, by go_num, rfl, by have := HIK.out; omega, hown3, HN.out.skip HI.out (by rintro ⟨dv, h1, h2, h3⟩; rw [HGV.out] at h1; injection h1 with h1; subst h1; exact HK2.out h3), hb3⟩
              · have t1 : (((p : Int) + (m : Int)) == (x : Int)) = false := by simp; omega
                have HK1 := Lib.hid k1
                clear k1
                go_wp2_with fail
                go_roundg ((stepsAt xs u).length - (i + 1))
                case measure => have := HIK.out; omega
                case rel => exact ⟨i + 1, next, by go_num, rfl, by have := HIK.out; omega, hown3, HN.out.skip HI.out (by rintro ⟨dv, h1, h2, h3⟩; rw [HGV.out] at h1; injection h1 with h1; subst h1; exact HK1.out h2), hb3⟩
          · have : i = (stepsAt xs u).length := by omega
            subst this
            have hnx : ∃ m dv, (next, m) ∈ stepsAt xs u ∧ get out next = some dv ∧ dv.1 + m = du.1 ∧ dv.2 + 1 = du.2 := by
              rcases hN with ⟨h1, h2⟩ | ⟨⟨v, m⟩, h1, ⟨dv, h2, h3, h4⟩, h5⟩
              · exfalso
                obtain ⟨v, dv, m, g1, g2, g3⟩ := HT.out.pred u du hgu hub
                obtain ⟨j, hj, e⟩ := List.getElem_of_mem (steps_swap g2)
                exact h2 j (v, m) hj (by rw [List.getElem?_eq_getElem hj, e]) ⟨dv, g1, by rw [g3], by rw [g3]⟩
              · exact ⟨m, dv, by rw [h5]; exact h1, by rw [h5]; exact h2, h3, h4⟩
            obtain ⟨m, dv, n1, n2, n3, n4⟩ := hnx
            have HTR := Lib.hid (hT.step n1)
            have HDV := Lib.hid n2
            have HS : Hid (s + m + dv.1 = da.1) := Lib.hid (by omega)
            have hlen2 : (ts ++ [next]).length + dv.2 ≤ 2000 := by simp; omega
            have hlt : dv.2 < du.2 := by omega
            clear hT hgu hs hN n1 n2 n3 n4 hik
            go_wp2_with (at_builtin; refine wpList_append_own _ rfl (.tmp 91) (.tmp 93) 47 rfl w3.heap.size 9 i0 (.string ⟨#[]⟩) 1 16 Tryz.underlying47 hi0 hz0 hz1 hz2 rfl (by decide) _ _ _ rfl (hown.alloc _) ⟨wr.heap.size, 0, none⟩ 1 1 [.string next] rfl rfl ?c1 ?c2 ?c3 ?c4 ?c5 ?_)
            case c1 => exact cells_new wr [.string next] _
            case c2 => simp [Value.oneCell']
            case c3 => unfold maxLen; omega
            case c4 => omega
            case c5 => have := hb.size; simp; omega
            intro v' w5 ho5 hg5 _
            have hb5 := (hb.alloc hb.size (.cells #[.string next] 9)).grown hg5 (by have := hb.size; simp; omega) (fun j hj => (hown.lt j hj).1)
            clear hown hb hg5
            go_wp2_with fail
            go_roundg (dv.2)
            case measure => exact hlt
            case rel => exact ⟨ts ++ [next], next, s + m, dv, rfl, by simpa [strCells] using ho5, HTR.out, HDV.out, HS.out, rfl, hlen2, hb5⟩
end Go.Proofs.YtkbbmlkgaooaiaaGreatDoor
