/- Prefixes are compared. route.groupsOf. -/
import Derived.Test.YtkbbmlkgaooaiaaGreatDoorAdC
import Derived.Test.YtkbbmlkgaooaiaaGreatDoorTuA
import Derived.Test.YtkbbmlkgaooaiaaGreatDoorDrB
import Derived.Test.YtkbbmlkgaooaiaaGreatDoorRfA
import Derived.Test.YtkbbmlkgaooaiaaGreatDoorTnO
import Derived.Deep.AppendLies
import Derived.Deep.RegionLaw
import Derived.Deep.RegionHeld3
import Derived.BigQuiet
import Derived.WalkSmall
namespace Go.Proofs.YtkbbmlkgaooaiaaGreatDoor
open Go.RowKit Go.Hw Go.Shelf

theorem run_eq_pf (d : Nat) (a b : Bool) (x y u v m n : Int) (w : World) : (Op.equalIn (d + 3) 44 (.agg #[.bool a, .int .u64 x, .int .u64 u, .int .i64 m]) (.agg #[.bool b, .int .u64 y, .int .u64 v, .int .i64 n])).run Tryz.prog w = .ok ((a == b && (x == y && u == v)) && m == n) w := by
  have u2 := Tryz.underlying3
  have hA : Tryz.prog.underlying 44 = some (.struct (Tryz.prog.fieldsOf 44)) := by kernel_rfl
  have pA : Tryz.prog.stoodInHeld 44 = false := by kernel_rfl
  rw [run_equalIn_agg w (d + 2) 44 _ _ hA pA]
  simp only [Program.fieldsOf, Tryz.underlying44]
  go_simp
  by_cases h1 : a = b <;> by_cases h2 : x = y <;> by_cases h3 : u = v <;> by_cases h4 : m = n <;> simp [h1, h2, h3, h4]
theorem guard_pf : Tryz.prog.eqGuardType Tryz.prog.depth 44 = false := by kernel_rfl
/-- Equality, as the walk meets it. -/
theorem pf_beq {a b : Bool} {x y u v m n : Int} : ((a == b && (x == y && u == v)) && m == n) = decide ((⟨a, x, u, m⟩ : Pf) = ⟨b, y, v, n⟩) := by
  by_cases h1 : a = b <;> by_cases h2 : x = y <;> by_cases h3 : u = v <;> by_cases h4 : m = n <;> simp [h1, h2, h3, h4]

/-! ### groups in memory -/
def gpCells (p : Pf) (s : Value) : List Value := [.bool p.six, .int .u64 p.hi, .int .u64 p.lo, .int .i64 p.bits, s]
def gpsCells : List Gp → List Value → List Value
  | q :: g, s :: ss => gpCells q.pf s ++ gpsCells g ss
  | _, _ => []
theorem gps_snoc : ∀ (g : List Gp) (ss : List Value) (q : Gp) (s : Value), ss.length = g.length → gpsCells (g ++ [q]) (ss ++ [s]) = gpsCells g ss ++ gpCells q.pf s
  | [], [], q, s, _ => rfl
  | [], _ :: _, _, _, h => by simp at h
  | _ :: _, [], _, _, h => by simp at h
  | p :: g, t :: ss, q, s, h => by
    show gpCells p.pf t ++ gpsCells (g ++ [q]) (ss ++ [s]) = _
    rw [gps_snoc g ss q s (by simpa using h)]
    show _ = (gpCells p.pf t ++ gpsCells g ss) ++ _
    rw [List.append_assoc]
theorem gps_len : ∀ (g : List Gp) (ss : List Value), ss.length = g.length → (gpsCells g ss).length = g.length * 5
  | [], [], _ => rfl
  | [], _ :: _, h => by simp at h
  | _ :: _, [], h => by simp at h
  | p :: g, t :: ss, h => by
    show (gpCells p.pf t ++ gpsCells g ss).length = _
    rw [List.length_append, gps_len g ss (by simpa using h)]
    simp [gpCells]; omega
theorem Tryz.infoGroup : (Tryz.prog.info? 105).map (fun i => (i.zero, i.size, i.bytes)) = some (some (.agg #[.bool false, .int .u64 0, .int .u64 0, .int .i64 0, .slice none 0 0]), 5, 56) := by kernel_rfl
/-- Routers in a row of one's own. -/
def RtsOwn (w : World) (base : Nat) (v : Value) (l : List Rt) : Prop := w.ownsRow base 55 6 v l.length (rtsCells l)
/-- Groups in memory: a row, and a row for each. -/
structure GpsAt (w : World) (base : Nat) (v : Value) (g : List Gp) (ss : List Value) : Prop where
  len : ss.length = g.length
  row : w.ownsRow base 105 5 v g.length (gpsCells g ss)
  own : ∀ i, i < g.length → RtsOwn w base (ss.getD i default) (g.getD i noGp).list ∧ (ss.getD i default).ownBlock ≠ none ∧ v.ownBlock ≠ (ss.getD i default).ownBlock
  apart : ∀ i j, i < j → j < g.length → (ss.getD i default).ownBlock ≠ (ss.getD j default).ownBlock
  nil : g = [] → v = .slice none 0 0
theorem gps_get : ∀ (g : List Gp) (ss : List Value), ss.length = g.length → ∀ i k, i < g.length → k < 5 → (gpsCells g ss)[i * 5 + k]? = (gpCells (g.getD i noGp).pf (ss.getD i default))[k]?
  | [], _, _, i, k, hi, _ => by simp at hi
  | _ :: _, [], h, _, _, _, _ => by simp at h
  | p :: g, t :: ss, h, i, k, hi, hk => by
    show (gpCells p.pf t ++ gpsCells g ss)[i * 5 + k]? = _
    have hl : (gpCells p.pf t).length = 5 := rfl
    cases i with
    | zero =>
      rw [List.getElem?_append_left (by rw [hl]; omega)]
      simp
    | succ i =>
      rw [List.getElem?_append_right (by rw [hl]; omega), hl, show (i + 1) * 5 + k - 5 = i * 5 + k from by omega, gps_get g ss (by simpa using h) i k (by simpa using hi) hk]
      simp
theorem GpsAt.alloc {w : World} {base : Nat} {v : Value} {g : List Gp} {ss : List Value} (h : GpsAt w base v g ss) (o : Obj) : GpsAt (w.alloc o) base v g ss :=
  ⟨h.len, h.row.alloc o, fun i hi => ⟨World.ownsRow.alloc (h.own i hi).1 o, (h.own i hi).2⟩, h.apart, h.nil⟩
theorem getD_snoc_lt {α : Type} {l : List α} {a d : α} {i : Nat} (h : i < l.length) : (l ++ [a]).getD i d = l.getD i d := by
  rw [List.getD_eq_getElem?_getD, List.getD_eq_getElem?_getD, List.getElem?_append_left h]
theorem getD_snoc_eq {α : Type} {l : List α} {a d : α} : (l ++ [a]).getD l.length d = a := by simp
theorem GpsAt.new {wA w' : World} {base : Nat} {v : Value} {g : List Gp} {ss : List Value} (h : GpsAt wA base v g ss) {q : Gp} {s : Value} {b gb cap n : Nat} (hn : n = g.length) (hs : RtsOwn wA base s q.list) (hsb : s.ownBlock = some b) (hb : ∀ i, i < g.length → (ss.getD i default).ownBlock ≠ some b) (hvb : v.ownBlock ≠ some b)
    (hrow : w'.ownsRow base 105 5 (.slice (some ⟨gb, 0, none⟩) (n + 1) cap) (n + 1) (gpsCells g ss ++ gpCells q.pf s)) (hg : wA.grownBy w' v.ownBlock) (hgb : v.ownBlock = some gb ∨ gb = wA.heap.size) :
    GpsAt w' base (.slice (some ⟨gb, 0, none⟩) (n + 1) cap) (g ++ [q]) (ss ++ [s]) := by
  subst hn
  have hbw := (World.ownsRow.lt hs b hsb).2
  have hne : ∀ i, i < g.length → (ss.getD i default).ownBlock ≠ some gb := fun i hi e => by
    have := (World.ownsRow.lt (h.own i hi).1 _ e).2
    rcases hgb with e' | e'
    · exact (h.own i hi).2.2 (e'.trans e.symm)
    · omega
  have hbg : b ≠ gb := by
    rintro rfl
    rcases hgb with e | e
    · exact hvb e
    · omega
  refine ⟨by simp [h.len], ?_, ?_, ?_, fun e => by simp at e⟩
  · rw [gps_snoc _ _ _ _ h.len]
    simpa using hrow
  · intro i hi
    by_cases hlt : i < g.length
    · rw [getD_snoc_lt (by rw [h.len]; exact hlt), getD_snoc_lt hlt]
      obtain ⟨h1, h2, h3⟩ := h.own i hlt
      exact ⟨World.ownsRow.kept h1 hg (.inr (Ne.symm h3)), h2, fun e => hne i hlt e.symm⟩
    · have : i = g.length := by simp at hi; omega
      subst this
      rw [getD_snoc_eq]
      have e2 : (ss ++ [s]).getD g.length default = s := by rw [← h.len]; exact getD_snoc_eq
      rw [e2]
      refine ⟨World.ownsRow.kept hs hg (.inr (by rw [hsb]; exact fun e => hvb e.symm)), by rw [hsb]; simp, ?_⟩
      rw [hsb]
      exact fun e => hbg (by injection e with e; exact e.symm)
  · intro i j hij hj
    have hi : i < g.length := by simp at hj; omega
    rw [getD_snoc_lt (by rw [h.len]; exact hi)]
    by_cases hlt : j < g.length
    · rw [getD_snoc_lt (by rw [h.len]; exact hlt)]
      exact h.apart i j hij hlt
    · have : j = g.length := by simp at hj; omega
      subst this
      have e2 : (ss ++ [s]).getD g.length default = s := by rw [← h.len]; exact getD_snoc_eq
      rw [e2, hsb]
      exact hb i hi
theorem GpsAt.more {wA w1 : World} {base gv capv : Nat} {g0 : List Gp} {q : Gp} {ss0 : List Value} {s : Value} (h : GpsAt wA base (.slice (some ⟨gv, 0, none⟩) (g0.length + 1) capv) (g0 ++ [q]) (ss0 ++ [s])) (hl0 : ss0.length = g0.length) {x : Rt} {gb cap : Nat}
    (hrow : w1.ownsRow base 55 6 (.slice (some ⟨gb, 0, none⟩) (q.list.length + 1) cap) (q.list.length + 1) (rtsCells q.list ++ rtCells x)) (hg : wA.grownBy w1 s.ownBlock) (hgb : s.ownBlock = some gb ∨ gb = wA.heap.size) :
    GpsAt (w1.setCell ⟨gv, g0.length * 5 + 4, none⟩ (.slice (some ⟨gb, 0, none⟩) (q.list.length + 1) cap)) base (.slice (some ⟨gv, 0, none⟩) (g0.length + 1) capv) (g0 ++ [⟨q.pf, q.list ++ [x]⟩]) (ss0 ++ [.slice (some ⟨gb, 0, none⟩) (q.list.length + 1) cap]) ∧
      w1.grownBy (w1.setCell ⟨gv, g0.length * 5 + 4, none⟩ (.slice (some ⟨gb, 0, none⟩) (q.list.length + 1) cap)) (some gv) := by
  have hlast := h.own g0.length (by simp)
  have e1 : (g0 ++ [q]).getD g0.length noGp = q := getD_snoc_eq
  have e2 : (ss0 ++ [s]).getD g0.length default = s := by rw [← hl0]; exact getD_snoc_eq
  rw [e1, e2] at hlast
  obtain ⟨hq1, hq2, hq3⟩ := hlast
  have hgv := (World.ownsRow.lt h.row gv rfl).2
  have hgvb : gv ≠ gb := by
    rintro rfl
    rcases hgb with e | e
    · exact hq3 e.symm
    · omega
  have hrow1 : w1.ownsRow base 105 5 (.slice (some ⟨gv, 0, none⟩) (g0.length + 1) capv) (g0.length + 1) (gpsCells (g0 ++ [q]) (ss0 ++ [s])) := by
    have := World.ownsRow.kept h.row hg (.inr hq3)
    simpa using this
  have hst := World.ownsRow.stored hrow1 (g0.length * 5 + 4) (.slice (some ⟨gb, 0, none⟩) (q.list.length + 1) cap)
  refine ⟨⟨by simp [hl0], ?_, ?_, ?_, fun e => by simp at e⟩, hst.2⟩
  · have h2 := hst.1
    rw [gps_snoc _ _ _ _ hl0, List.set_append, if_neg (by rw [gps_len _ _ hl0]; omega), gps_len _ _ hl0, show g0.length * 5 + 4 - g0.length * 5 = 4 from by omega] at h2
    rw [gps_snoc _ _ _ _ hl0]
    simpa [gpCells] using h2
  · intro i hi
    by_cases hlt : i < g0.length
    · have h3 := h.own i (by simp; omega)
      rw [getD_snoc_lt (by omega), getD_snoc_lt hlt] at h3
      rw [getD_snoc_lt (by omega), getD_snoc_lt hlt]
      have h4 := h.apart i g0.length hlt (by simp)
      rw [getD_snoc_lt (by omega), e2] at h4
      exact ⟨World.ownsRow.kept (World.ownsRow.kept h3.1 hg (.inr h4)) hst.2 (.inr (Ne.symm h3.2.2)), h3.2⟩
    · have : i = g0.length := by simp at hi; omega
      subst this
      have e3 : (ss0 ++ [Value.slice (some ⟨gb, 0, none⟩) (q.list.length + 1) cap]).getD g0.length default = .slice (some ⟨gb, 0, none⟩) (q.list.length + 1) cap := by rw [← hl0]; exact getD_snoc_eq
      rw [getD_snoc_eq, e3]
      refine ⟨?_, by simp [Value.ownBlock], fun e => hgvb (by simpa [Value.ownBlock] using e)⟩
      unfold RtsOwn
      rw [rts_snoc]
      have := World.ownsRow.kept hrow hst.2 (.inr (fun e => hgvb (by simpa [Value.ownBlock] using e.symm)))
      simpa using this
  · intro i j hij hj
    have hi : i < g0.length := by simp at hj; omega
    have h3 := h.own i (by simp; omega)
    rw [getD_snoc_lt (by omega), getD_snoc_lt hi] at h3
    rw [getD_snoc_lt (by omega)]
    by_cases hlt : j < g0.length
    · have h4 := h.apart i j hij (by simp; omega)
      rw [getD_snoc_lt (by omega), getD_snoc_lt (by omega)] at h4
      rw [getD_snoc_lt (by omega)]
      exact h4
    · have : j = g0.length := by simp at hj; omega
      subst this
      have e3 : (ss0 ++ [Value.slice (some ⟨gb, 0, none⟩) (q.list.length + 1) cap]).getD g0.length default = .slice (some ⟨gb, 0, none⟩) (q.list.length + 1) cap := by rw [← hl0]; exact getD_snoc_eq
      rw [e3]
      have h4 := h.apart i g0.length hi (by simp)
      rw [getD_snoc_lt (by omega), e2] at h4
      intro e
      have e' : (ss0.getD i default).ownBlock = some gb := e
      rcases hgb with e5 | e5
      · exact h4 (e'.trans e5.symm)
      · have := (World.ownsRow.lt h3.1 _ e').2
        omega
theorem GpsAt.begin (w : World) (base : Nat) : GpsAt w base (.slice none 0 0) [] [] := ⟨rfl, World.ownsRow_nil _ _ _ _, fun i hi => by simp at hi, fun i j h1 h2 => by simp at h2, fun _ => rfl⟩
end Go.Proofs.YtkbbmlkgaooaiaaGreatDoor

namespace Go.Proofs.YtkbbmlkgaooaiaaGreatDoor
open Go.RowKit Go.Hw Go.Shelf

theorem take_getR' {l : List Rt} {i : Nat} (h : i < l.length) : l.take (i + 1) = l.take i ++ [l.getD i noRt] := by
  rw [List.take_succ_eq_append_getElem h, List.getD_eq_getElem?_getD, List.getElem?_eq_getElem h]
  rfl
theorem appended_farG {w9 w10 : World} {o : Obj} {row : Option Nat} {g : Nat} (h : (w9.alloc o).grownBy w10 row) (hg : g < w9.heap.size) (hr : some g ≠ row) (j : Nat) : w10.cell? ⟨g, j, none⟩ = w9.cell? ⟨g, j, none⟩ ∧ w10.frozen? ⟨g, j, none⟩ = w9.frozen? ⟨g, j, none⟩ := by
  have h1 : w10.heap[g]? = w9.heap[g]? := (h.block g (by simp; omega) hr).trans (heap_alloc_old w9 o hg)
  exact ⟨World.cell?_of_block (w := w9) h1, World.frozen?_of_block (w := w9) h1⟩
theorem grown_boxG {w9 w10 : World} {o : Obj} {row : Option Nat} (h : (w9.alloc o).grownBy w10 row) : w9.grownBy w10 row :=
  (World.grownBy_alloc w9 o row).andThen h (fun _ h => .inr h)
theorem GpsAt.drewN {w : World} {base : Nat} {v : Value} {g : List Gp} {ss : List Value} (h : GpsAt w base v g ss) (n : Nat) : GpsAt (w.drewN n) base v g ss := ⟨h.len, h.row, h.own, h.apart, h.nil⟩
/-- Ahead of the router at j. -/
def GrI (w : World) (r : List Rt) (c : Nat) (v3 v9 : Value) (wr : World) : Prop :=
  ∃ (j : Nat) (sv : Value) (ss : List Value), c = r.length - j ∧ sv = v3 ∧ v9 = .int .i64 j ∧ j ≤ r.length ∧ GpsAt wr w.heap.size sv (groupsP (r.take j)) ss ∧ Below w.heap.size w wr
theorem mk_gr {w : World} {r : List Rt} {j : Nat} {v : Value} {ss : List Value} {W : World} {g : List Gp} (hj : j < r.length) (hg : groupsP (r.take (j + 1)) = g) (h : GpsAt W w.heap.size v g ss) (hb : Below w.heap.size w W) : GrI w r (r.length - (j + 1)) v (.int .i64 ((j + 1 : Nat) : Int)) W :=
  ⟨j + 1, v, ss, rfl, rfl, rfl, hj, by rw [hg]; exact h, hb⟩

set_option maxRecDepth 100000 in
set_option maxHeartbeats 4000000 in
theorem groupsOf_any (A : Option Addr) (cap : Nat) (r : List Rt) (w : World) (h : RtsAt w w.heap.size A r) (hl : r.length ≤ 500) :
    Calls Tryz.prog 49 #[.slice A r.length cap] w fun e w' => ∃ v ss, e = .returned v ∧ GpsAt w' w.heap.size v (groupsP r) ss ∧ Below w.heap.size w w' := by
  obtain ⟨i0, hi, hz0, hz1, hz2⟩ := info_parts Tryz.infoGroup
  obtain ⟨i1, hj, hy0, hy1, hy2⟩ := info_parts Tryz.infoRouter
  have H := Lib.hid h
  clear h
  go_enter Tryz.func49, Tryz.ntmps49
  go_wp2_with fail
  go_loopg [3, 9] (r.length) (fun c v3 v9 wr => GrI w r c v3 v9 wr)
  case atStart => exact ⟨0, _, [], by omega, rfl, rfl, by omega, GpsAt.begin _ _, Below.refl _ _⟩
  case round =>
    obtain ⟨j, sv, ss, hcl, rfl, rfl, hj', hG, hb⟩ := hrel
    by_cases hlt : j < r.length
    · obtain ⟨g6, off6, rfl, hg6, d0, d1, d2, d3, d4, d5⟩ := (H.out.below hb) j hlt
      have hgt := groups_take r j hlt
      have hmany := (grouped_take r j hj').many
      have hlong := (grouped_take r j hj').long
      have hrl : (r.take j).length ≤ 500 := by simp; omega
      have hml := hb.size
      generalize groupsP (r.take j) = g at *
      generalize r.getD j noRt = x at *
      have hx : x.pf = ⟨x.six, x.hi, x.lo, x.bits⟩ := rfl
      obtain ⟨xs, xh, xl, xb, xn, xw⟩ := x
      dsimp only at d0 d1 d2 d3 d4 d5 hx
      have hGB := hG.alloc (.cells #[.bool xs, .int .u64 xh, .int .u64 xl, .int .i64 xb, .string xn, .int .i64 xw] 55)
      have hbB := hb.alloc hb.size (.cells #[.bool xs, .int .u64 xh, .int .u64 xl, .int .i64 xb, .string xn, .int .i64 xw] 55)
      have HX := Lib.hid hx
      have HGT := Lib.hid hgt
      have HCL := Lib.hid hcl
      have HBB := Lib.hid hbB
      clear hgt hcl hbB hb hx
      rcases List.eq_nil_or_concat g with rfl | ⟨g0, q, hgq⟩
      · obtain rfl := hG.nil rfl
        have hbx : (wr.alloc (.cells #[.bool xs, .int .u64 xh, .int .u64 xl, .int .i64 xb, .string xn, .int .i64 xw] 55)).heap[wr.heap.size]? = some (.cells #[.bool xs, .int .u64 xh, .int .u64 xl, .int .i64 xb, .string xn, .int .i64 xw] 55 (0, 0)) := heap_alloc_new _ _
        have lW : wr.heap.size < (wr.alloc (.cells #[.bool xs, .int .u64 xh, .int .u64 xl, .int .i64 xb, .string xn, .int .i64 xw] 55)).heap.size := by simp
        have HGB := Lib.hid hGB
        have HGR := Lib.hid (group_new (g := ([] : List Gp)) (x := ⟨xs, xh, xl, xb, xn, xw⟩) (fun q hq => by simp at hq))
        clear hG hGB
        go_wp2_with fail
        generalize World.alloc wr _ = W at *
        have b0 : W.cell? ⟨wr.heap.size, 0, none⟩ = some (.bool xs) := by simp only [World.cell?, hbx]; rfl
        have b1 : W.cell? ⟨wr.heap.size, 1, none⟩ = some (.int .u64 xh) := by simp only [World.cell?, hbx]; rfl
        have b2 : W.cell? ⟨wr.heap.size, 2, none⟩ = some (.int .u64 xl) := by simp only [World.cell?, hbx]; rfl
        have b3 : W.cell? ⟨wr.heap.size, 3, none⟩ = some (.int .i64 xb) := by simp only [World.cell?, hbx]; rfl
        have b4 : W.cell? ⟨wr.heap.size, 4, none⟩ = some (.string xn) := by simp only [World.cell?, hbx]; rfl
        have b5 : W.cell? ⟨wr.heap.size, 5, none⟩ = some (.int .i64 xw) := by simp only [World.cell?, hbx]; rfl
        clear d0 d1 d2 d3 d4 d5 hbx
        go_quiet (fail)
        have hG2 := HGB.out.drewN nq
        have hb2 := below_drewN HBB.out nq
        have lV : wr.heap.size < (W.drewN nq).heap.size := lW
        have B0 : (W.drewN nq).cell? ⟨wr.heap.size, 0, none⟩ = some (.bool xs) := b0
        have B1 : (W.drewN nq).cell? ⟨wr.heap.size, 1, none⟩ = some (.int .u64 xh) := b1
        have B2 : (W.drewN nq).cell? ⟨wr.heap.size, 2, none⟩ = some (.int .u64 xl) := b2
        have B3 : (W.drewN nq).cell? ⟨wr.heap.size, 3, none⟩ = some (.int .i64 xb) := b3
        have B4 : (W.drewN nq).cell? ⟨wr.heap.size, 4, none⟩ = some (.string xn) := b4
        have B5 : (W.drewN nq).cell? ⟨wr.heap.size, 5, none⟩ = some (.int .i64 xw) := b5
        generalize World.drewN W nq = V at *
        have HG2 := Lib.hid hG2
        have HB2 := Lib.hid hb2
        have hbv := hb2.size
        clear hG2 hb2 b0 b1 b2 b3 b4 b5
        go_wp2_with (at_builtin; refine wpList_append_lies _ rfl (.tmp 40) (.tmp 46) 102 rfl (w.heap.size) 105 i0 _ 5 56 Tryz.underlying102 hi hz0 hz1 hz2 rfl (by decide) _ _ _ rfl ((HG2.out.alloc _).alloc _).row ⟨V.heap.size + 1, 0, none⟩ 1 1 [.bool xs, .int .u64 xh, .int .u64 xl, .int .i64 xb, .slice (some ⟨V.heap.size, 0, none⟩) 1 1] rfl rfl (cells_new_at (V.alloc (.cells #[.bool xs, .int .u64 xh, .int .u64 xl, .int .i64 xb, .string xn, .int .i64 xw] 55)) _ (by simp) [.bool xs, .int .u64 xh, .int .u64 xl, .int .i64 xb, .slice (some ⟨V.heap.size, 0, none⟩) 1 1] _) (by simp [Value.oneCell']) (by omega) (by unfold maxLen; first | omega | (simp; omega)) (by first | omega | (simp; omega)) (by first | omega | (simp; omega)) (V.heap.size + 2) (by simp) ?_)
        intro g2 cap2 w10 hown hgrow hat hlt2
        have hlit := World.ownsRow_lit (base := w.heap.size) (e := 55) (size := 6) V #[.bool xs, .int .u64 xh, .int .u64 xl, .int .i64 xb, .string xn, .int .i64 xw] 1 (by omega) (by decide) rfl
        have hs : RtsOwn (V.alloc (.cells #[.bool xs, .int .u64 xh, .int .u64 xl, .int .i64 xb, .string xn, .int .i64 xw] 55)) w.heap.size (.slice (some ⟨V.heap.size, 0, none⟩) 1 1) [⟨xs, xh, xl, xb, xn, xw⟩] := hlit
        have hGn := GpsAt.new (hn := by simp) ((HG2.out.alloc _).alloc _) (q := ⟨⟨xs, xh, xl, xb⟩, [⟨xs, xh, xl, xb, xn, xw⟩]⟩) (World.ownsRow.alloc hs _) (b := V.heap.size) rfl (fun i hi e => by have := (World.ownsRow.lt (HG2.out.own i hi).1 _ e).2; omega) (fun e => by have := (World.ownsRow.lt HG2.out.row _ e).2; omega) hown hgrow (by simpa using hat)
        have hbn := ((HB2.out.alloc HB2.out.size _).alloc (HB2.out.alloc HB2.out.size _).size _).grown hgrow ((HB2.out.alloc HB2.out.size _).alloc (HB2.out.alloc HB2.out.size _).size _).size (fun j hj => (World.ownsRow.lt HG2.out.row j hj).1)
        have HREL := Lib.hid (mk_gr hlt (HGT.out.trans HGR.out) hGn hbn)
        clear hown hgrow hat hlit hs hGn hbn
        go_wp2_with fail
        go_roundg (r.length - (j + 1))
        case measure => have := HCL.out; omega
        case rel => exact HREL.out
      · rw [List.concat_eq_append] at hgq
        subst hgq
        obtain ⟨ss0, s, rfl⟩ : ∃ ss0 s, ss = ss0 ++ [s] := by
          rcases List.eq_nil_or_concat ss with e | ⟨ss0, s, e⟩
          · have := hG.len; rw [e] at this; simp at this
          · exact ⟨ss0, s, by rw [e, List.concat_eq_append]⟩
        have hl0 : ss0.length = g0.length := by have := hG.len; simpa using this
        have hrow := hGB.row
        rcases hrow.2 with ⟨-, h0⟩ | ⟨gv, capv, cur, rfl, hgv, hgc, -⟩
        · simp at h0
        · rw [List.length_append, List.length_singleton] at *
          have hcell := fun k (hk : k < 5) => (hrow.cellAt (g0.length * 5 + k) (by omega)).trans (by rw [gps_snoc _ _ _ _ hl0, List.getElem?_append_right (by rw [gps_len _ _ hl0]; omega), gps_len _ _ hl0, show g0.length * 5 + k - g0.length * 5 = k from by omega])
          have c0 := hcell 0 (by omega)
          have c1 := hcell 1 (by omega)
          have c2 := hcell 2 (by omega)
          have c3 := hcell 3 (by omega)
          have c4 := hcell 4 (by omega)
          simp only [gpCells, List.getElem?_cons_zero, List.getElem?_cons_succ, Nat.add_zero] at c0 c1 c2 c3 c4
          obtain ⟨⟨p6, ph, pl, pb⟩, ql⟩ := q
          dsimp only at c0 c1 c2 c3 c4
          have hgl : g0.length + 1 ≤ 500 := by omega
          have hql : ql.length ≤ 500 := by have := hlong ⟨⟨p6, ph, pl, pb⟩, ql⟩ (by simp); simp only at this; omega
          have s0 : IntKind.i64.wrap (((g0.length + 1 : Nat) : Int) - 1) = (g0.length : Int) := by rw [IntWalk.i64_in _ (by omega)]; omega
          have s1 : ((g0.length + 1 : Nat) : Int) - 1 = (g0.length : Int) := by omega
          have hbx : (wr.alloc (.cells #[.bool xs, .int .u64 xh, .int .u64 xl, .int .i64 xb, .string xn, .int .i64 xw] 55)).heap[wr.heap.size]? = some (.cells #[.bool xs, .int .u64 xh, .int .u64 xl, .int .i64 xb, .string xn, .int .i64 xw] 55 (0, 0)) := heap_alloc_new _ _
          have lW : wr.heap.size < (wr.alloc (.cells #[.bool xs, .int .u64 xh, .int .u64 xl, .int .i64 xb, .string xn, .int .i64 xw] 55)).heap.size := by simp
          have hvB : gv ≠ wr.heap.size := by have := (World.ownsRow.lt hG.row gv rfl).2; omega
          have hsB : ∀ i, i < (g0 ++ [(⟨⟨p6, ph, pl, pb⟩, ql⟩ : Gp)]).length → ((ss0 ++ [s]).getD i default).ownBlock ≠ some wr.heap.size := fun i hi e => by have := (World.ownsRow.lt (hG.own i hi).1 _ e).2; omega
          have hlast := hGB.own g0.length (by simp)
          have e1 : (g0 ++ [(⟨⟨p6, ph, pl, pb⟩, ql⟩ : Gp)]).getD g0.length noGp = ⟨⟨p6, ph, pl, pb⟩, ql⟩ := getD_snoc_eq
          have e2 : (ss0 ++ [s]).getD g0.length default = s := by rw [← hl0]; exact getD_snoc_eq
          rw [e1, e2] at hlast
          dsimp only at hlast
          clear e1 e2 hcell hrow hgc
          go_wp2_with fail
          generalize World.alloc wr _ = W at *
          have b0 : W.cell? ⟨wr.heap.size, 0, none⟩ = some (.bool xs) := by simp only [World.cell?, hbx]; rfl
          have b1 : W.cell? ⟨wr.heap.size, 1, none⟩ = some (.int .u64 xh) := by simp only [World.cell?, hbx]; rfl
          have b2 : W.cell? ⟨wr.heap.size, 2, none⟩ = some (.int .u64 xl) := by simp only [World.cell?, hbx]; rfl
          have b3 : W.cell? ⟨wr.heap.size, 3, none⟩ = some (.int .i64 xb) := by simp only [World.cell?, hbx]; rfl
          have b4 : W.cell? ⟨wr.heap.size, 4, none⟩ = some (.string xn) := by simp only [World.cell?, hbx]; rfl
          have b5 : W.cell? ⟨wr.heap.size, 5, none⟩ = some (.int .i64 xw) := by simp only [World.cell?, hbx]; rfl
          have hgd := guard_pf
          have HGB := Lib.hid hGB
          have HLAST := Lib.hid hlast
          clear hG hGB hlast d0 d1 d2 d3 d4 d5 hbx
          by_cases he : (⟨p6, ph, pl, pb⟩ : Pf) = ⟨xs, xh, xl, xb⟩
          · have hq := fun W => (run_eq_pf 9997 p6 xs ph xh pl xl pb xb W).trans (show _ = Result.ok true W from by rw [pf_beq, decide_eq_true he])
            have HGR := Lib.hid (group_old (g := g0) (q := ⟨⟨p6, ph, pl, pb⟩, ql⟩) (x := ⟨xs, xh, xl, xb, xn, xw⟩) he)
            clear he
            rcases HLAST.out.1.2 with ⟨rfl, -⟩ | ⟨gs, caps, curs, rfl, -⟩
            · exact absurd rfl HLAST.out.2.1
            go_quiet (fail)
            go_wp2_with fail
            have hG2 := HGB.out.drewN nq
            have hb2 := below_drewN HBB.out nq
            have lV : wr.heap.size < (W.drewN nq).heap.size := lW
            have hsV : RtsOwn (W.drewN nq) w.heap.size (.slice (some ⟨gs, 0, none⟩) ql.length caps) ql := HLAST.out.1
            have C4 : (W.drewN nq).cell? ⟨gv, g0.length * 5 + 4, none⟩ = some (.slice (some ⟨gs, 0, none⟩) ql.length caps) := c4
            have B0 : (W.drewN nq).cell? ⟨wr.heap.size, 0, none⟩ = some (.bool xs) := b0
            have B1 : (W.drewN nq).cell? ⟨wr.heap.size, 1, none⟩ = some (.int .u64 xh) := b1
            have B2 : (W.drewN nq).cell? ⟨wr.heap.size, 2, none⟩ = some (.int .u64 xl) := b2
            have B3 : (W.drewN nq).cell? ⟨wr.heap.size, 3, none⟩ = some (.int .i64 xb) := b3
            have B4 : (W.drewN nq).cell? ⟨wr.heap.size, 4, none⟩ = some (.string xn) := b4
            have B5 : (W.drewN nq).cell? ⟨wr.heap.size, 5, none⟩ = some (.int .i64 xw) := b5
            have hsT : (Value.slice (some ⟨gs, 0, none⟩) ql.length caps).ownBlock ≠ some gv := fun e => HLAST.out.2.2 e.symm
            generalize World.drewN W nq = V at *
            have HG2 := Lib.hid hG2
            have HB2 := Lib.hid hb2
            have HSV := Lib.hid hsV
            have hbv := hb2.size
            have hgvV : gv < V.heap.size := (World.ownsRow.lt hG2.row gv rfl).2
            have hrV := hG2.row
            rw [List.length_append, List.length_singleton] at hrV
            have fz : V.frozen? ⟨gv, g0.length * 5 + 4, none⟩ = false := World.ownsRow.frozenAt hrV _
            clear hrV
            have n0 := World.new_ne V _ B0
            have n4 := World.new_ne V _ C4
            clear hG2 hb2 b0 b1 b2 b3 b4 b5 c0 c1 c2 c3 c4 hsV
            have s2 : (g0.length : Int) < (g0.length : Int) + 1 := by omega
            go_region_law (first
              | (refine step_append_lies _ (by rfl) _ _ 26 (by rfl) (w.heap.size) 55 i1 _ 6 56 Tryz.underlying26 hj hy0 hy1 hy2 rfl (by omega) (.slice (some ⟨gs, 0, none⟩) ql.length caps) ql.length (rtsCells ql) (by rfl) ((World.ownsRow.alloc HSV.out _).drew) ⟨V.heap.size, 0, none⟩ 1 1 [.bool xs, .int .u64 xh, .int .u64 xl, .int .i64 xb, .string xn, .int .i64 xw] (by rfl) (by rfl) (World.news_of_block (cs := #[.bool xs, .int .u64 xh, .int .u64 xl, .int .i64 xb, .string xn, .int .i64 xw]) (t := 55) (fr := (0, 0)) (heap_alloc_new V _)) (by simp [Value.oneCell']) (by omega) (by unfold maxLen; omega) (by omega) (by first | omega | (simp; omega)) (V.heap.size + 1) (by simp) ?_; intro g2 cap2 w10 hown hgrow hat hlt2; have z := appended_farG (show (V.alloc _).grownBy w10 _ from ⟨hgrow.os, hgrow.tape, hgrow.output, hgrow.size, hgrow.block⟩) hgvV (Ne.symm hsT) (g0.length * 5 + 4); rw [C4, fz] at z)
              | (refine step_append_lies _ (by rfl) _ _ 26 (by rfl) (w.heap.size) 55 i1 _ 6 56 Tryz.underlying26 hj hy0 hy1 hy2 rfl (by omega) (.slice (some ⟨gs, 0, none⟩) ql.length caps) ql.length (rtsCells ql) (by rfl) (World.ownsRow.alloc HSV.out _) ⟨V.heap.size, 0, none⟩ 1 1 [.bool xs, .int .u64 xh, .int .u64 xl, .int .i64 xb, .string xn, .int .i64 xw] (by rfl) (by rfl) (World.news_of_block (cs := #[.bool xs, .int .u64 xh, .int .u64 xl, .int .i64 xb, .string xn, .int .i64 xw]) (t := 55) (fr := (0, 0)) (heap_alloc_new V _)) (by simp [Value.oneCell']) (by omega) (by unfold maxLen; omega) (by omega) (by first | omega | (simp; omega)) (V.heap.size + 1) (by simp) ?_; intro g2 cap2 w10 hown hgrow hat hlt2; have z := appended_farG hgrow hgvV (Ne.symm hsT) (g0.length * 5 + 4); rw [C4, fz] at z))
            all_goals
              have hgr : (V.alloc (.cells #[.bool xs, .int .u64 xh, .int .u64 xl, .int .i64 xb, .string xn, .int .i64 xw] 55)).grownBy w10 (Value.slice (some ⟨gs, 0, none⟩) ql.length caps).ownBlock := ⟨hgrow.os, hgrow.tape, hgrow.output, hgrow.size, hgrow.block⟩
              have hM := GpsAt.more (HG2.out.alloc (.cells #[.bool xs, .int .u64 xh, .int .u64 xl, .int .i64 xb, .string xn, .int .i64 xw] 55)) hl0 (x := ⟨xs, xh, xl, xb, xn, xw⟩) hown hgr (by simpa using hat)
              have hb3 := (HB2.out.alloc HB2.out.size (.cells #[.bool xs, .int .u64 xh, .int .u64 xl, .int .i64 xb, .string xn, .int .i64 xw] 55)).grown hgr (HB2.out.alloc HB2.out.size _).size (fun j hj => (World.ownsRow.lt HSV.out j hj).1)
              have hbn := hb3.grown hM.2 hb3.size (fun j hj => by injection hj with hj; omega)
              have HREL := Lib.hid (mk_gr hlt (HGT.out.trans HGR.out) hM.1 hbn)
              clear hown hgrow hat hlt2 z hgr hM hb3 hbn fz n0 n4 B0 B1 B2 B3 B4 B5 C4
              go_wp2_with fail
              go_roundg (r.length - (j + 1))
              case measure => have := HCL.out; omega
              case rel => exact HREL.out
          · have hq := fun W => (run_eq_pf 9997 p6 xs ph xh pl xl pb xb W).trans (show _ = Result.ok false W from by rw [pf_beq, decide_eq_false he])
            have HGR := Lib.hid (group_new (g := g0 ++ [(⟨⟨p6, ph, pl, pb⟩, ql⟩ : Gp)]) (x := ⟨xs, xh, xl, xb, xn, xw⟩) (fun q hq => by simp at hq; subst hq; exact he))
            clear he
            go_quiet (fail)
            clear c0 c1 c2 c3 c4 HLAST
            have hG2 := HGB.out.drewN nq
            have hb2 := below_drewN HBB.out nq
            have lV : wr.heap.size < (W.drewN nq).heap.size := lW
            have B0 : (W.drewN nq).cell? ⟨wr.heap.size, 0, none⟩ = some (.bool xs) := b0
            have B1 : (W.drewN nq).cell? ⟨wr.heap.size, 1, none⟩ = some (.int .u64 xh) := b1
            have B2 : (W.drewN nq).cell? ⟨wr.heap.size, 2, none⟩ = some (.int .u64 xl) := b2
            have B3 : (W.drewN nq).cell? ⟨wr.heap.size, 3, none⟩ = some (.int .i64 xb) := b3
            have B4 : (W.drewN nq).cell? ⟨wr.heap.size, 4, none⟩ = some (.string xn) := b4
            have B5 : (W.drewN nq).cell? ⟨wr.heap.size, 5, none⟩ = some (.int .i64 xw) := b5
            generalize World.drewN W nq = V at *
            have HG2 := Lib.hid hG2
            have HB2 := Lib.hid hb2
            have hbv := hb2.size
            clear hG2 hb2 b0 b1 b2 b3 b4 b5
            go_wp2_with (at_builtin; refine wpList_append_lies _ rfl (.tmp 40) (.tmp 46) 102 rfl (w.heap.size) 105 i0 _ 5 56 Tryz.underlying102 hi hz0 hz1 hz2 rfl (by decide) _ _ _ rfl ((HG2.out.alloc _).alloc _).row ⟨V.heap.size + 1, 0, none⟩ 1 1 [.bool xs, .int .u64 xh, .int .u64 xl, .int .i64 xb, .slice (some ⟨V.heap.size, 0, none⟩) 1 1] rfl rfl (cells_new_at (V.alloc (.cells #[.bool xs, .int .u64 xh, .int .u64 xl, .int .i64 xb, .string xn, .int .i64 xw] 55)) _ (by simp) [.bool xs, .int .u64 xh, .int .u64 xl, .int .i64 xb, .slice (some ⟨V.heap.size, 0, none⟩) 1 1] _) (by simp [Value.oneCell']) (by omega) (by unfold maxLen; first | omega | (simp; omega)) (by first | omega | (simp; omega)) (by first | omega | (simp; omega)) (V.heap.size + 2) (by simp) ?_)
            intro g2 cap2 w10 hown hgrow hat hlt2
            have hlit := World.ownsRow_lit (base := w.heap.size) (e := 55) (size := 6) V #[.bool xs, .int .u64 xh, .int .u64 xl, .int .i64 xb, .string xn, .int .i64 xw] 1 (by omega) (by decide) rfl
            have hs : RtsOwn (V.alloc (.cells #[.bool xs, .int .u64 xh, .int .u64 xl, .int .i64 xb, .string xn, .int .i64 xw] 55)) w.heap.size (.slice (some ⟨V.heap.size, 0, none⟩) 1 1) [⟨xs, xh, xl, xb, xn, xw⟩] := hlit
            have hGn := GpsAt.new (hn := by simp) ((HG2.out.alloc _).alloc _) (q := ⟨⟨xs, xh, xl, xb⟩, [⟨xs, xh, xl, xb, xn, xw⟩]⟩) (World.ownsRow.alloc hs _) (b := V.heap.size) rfl (fun i hi e => by have := (World.ownsRow.lt (HG2.out.own i hi).1 _ e).2; omega) (fun e => by have := (World.ownsRow.lt HG2.out.row _ e).2; omega) hown hgrow (by simpa using hat)
            have hbn := ((HB2.out.alloc HB2.out.size _).alloc (HB2.out.alloc HB2.out.size _).size _).grown hgrow ((HB2.out.alloc HB2.out.size _).alloc (HB2.out.alloc HB2.out.size _).size _).size (fun j hj => (World.ownsRow.lt HG2.out.row j hj).1)
            have HREL := Lib.hid (mk_gr hlt (HGT.out.trans HGR.out) hGn hbn)
            clear hown hgrow hat hlit hs hGn hbn
            go_wp2_with fail
            go_roundg (r.length - (j + 1))
            case measure => have := HCL.out; omega
            case rel => exact HREL.out
    · have : j = r.length := by omega
      subst this
      rw [List.take_length] at hG
      have HG := Lib.hid hG
      clear hG hcl
      go_wp2_with fail
      go_ret
      exact ⟨_, _, rfl, HG.out, hb⟩
end Go.Proofs.YtkbbmlkgaooaiaaGreatDoor
