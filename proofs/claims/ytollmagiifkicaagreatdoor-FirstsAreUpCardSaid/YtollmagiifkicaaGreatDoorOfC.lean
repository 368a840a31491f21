/- The plain law of outages: how many moments of a window turns have. route.of. route.of. route.Turns, route.Outage. -/
import Derived.Test.YtollmagiifkicaaGreatDoorTuC
import Derived.Test.YtollmagiifkicaaGreatDoorGrB
import Derived.Test.YtollmagiifkicaaGreatDoorHlA
import Derived.Test.YtollmagiifkicaaGreatDoorMkE
namespace Go.Hw
/-- How many moments of a window a time has. -/
def inW (f t a b : Int) : Int := max 0 (min t b - max f a)
/-- The moments of a window that the first k turns have. -/
def inWs (l : List Tn) (a b : Int) : Nat → Int
  | 0 => 0
  | k + 1 => inWs l a b k + inW (l.getD k noTn).from_ (l.getD k noTn).to_ a b
theorem inW_le {f t a b : Int} (h : a ≤ b) : 0 ≤ inW f t a b ∧ inW f t a b ≤ b - a := by unfold inW; omega
theorem inWs_le (l : List Tn) {a b : Int} (h : a ≤ b) (hb : b - a ≤ 1000000000) : ∀ k, 0 ≤ inWs l a b k ∧ inWs l a b k ≤ 1000000000 * (k : Int)
  | 0 => by simp [inWs]
  | k + 1 => by
    have h1 := inWs_le l h hb k
    have h2 := inW_le (f := (l.getD k noTn).from_) (t := (l.getD k noTn).to_) h
    simp only [inWs]
    omega
theorem getTn_mem {l : List Tn} {i : Nat} (h : i < l.length) : l.getD i noTn ∈ l := by
  rw [List.getD_eq_getElem?_getD, List.getElem?_eq_getElem h]; exact List.getElem_mem h
theorem getTn_get {l : List Tn} {i : Nat} (h : i < l.length) : l[i]? = some (l.getD i noTn) := by
  rw [List.getD_eq_getElem?_getD, List.getElem?_eq_getElem h]; rfl
/-- What is said of the turn at i. -/
structure TurnAt (l : List Tn) (i : Nat) : Prop where
  low : 0 ≤ (l.getD i noTn).from_
  from_ : (l.getD i noTn).from_ < (l.getD i noTn).to_
  high : (l.getD i noTn).to_ ≤ endT
  before : 0 < i → (l.getD (i - 1) noTn).to_ ≤ (l.getD i noTn).from_ ∧ ((l.getD (i - 1) noTn).to_ = (l.getD i noTn).from_ → (l.getD (i - 1) noTn).who ≠ (l.getD i noTn).who)
theorem turn_at {r : List Rt} {l : List Hl} (hr : RtFine r) (hl : HlFine l) {i : Nat} (hi : i < (turnsP r l).length) : TurnAt (turnsP r l) i := by
  have B := behind_any hr hl l.length l.length (Nat.le_refl _) (Nat.le_refl _) (.inr (.inl rfl))
  have I : TurnInv (turnSt r l l.length).1 (turnsP r l) (timeOf l l.length) := B.inv
  have hm := getTn_mem hi
  have hf := I.from_ _ hm
  have ht : timeOf l l.length < endT := by
    unfold timeOf
    split
    · decide
    · exact (hl.time _ (mem_getD (l := l) (i := l.length - 1) (by omega))).2
  refine ⟨hf.2.2, hf.2.1, ?_, fun h0 => ?_⟩
  · rcases I.open_ with ⟨_, h⟩ | ⟨_, l0, f, e, h⟩
    · have := h _ hm; omega
    · have hm' : ∀ y, y ∈ turnsP r l → y ∈ l0 ∨ y = ⟨(turnSt r l l.length).1, f, endT⟩ := fun y hy => by
        rw [e] at hy
        simpa using hy
      rcases hm' _ hm with h1 | h1
      · have := h _ h1; omega
      · rw [h1]
        exact Int.le_refl _
  · have h1 := getTn_get (l := turnsP r l) (i := i - 1) (by omega)
    have h2 := getTn_get hi
    have h3 := I.apart (i - 1) _ _ h1 (by rw [show i - 1 + 1 = i from by omega]; exact h2)
    exact h3
theorem turns_len {r : List Rt} {l : List Hl} (hr : RtFine r) (hl : HlFine l) : (turnsP r l).length ≤ l.length :=
  (behind_any hr hl l.length l.length (Nat.le_refl _) (Nat.le_refl _) (.inr (.inl rfl))).many
theorem own_len {r : List Rt} {p : Pf} {l : List Rt} (h : ownP r p = some l) : l.length ≤ r.length := by
  unfold ownP at h
  cases hf : (groupsP r).find? (fun g => decide (g.pf = p)) with
  | none => rw [hf] at h; cases h
  | some g =>
    rw [hf] at h
    simp at h
    subst h
    exact (grouped r).long g (List.mem_of_find?_eq_some hf)
theorem RtFine.own {r : List Rt} {p : Pf} {l : List Rt} (hr : RtFine r) (h : ownP r p = some l) : RtFine l := ⟨fun x hx => hr.named x (own_of h x hx), fun x hx => hr.weight x (own_of h x hx)⟩
end Go.Hw

namespace Go.Hw
theorem flat6 {α β : Type} (f : α → List β) (h6 : ∀ a, (f a).length = 6) : ∀ (l : List α) (i : Nat) (hi : i < l.length) (j : Nat) (u : β), (f l[i])[j]? = some u → (l.flatMap f)[i * 6 + j]? = some u
  | [], i, hi, _, _, _ => by simp at hi
  | a :: l, 0, _, j, u, hu => by
    have hu : (f a)[j]? = some u := hu
    have hj := (List.getElem?_eq_some_iff.1 hu).1
    rw [List.flatMap_cons, Nat.zero_mul, Nat.zero_add, List.getElem?_append_left hj]
    exact hu
  | a :: l, i + 1, hi, j, u, hu => by
    rw [List.flatMap_cons, List.getElem?_append_right (by rw [h6]; omega), h6, show (i + 1) * 6 + j - 6 = i * 6 + j from by omega]
    exact flat6 f h6 l i (by simpa using hi) j u hu
theorem find_first {l : List Gp} {p : Pf} {k : Nat} (hk : k < l.length) (he : (l.getD k noGp).pf = p) : (∀ i, i < k → (l.getD i noGp).pf ≠ p) → l.find? (fun g => decide (g.pf = p)) = some (l.getD k noGp) := by
  induction l generalizing k with
  | nil => simp at hk
  | cons a l ih =>
    intro h
    rw [List.find?_cons]
    cases k with
    | zero =>
      have e : a.pf = p := he
      rw [decide_eq_true e]; rfl
    | succ k =>
      have : a.pf ≠ p := h 0 (by omega)
      rw [decide_eq_false this]
      exact ih (by simpa using hk) he (fun i hi => h (i + 1) (by omega))
theorem find_none {l : List Gp} {p : Pf} (h : ∀ i, i < l.length → (l.getD i noGp).pf ≠ p) : l.find? (fun g => decide (g.pf = p)) = none := by
  rw [List.find?_eq_none]
  intro g hg
  obtain ⟨i, hi, e⟩ := List.getElem_of_mem hg
  have := h i hi
  rw [List.getD_eq_getElem?_getD, List.getElem?_eq_getElem hi] at this
  simp only [Option.getD_some, e] at this
  simpa using this
end Go.Hw

namespace Go.Proofs.YtollmagiifkicaaGreatDoor
open Go.RowKit Go.Hw Go.Shelf

theorem rts_own_at {w : World} {base : Nat} {v : Value} {l : List Rt} (h : RtsOwn w base v l) : ∃ A cap, v = .slice A l.length cap ∧ RtsAt w w.heap.size A l := by
  obtain ⟨A, cap, rfl, hc⟩ := own_reads h
  refine ⟨A, cap, rfl, fun i hi => ?_⟩
  have he : l.getD i noRt = l[i] := by rw [List.getD_eq_getElem?_getD, List.getElem?_eq_getElem hi]; rfl
  have hcell := fun j u hu => hc _ _ (flat6 rtCells (fun _ => rfl) l i hi j u hu)
  obtain ⟨g, h1, h2, h3⟩ := hcell 0 _ rfl
  have hg : ∀ j u, (rtCells l[i])[j]? = some u → w.cell? ⟨g, i * 6 + j, none⟩ = some u := fun j u hu => by
    obtain ⟨g', h1', _, h4⟩ := hcell j u hu
    rw [h1] at h1'
    injection h1' with h1'
    injection h1' with h1'
    subst h1'
    exact h4
  refine ⟨g, 0, h1, h2, ?_, ?_, ?_, ?_, ?_, ?_⟩ <;> rw [he, Nat.zero_add]
  · exact hg 0 _ rfl
  · exact hg 1 _ rfl
  · exact hg 2 _ rfl
  · exact hg 3 _ rfl
  · exact hg 4 _ rfl
  · exact hg 5 _ rfl
theorem RtsAt.wide {w : World} {B B' : Nat} {A : Option Addr} {xs : List Rt} (h : RtsAt w B A xs) (hB : B ≤ B') : RtsAt w B' A xs := fun i hi => by
  obtain ⟨g, off, h1, h2, h3⟩ := h i hi
  exact ⟨g, off, h1, by omega, h3⟩
theorem HlsAt.wide {w : World} {B B' : Nat} {A : Option Addr} {xs : List Hl} (h : HlsAt w B A xs) (hB : B ≤ B') : HlsAt w B' A xs := fun i hi => by
  obtain ⟨g, off, h1, h2, h3⟩ := h i hi
  exact ⟨g, off, h1, by omega, h3⟩
/-- What is asked of the log and of the routers. -/
structure LogFine (r : List Rt) (l : List Hl) : Prop where
  rl : r.length ≤ 500
  rt : ∀ y ∈ r, RtT y
  rf : rtFault r = 0
  ll : l.length ≤ 2000
  ls : ∀ i, (l.getD i noHl).node.size ≤ maxLen
  lf : hlFault l = 0

set_option maxRecDepth 100000 in
set_option maxHeartbeats 1000000 in
theorem routersFault2_any (A : Option Addr) (cap : Nat) (r : List Rt) (AH : Option Addr) (capH : Nat) (l : List Hl) (w : World) (h : RtsAt w w.heap.size A r) (hH : HlsAt w w.heap.size AH l) (F : LogFine r l) :
    Calls Tryz.prog 53 #[.slice A r.length cap, .slice AH l.length capH] w fun e w' => e = .returned (.int .i64 0) ∧ Below w.heap.size w w' := by
  have h1 := checkRouters_any A cap r w h F.rl F.rt F.rf
  have HH := Lib.hid hH
  have HF := Lib.hid F
  clear h hH F
  go_enter Tryz.func53, Tryz.ntmps53
  go_wp2_with fail
  refine h1.mono ?_
  rintro e w1 ⟨rfl, hb1⟩
  have h2 := checkHealth_any AH capH l w1 ((HH.out.below hb1).wide hb1.size) HF.out.ll HF.out.ls HF.out.lf
  have HB := Lib.hid hb1
  clear h1 hb1
  go_wp2_with fail
  refine h2.mono ?_
  rintro e w2 ⟨rfl, hb2⟩
  have HB2 := Lib.hid (HB.out.trans (hb2.mono HB.out.size))
  clear hb2 h2
  go_wp2_with fail
  go_ret
  exact ⟨rfl, HB2.out⟩
end Go.Proofs.YtollmagiifkicaaGreatDoor

namespace Go.Proofs.YtollmagiifkicaaGreatDoor
open Go.RowKit Go.Hw Go.Shelf

/-- Ahead of the group at k. -/
def OwI (w3 : World) (gs : List Gp) (p : Pf) (c : Nat) (v26 : Value) (wr : World) : Prop :=
  ∃ k : Nat, c = gs.length - k ∧ k ≤ gs.length ∧ v26 = .int .i64 k ∧ (∀ i, i < k → (gs.getD i noGp).pf ≠ p) ∧ Below w3.heap.size w3 wr

set_option maxRecDepth 100000 in
set_option maxHeartbeats 4000000 in
theorem routeOf_any (A : Option Addr) (cap : Nat) (r : List Rt) (AH : Option Addr) (capH : Nat) (l : List Hl) (p6 : Bool) (ph pl pb : Int) (own : List Rt) (w : World) (h : RtsAt w w.heap.size A r) (hH : HlsAt w w.heap.size AH l) (F : LogFine r l) (uh : U64 ph) (ul : U64 pl) (hc : pfCode p6 ph pl pb = 0)
    (ho : ownP r ⟨p6, ph, pl, pb⟩ = some own) :
    Calls Tryz.prog 49 #[.slice A r.length cap, .slice AH l.length capH, .agg #[.bool p6, .int .u64 ph, .int .u64 pl, .int .i64 pb]] w fun e w' => ∃ A' cap', e = .returned (.tuple #[.slice A' own.length cap', .int .i64 0]) ∧ RtsAt w' w'.heap.size A' own ∧ Below w.heap.size w w' := by
  have hB : Below w.heap.size w (w.alloc (.cells #[.bool p6, .int .u64 ph, .int .u64 pl, .int .i64 pb] 39)) := (Below.refl _ _).alloc (Nat.le_refl _) _
  have h1 := routersFault2_any A cap r AH capH l (w.alloc (.cells #[.bool p6, .int .u64 ph, .int .u64 pl, .int .i64 pb] 39)) ((h.below hB).wide hB.size) ((hH.below hB).wide hB.size) F
  have hbx : (w.alloc (.cells #[.bool p6, .int .u64 ph, .int .u64 pl, .int .i64 pb] 39)).heap[w.heap.size]? = some (.cells #[.bool p6, .int .u64 ph, .int .u64 pl, .int .i64 pb] 39 (0, 0)) := heap_alloc_new _ _
  have lW : w.heap.size < (w.alloc (.cells #[.bool p6, .int .u64 ph, .int .u64 pl, .int .i64 pb] 39)).heap.size := by simp
  have H := Lib.hid h
  have HO := Lib.hid ho
  have HB := Lib.hid hB
  have HF := Lib.hid F
  have HX := Lib.hid hbx
  clear h hH ho hB F hbx
  go_enter Tryz.func49, Tryz.ntmps49
  go_wp2_with fail
  refine h1.mono ?_
  rintro e w1 ⟨rfl, hb1⟩
  have hx1 := (hb1.block _ lW).trans HX.out
  have b0 : w1.cell? ⟨w.heap.size, 0, none⟩ = some (.bool p6) := by simp only [World.cell?, hx1]; rfl
  have b1 : w1.cell? ⟨w.heap.size, 1, none⟩ = some (.int .u64 ph) := by simp only [World.cell?, hx1]; rfl
  have b2 : w1.cell? ⟨w.heap.size, 2, none⟩ = some (.int .u64 pl) := by simp only [World.cell?, hx1]; rfl
  have b3 : w1.cell? ⟨w.heap.size, 3, none⟩ = some (.int .i64 pb) := by simp only [World.cell?, hx1]; rfl
  have hl1 : w.heap.size < w1.heap.size := Nat.lt_of_lt_of_le lW hb1.size
  have HB1 := Lib.hid (HB.out.trans (hb1.mono HB.out.size))
  have HX1 := Lib.hid hx1
  clear h1 hb1 hx1 HX HB
  go_wp2_with fail
  refine (checkPrefix_any p6 ph pl pb w1 uh ul hc).mono ?_
  rintro e w2 ⟨rfl, hb2⟩
  have HB2 := Lib.hid (HB1.out.trans (hb2.mono HB1.out.size))
  have HX2 := Lib.hid ((hb2.block _ hl1).trans HX1.out)
  have hl2 : w.heap.size < w2.heap.size := Nat.lt_of_lt_of_le hl1 hb2.size
  have h3 := groupsOf_any A cap r w2 ((H.out.below HB2.out).wide HB2.out.size) HF.out.rl
  clear hb2 b0 b1 b2 b3 HB1 HX1
  go_wp2_with fail
  refine h3.mono ?_
  rintro e w3 ⟨v, ss, rfl, hG, hb3⟩
  have HB3 := Lib.hid (HB2.out.trans (hb3.mono HB2.out.size))
  have HX3 := Lib.hid ((hb3.block _ hl2).trans HX2.out)
  have HG := Lib.hid hG
  have hl3 : w.heap.size < w3.heap.size := Nat.lt_of_lt_of_le hl2 hb3.size
  have hown : ((groupsP r).find? (fun g => decide (g.pf = ⟨p6, ph, pl, pb⟩))).map (·.list) = some own := HO.out
  have HOWN := Lib.hid hown
  obtain ⟨AG, capG, rfl, -⟩ := own_reads hG.row
  clear h3 hb3 hG HB2 HX2 hown
  have hgm : (groupsP r).length ≤ 500 := Nat.le_trans (grouped r).many HF.out.rl
  generalize groupsP r = gs at *
  go_wp2_with fail
  go_loopg [26] (gs.length) (fun c v26 wr => OwI w3 gs ⟨p6, ph, pl, pb⟩ c v26 wr)
  case atStart => exact ⟨0, by omega, by omega, rfl, fun i hi => by omega, Below.refl _ _⟩
  case round =>
    obtain ⟨k, hck, hk, rfl, hne, hb⟩ := hrel
    by_cases hkt : k < gs.length
    · have hrow := HG.out.row
      obtain ⟨gv, rfl⟩ : ∃ gv, AG = some ⟨gv, 0, none⟩ := by
        rcases hrow.2 with ⟨_, h0⟩ | ⟨gv, _, _, e, _⟩
        · omega
        · injection e with e; exact ⟨gv, e⟩
      have hgv := (World.ownsRow.lt hrow gv rfl).2
      have hcell := fun j (hj : j < 5) => (hb.cell (p := ⟨gv, k * 5 + j, none⟩) hgv).trans ((hrow.cellAt (k * 5 + j) (by omega)).trans (gps_get gs ss HG.out.len k j hkt hj))
      have c0 := hcell 0 (by omega)
      have c1 := hcell 1 (by omega)
      have c2 := hcell 2 (by omega)
      have c3 := hcell 3 (by omega)
      have c4 := hcell 4 (by omega)
      simp only [gpCells, List.getElem?_cons_zero, List.getElem?_cons_succ, Nat.add_zero] at c0 c1 c2 c3 c4
      have hx := (hb.block _ hl3).trans HX3.out
      have b0 : wr.cell? ⟨w.heap.size, 0, none⟩ = some (.bool p6) := by simp only [World.cell?, hx]; rfl
      have b1 : wr.cell? ⟨w.heap.size, 1, none⟩ = some (.int .u64 ph) := by simp only [World.cell?, hx]; rfl
      have b2 : wr.cell? ⟨w.heap.size, 2, none⟩ = some (.int .u64 pl) := by simp only [World.cell?, hx]; rfl
      have b3 : wr.cell? ⟨w.heap.size, 3, none⟩ = some (.int .i64 pb) := by simp only [World.cell?, hx]; rfl
      have hlw : w.heap.size < wr.heap.size := Nat.lt_of_lt_of_le hl3 hb.size
      have hgd := guard_pf
      have hf := fun he => find_first (p := ⟨p6, ph, pl, pb⟩) hkt he hne
      obtain ⟨A', cap', hs, hat⟩ := rts_own_at (HG.out.own k hkt).1
      rw [hs] at c4
      have HAT := Lib.hid (hat.below hb)
      have HHF := Lib.hid hf
      have HNE := Lib.hid hne
      have HBR := Lib.hid hb
      clear hs hat hf hne hb hrow hcell hx
      generalize hqe : gs.getD k noGp = q at *
      obtain ⟨⟨q6, qh, ql, qb⟩, lst⟩ := q
      dsimp only at c0 c1 c2 c3 c4
      by_cases he : (⟨q6, qh, ql, qb⟩ : Pf) = ⟨p6, ph, pl, pb⟩
      · have hq := fun W => (run_eq_pf 9997 q6 p6 qh ph ql pl qb pb W).trans (show _ = Result.ok true W from by rw [pf_beq, decide_eq_true he])
        have e0 := HOWN.out
        rw [HHF.out he] at e0
        have e1 : lst = own := by simpa using e0
        subst e1
        clear he e0 hqe
        go_wp2_with fail
        go_ret2
        have hbA := (Below.refl w3.heap.size wr).alloc HBR.out.size (.cells #[.bool q6, .int .u64 qh, .int .u64 ql, .int .i64 qb, .slice A' lst.length cap'] 155)
        exact ⟨A', ⟨cap', rfl⟩, (HAT.out.below hbA).wide (Nat.le_trans HBR.out.size hbA.size), HB3.out.trans ((HBR.out.trans hbA).mono HB3.out.size)⟩
      · have hq := fun W => (run_eq_pf 9997 q6 p6 qh ph ql pl qb pb W).trans (show _ = Result.ok false W from by rw [pf_beq, decide_eq_false he])
        have HQE := Lib.hid hqe
        have HE := Lib.hid he
        clear hqe he
        go_wp2_with fail
        go_roundg (gs.length - (k + 1))
        case measure => omega
        case rel =>
          refine ⟨k + 1, rfl, by omega, by go_num, fun i hi => ?_, HBR.out.alloc HBR.out.size _⟩
          by_cases e : i = k
          · rw [e, HQE.out]; exact HE.out
          · exact HNE.out i (by omega)
    · exfalso
      have h0 := HOWN.out
      rw [find_none (fun i hi => hne i (by omega))] at h0
      cases h0
end Go.Proofs.YtollmagiifkicaaGreatDoor

namespace Go.Proofs.YtollmagiifkicaaGreatDoor
open Go.RowKit Go.Hw Go.Shelf

theorem TnsAt.wide {w : World} {B B' : Nat} {A : Option Addr} {xs : List Tn} (h : TnsAt w B A xs) (hB : B ≤ B') : TnsAt w B' A xs := fun i hi => by
  obtain ⟨g, h1, h2, h3⟩ := h i hi
  exact ⟨g, h1, by omega, h3⟩

set_option maxRecDepth 100000 in
set_option maxHeartbeats 2000000 in
theorem Turns_any (A : Option Addr) (cap : Nat) (r : List Rt) (AH : Option Addr) (capH : Nat) (l : List Hl) (p6 : Bool) (ph pl pb : Int) (own : List Rt) (w : World) (h : RtsAt w w.heap.size A r) (hH : HlsAt w w.heap.size AH l) (F : LogFine r l) (uh : U64 ph) (ul : U64 pl) (hc : pfCode p6 ph pl pb = 0)
    (ho : ownP r ⟨p6, ph, pl, pb⟩ = some own) :
    Calls Tryz.prog 13 #[.slice A r.length cap, .slice AH l.length capH, .agg #[.bool p6, .int .u64 ph, .int .u64 pl, .int .i64 pb]] w fun e w' => ∃ A' cap', e = .returned (.tuple #[.slice A' (turnsP own l).length cap', .int .i64 0]) ∧ TnsAt w' w'.heap.size A' (turnsP own l) ∧ Below w.heap.size w w' := by
  have hB : Below w.heap.size w (w.alloc (.cells #[.bool p6, .int .u64 ph, .int .u64 pl, .int .i64 pb] 39)) := (Below.refl _ _).alloc (Nat.le_refl _) _
  have hO := routeOf_any A cap r AH capH l p6 ph pl pb own (w.alloc (.cells #[.bool p6, .int .u64 ph, .int .u64 pl, .int .i64 pb] 39)) ((h.below hB).wide hB.size) ((hH.below hB).wide hB.size) F uh ul hc ho
  have HH := Lib.hid hH
  have HB := Lib.hid hB
  have hr := (rt_fine F.rf F.rl).own ho
  have hl := hl_fine F.lf F.ll
  have hll := F.ll
  have hol : own.length ≤ 500 := Nat.le_trans (own_len ho) F.rl
  clear h hH hB F ho
  go_enter Tryz.func13, Tryz.ntmps13
  go_wp2_with fail
  refine hO.mono ?_
  rintro e w1 ⟨A1, c1, rfl, ha1, hb1⟩
  have HB1 := Lib.hid (HB.out.trans (hb1.mono HB.out.size))
  have ht := turns_any A1 c1 own AH capH l w1 ha1 ((HH.out.below HB1.out).wide HB1.out.size) hr hl hol hll
  clear hO hb1 HB ha1
  go_wp2_with fail
  refine ht.mono ?_
  rintro e w2 ⟨v, rfl, hT, hb2⟩
  obtain ⟨A2, c2, rfl, ha2⟩ := tns_at hT
  have HA := Lib.hid ha2
  have HB2 := Lib.hid (HB1.out.trans (hb2.mono HB1.out.size))
  clear ht hT hb2 ha2
  go_wp2_with fail
  go_ret2
  exact ⟨A2, c2, rfl, HA.out, HB2.out⟩

def wnBox (a b : Int) : Obj := .cells #[.int .i64 a, .int .i64 b] 44
set_option maxRecDepth 100000 in
set_option maxHeartbeats 1000000 in
theorem within_any (f t a b : Int) (w : World) (hf : 0 ≤ f ∧ f ≤ 1000000000) (ht : 0 ≤ t ∧ t ≤ 1000000000) (ha : 0 ≤ a ∧ a ≤ 1000000000) (hb : 0 ≤ b ∧ b ≤ 1000000000) :
    Calls Tryz.prog 52 #[.int .i64 f, .int .i64 t, .agg #[.int .i64 a, .int .i64 b]] w fun e w' => e = .returned (.int .i64 (inW f t a b)) ∧ Below w.heap.size w w' := by
  have hB : Below w.heap.size w (w.alloc (wnBox a b)) := (Below.refl _ _).alloc (Nat.le_refl _) _
  have hx : (w.alloc (wnBox a b)).heap[w.heap.size]? = some (wnBox a b) := heap_alloc_new _ _
  have b0 : (w.alloc (wnBox a b)).cell? ⟨w.heap.size, 0, none⟩ = some (.int .i64 a) := by simp only [World.cell?, hx]; rfl
  have b1 : (w.alloc (wnBox a b)).cell? ⟨w.heap.size, 1, none⟩ = some (.int .i64 b) := by simp only [World.cell?, hx]; rfl
  have s0 : IntKind.i64.wrap (min t b - max f a) = min t b - max f a := IntWalk.i64_in _ (by omega)
  unfold wnBox at b0 b1 hB
  have HB := Lib.hid hB
  clear hB hx
  go_enter Tryz.func52, Tryz.ntmps52
  go_wp2_with fail
  go_ret
  exact ⟨rfl, HB.out⟩
set_option maxRecDepth 100000 in
set_option maxHeartbeats 1000000 in
theorem windowFault_any (a b : Int) (w : World) (h0 : 0 ≤ a) (h1 : a ≤ b) (h2 : b ≤ 345686400) :
    Calls Tryz.prog 51 #[.agg #[.int .i64 a, .int .i64 b]] w fun e w' => e = .returned (.int .i64 0) ∧ Below w.heap.size w w' := by
  have hB : Below w.heap.size w (w.alloc (wnBox a b)) := (Below.refl _ _).alloc (Nat.le_refl _) _
  have hx : (w.alloc (wnBox a b)).heap[w.heap.size]? = some (wnBox a b) := heap_alloc_new _ _
  have b0 : (w.alloc (wnBox a b)).cell? ⟨w.heap.size, 0, none⟩ = some (.int .i64 a) := by simp only [World.cell?, hx]; rfl
  have b1 : (w.alloc (wnBox a b)).cell? ⟨w.heap.size, 1, none⟩ = some (.int .i64 b) := by simp only [World.cell?, hx]; rfl
  have hin : (decide (a < (0 : Int)) || decide (b < a)) = false := by simp; omega
  unfold wnBox at b0 b1 hB
  have HB := Lib.hid hB
  have HIN := Lib.hid hin
  clear hB hx hin
  go_enter Tryz.func51, Tryz.ntmps51
  go_wp2_with fail
  refine (outside_any _ _ _ _).mono ?_
  rintro e w3 ⟨rfl, rfl⟩
  rw [HIN.out]
  go_wp2_with fail
  go_ret
  exact ⟨rfl, HB.out⟩

def OuI (w : World) (l : List Tn) (a b : Int) (v13 v40 : Value) (wr : World) : Prop :=
  ∃ k : Nat, k ≤ l.length ∧ v40 = .int .i64 k ∧ v13 = .int .i64 (b - a - inWs l a b k) ∧ Below w.heap.size w wr
set_option maxRecDepth 100000 in
set_option maxHeartbeats 2000000 in
theorem Outage_any (A : Option Addr) (cap : Nat) (r : List Rt) (AH : Option Addr) (capH : Nat) (l : List Hl) (p6 : Bool) (ph pl pb a b : Int) (own : List Rt) (w : World) (h : RtsAt w w.heap.size A r) (hH : HlsAt w w.heap.size AH l) (F : LogFine r l) (uh : U64 ph) (ul : U64 pl) (hc : pfCode p6 ph pl pb = 0)
    (ho : ownP r ⟨p6, ph, pl, pb⟩ = some own) (h0 : 0 ≤ a) (h1 : a ≤ b) (h2 : b ≤ 345686400) :
    Calls Tryz.prog 14 #[.slice A r.length cap, .slice AH l.length capH, .agg #[.bool p6, .int .u64 ph, .int .u64 pl, .int .i64 pb], .agg #[.int .i64 a, .int .i64 b]] w fun e w' => e = .returned (.tuple #[.int .i64 (b - a - inWs (turnsP own l) a b (turnsP own l).length), .int .i64 0]) ∧ Below w.heap.size w w' := by
  have hB : Below w.heap.size w ((w.alloc (.cells #[.bool p6, .int .u64 ph, .int .u64 pl, .int .i64 pb] 39)).alloc (.cells #[.int .i64 a, .int .i64 b] 44)) := ((Below.refl _ _).alloc (Nat.le_refl _) _).alloc (by simp) _
  have hx : ((w.alloc (.cells #[.bool p6, .int .u64 ph, .int .u64 pl, .int .i64 pb] 39)).alloc (.cells #[.int .i64 a, .int .i64 b] 44)).heap[w.heap.size + 1]? = some (.cells #[.int .i64 a, .int .i64 b] 44 (0, 0)) := by
    have := heap_alloc_new (w.alloc (.cells #[.bool p6, .int .u64 ph, .int .u64 pl, .int .i64 pb] 39)) (.cells #[.int .i64 a, .int .i64 b] 44)
    simp only [Re_size] at this
    exact this
  have hO := routeOf_any A cap r AH capH l p6 ph pl pb own ((w.alloc (.cells #[.bool p6, .int .u64 ph, .int .u64 pl, .int .i64 pb] 39)).alloc (.cells #[.int .i64 a, .int .i64 b] 44)) ((h.below hB).wide hB.size) ((hH.below hB).wide hB.size) F uh ul hc ho
  have lX : w.heap.size + 1 < ((w.alloc (.cells #[.bool p6, .int .u64 ph, .int .u64 pl, .int .i64 pb] 39)).alloc (.cells #[.int .i64 a, .int .i64 b] 44)).heap.size := by simp
  have HH := Lib.hid hH
  have HB := Lib.hid hB
  have HX := Lib.hid hx
  have hr := (rt_fine F.rf F.rl).own ho
  have hl := hl_fine F.lf F.ll
  have hll := F.ll
  have hol : own.length ≤ 500 := Nat.le_trans (own_len ho) F.rl
  have htl := turns_len hr hl
  have HT := Lib.hid (fun i (hi : i < (turnsP own l).length) => turn_at hr hl hi)
  clear h hH hB F ho hx
  go_enter Tryz.func14, Tryz.ntmps14
  go_wp2_with fail
  refine hO.mono ?_
  rintro e w1 ⟨A1, c1, rfl, ha1, hb1⟩
  have HB1 := Lib.hid (HB.out.trans (hb1.mono HB.out.size))
  have HX1 := Lib.hid ((hb1.block _ lX).trans HX.out)
  have l1 : w.heap.size + 1 < w1.heap.size := Nat.lt_of_lt_of_le lX hb1.size
  have HA1 := Lib.hid ha1
  have x0 : w1.cell? ⟨w.heap.size + 1, 0, none⟩ = some (.int .i64 a) := by simp only [World.cell?, HX1.out]; rfl
  have x1 : w1.cell? ⟨w.heap.size + 1, 1, none⟩ = some (.int .i64 b) := by simp only [World.cell?, HX1.out]; rfl
  clear hO hb1 HB ha1 HX lX
  go_wp2_with fail
  refine (windowFault_any a b w1 h0 h1 h2).mono ?_
  rintro e w2 ⟨rfl, hb2⟩
  have HB2 := Lib.hid (HB1.out.trans (hb2.mono HB1.out.size))
  have HX2 := Lib.hid ((hb2.block _ l1).trans HX1.out)
  have l2 : w.heap.size + 1 < w2.heap.size := Nat.lt_of_lt_of_le l1 hb2.size
  have y0 : w2.cell? ⟨w.heap.size + 1, 0, none⟩ = some (.int .i64 a) := by simp only [World.cell?, HX2.out]; rfl
  have y1 : w2.cell? ⟨w.heap.size + 1, 1, none⟩ = some (.int .i64 b) := by simp only [World.cell?, HX2.out]; rfl
  have s0 : IntKind.i64.wrap (b - a) = b - a := IntWalk.i64_in _ (by omega)
  have ht := turns_any A1 c1 own AH capH l w2 ((HA1.out.below hb2).wide hb2.size) ((HH.out.below HB2.out).wide HB2.out.size) hr hl hol hll
  clear hb2 HB1 HX1 HA1 x0 x1 HH hr hl
  go_wp2_with fail
  refine ht.mono ?_
  rintro e w3 ⟨v, rfl, hT, hb3⟩
  obtain ⟨A3, c3, rfl, ha3⟩ := tns_at hT
  have HA := Lib.hid ha3
  have HB3 := Lib.hid (HB2.out.trans (hb3.mono HB2.out.size))
  have HX3 := Lib.hid ((hb3.block _ l2).trans HX2.out)
  have l3 : w.heap.size + 1 < w3.heap.size := Nat.lt_of_lt_of_le l2 hb3.size
  clear ht hT hb3 ha3 HB2 HX2 y0 y1 s0
  generalize hts : turnsP own l = ts at *
  have HTS := Lib.hid hts
  clear hts
  go_wp2_with fail
  go_loopw [13, 40] (fun v13 v40 wr => OuI w3 ts a b v13 v40 wr) (fun _ v40 _ => ts.length - (intOf v40).toNat)
  case atStart => exact ⟨0, by omega, rfl, by simp [inWs], Below.refl _ _⟩
  case round =>
    obtain ⟨k, hk, rfl, rfl, hb⟩ := hrel
    by_cases hlt : k < ts.length
    · obtain ⟨g, rfl, hg, c0, c1', c2⟩ := (HA.out.below hb) k hlt
      have hta := HT.out k hlt
      have t0 := hta.low
      have t1 := hta.from_
      have t2 := hta.high
      have q1 := inWs_le ts h1 (by omega) k
      have q2 := inWs_le ts h1 (by omega) (k + 1)
      have e1 : inWs ts a b (k + 1) = inWs ts a b k + inW (ts.getD k noTn).from_ (ts.getD k noTn).to_ a b := rfl
      rw [e1] at q2
      have E1 := Lib.hid e1
      have hxr := (hb.block _ l3).trans HX3.out
      have z0 : wr.cell? ⟨w.heap.size + 1, 0, none⟩ = some (.int .i64 a) := by simp only [World.cell?, hxr]; rfl
      have z1 : wr.cell? ⟨w.heap.size + 1, 1, none⟩ = some (.int .i64 b) := by simp only [World.cell?, hxr]; rfl
      have hwr : w.heap.size + 1 < wr.heap.size := Nat.lt_of_lt_of_le l3 hb.size
      unfold endT at t2
      clear hta e1 hxr
      generalize ts.getD k noTn = x at *
      obtain ⟨xw, xf, xt⟩ := x
      simp only at c0 c1' c2 t0 t1 t2 q2 E1
      generalize inWs ts a b k = S at *
      have HB := Lib.hid hb
      have hbs := hb.size
      clear hb
      go_wp2_with fail
      clear z0 z1 c0 c1' c2
      refine (within_any xf xt a b _ (by omega) (by omega) (by omega) (by omega)).mono ?_
      rintro e w5 ⟨rfl, hb5⟩
      have hb6 := (HB.out.alloc hbs (.cells #[.string xw, .int .i64 xf, .int .i64 xt] 51)).trans (hb5.mono (by simp; omega))
      have HB6 := Lib.hid hb6
      have s1 : IntKind.i64.wrap (b - a - S - inW xf xt a b) = b - a - S - inW xf xt a b := IntWalk.i64_in _ (by omega)
      clear hb5 hb6 HB
      go_wp2_with fail
      go_roundw
      case rel => exact ⟨k + 1, hlt, by go_num, by rw [E1.out]; congr 1; omega, HB6.out⟩
      case measure => simp [intOf]; omega
    · have : k = ts.length := by omega
      subst this
      go_wp2_with fail
      go_ret2
      exact ⟨by rw [HTS.out]; rfl, HB3.out.trans (hb.mono HB3.out.size)⟩
end Go.Proofs.YtollmagiifkicaaGreatDoor
