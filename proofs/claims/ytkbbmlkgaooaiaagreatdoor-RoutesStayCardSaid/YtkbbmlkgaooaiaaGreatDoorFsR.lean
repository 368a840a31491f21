/- route.Firsts at any routers and any health: what is wrong, or who leads (the parts of rows 5 and 7 that this needs). route.Firsts at any routers and any health. -/
import Derived.Test.YtkbbmlkgaooaiaaGreatDoorTuC
import Derived.Test.YtkbbmlkgaooaiaaGreatDoorGrB
import Derived.Test.YtkbbmlkgaooaiaaGreatDoorRtC
namespace Go.Hw

theorem getTn_mem {l : List Tn} {i : Nat} (h : i < l.length) : l.getD i noTn ∈ l := by
  rw [List.getD_eq_getElem?_getD, List.getElem?_eq_getElem h]; exact List.getElem_mem h
theorem getTn_get {l : List Tn} {i : Nat} (h : i < l.length) : l[i]? = some (l.getD i noTn) := by
  rw [List.getD_eq_getElem?_getD, List.getElem?_eq_getElem h]; rfl
theorem turns_len {r : List Rt} {l : List Hl} (hr : RtFine r) (hl : HlFine l) : (turnsP r l).length ≤ l.length :=
  (behind_any hr hl l.length l.length (Nat.le_refl _) (Nat.le_refl _) (.inr (.inl rfl))).many
theorem flat6 {α β : Type} (f : α → List β) (h6 : ∀ a, (f a).length = 6) : ∀ (l : List α) (i : Nat) (hi : i < l.length) (j : Nat) (u : β), (f l[i])[j]? = some u → (l.flatMap f)[i * 6 + j]? = some u
  | [], i, hi, _, _, _ => by simp at hi
  | a :: l, 0, _, j, u, hu => by
    have hu : (f a)[j]? = some u := hu
    have hj := (List.getElem?_eq_some_iff.1 hu).1
    rw [List.flatMap_cons, Nat.zero_mul, Nat.zero_add, List.getElem?_append_left hj]
    exact hu
  | a :: l, i + 1, hi, j, u, hu => by
    rw [List.flatMap_cons, List.getElem?_append_right (by rw [h6]; omega), h6, show (i + 1) * 6 + j - 6 = i * 6 + j from by omega]
    exact flat6 f h6 l i (by simpa using hi) j u hu
end Go.Hw

namespace Go.Proofs.YtkbbmlkgaooaiaaGreatDoor
open Go.RowKit Go.Hw Go.Shelf

theorem rts_own_at {w : World} {base : Nat} {v : Value} {l : List Rt} (h : RtsOwn w base v l) : ∃ A cap, v = .slice A l.length cap ∧ RtsAt w w.heap.size A l := by
  obtain ⟨A, cap, rfl, hc⟩ := own_reads h
  refine ⟨A, cap, rfl, fun i hi => ?_⟩
  have he : l.getD i noRt = l[i] := by rw [List.getD_eq_getElem?_getD, List.getElem?_eq_getElem hi]; rfl
  have hcell := fun j u hu => hc _ _ (flat6 rtCells (fun _ => rfl) l i hi j u hu)
  obtain ⟨g, h1, h2, h3⟩ := hcell 0 _ rfl
  have hg : ∀ j u, (rtCells l[i])[j]? = some u → w.cell? ⟨g, i * 6 + j, none⟩ = some u := fun j u hu => by
    obtain ⟨g', h1', _, h4⟩ := hcell j u hu
    rw [h1] at h1'
    injection h1' with h1'
    injection h1' with h1'
    subst h1'
    exact h4
  refine ⟨g, 0, h1, h2, ?_, ?_, ?_, ?_, ?_, ?_⟩ <;> rw [he, Nat.zero_add]
  · exact hg 0 _ rfl
  · exact hg 1 _ rfl
  · exact hg 2 _ rfl
  · exact hg 3 _ rfl
  · exact hg 4 _ rfl
  · exact hg 5 _ rfl
theorem RtsAt.wide {w : World} {B B' : Nat} {A : Option Addr} {xs : List Rt} (h : RtsAt w B A xs) (hB : B ≤ B') : RtsAt w B' A xs := fun i hi => by
  obtain ⟨g, off, h1, h2, h3⟩ := h i hi
  exact ⟨g, off, h1, by omega, h3⟩
theorem HlsAt.wide {w : World} {B B' : Nat} {A : Option Addr} {xs : List Hl} (h : HlsAt w B A xs) (hB : B ≤ B') : HlsAt w B' A xs := fun i hi => by
  obtain ⟨g, off, h1, h2, h3⟩ := h i hi
  exact ⟨g, off, h1, by omega, h3⟩
/-- What is asked of the log and of the routers. -/
structure LogFine (r : List Rt) (l : List Hl) : Prop where
  rl : r.length ≤ 500
  rt : ∀ y ∈ r, RtT y
  rf : rtFault r = 0
  ll : l.length ≤ 2000
  ls : ∀ i, (l.getD i noHl).node.size ≤ maxLen
  lf : hlFault l = 0

theorem TnsAt.wide {w : World} {B B' : Nat} {A : Option Addr} {xs : List Tn} (h : TnsAt w B A xs) (hB : B ≤ B') : TnsAt w B' A xs := fun i hi => by
  obtain ⟨g, h1, h2, h3⟩ := h i hi
  exact ⟨g, h1, by omega, h3⟩
end Go.Proofs.YtkbbmlkgaooaiaaGreatDoor

namespace Go.Hw

structure Ld where
  pf : Pf
  node : ByteArray
deriving DecidableEq
def noLd : Ld := ⟨⟨false, 0, 0, 0⟩, ByteArray.empty⟩
def leadStep (l : List Hl) (t : Int) (out : List Ld) (g : Gp) : List Ld :=
  if (whoP (turnsP g.list l) t).size ≠ 0 then out ++ [⟨g.pf, whoP (turnsP g.list l) t⟩] else out
def leadsG (l : List Hl) (t : Int) (gs : List Gp) : List Ld := gs.foldl (leadStep l t) []
def leadsP (r : List Rt) (l : List Hl) (t : Int) : List Ld := leadsG l t (groupsP r)
theorem leads_snoc (l : List Hl) (t : Int) (gs : List Gp) (g : Gp) : leadsG l t (gs ++ [g]) = leadStep l t (leadsG l t gs) g := by
  unfold leadsG
  rw [List.foldl_append]; rfl
theorem leads_len (l : List Hl) (t : Int) (gs : List Gp) : (leadsG l t gs).length ≤ gs.length := by
  suffices ∀ n, (leadsG l t (gs.take n)).length ≤ (gs.take n).length by
    have h := this gs.length
    rwa [List.take_length] at h
  intro n
  induction n with
  | zero => simp [leadsG]
  | succ n ih =>
    by_cases hn : n < gs.length
    · rw [List.take_succ_eq_append_getElem hn, leads_snoc]
      unfold leadStep
      split <;> simp at ih ⊢ <;> omega
    · rw [List.take_of_length_le (by omega)] at ih ⊢
      exact ih
theorem RtFine.group {r : List Rt} (hr : RtFine r) {g : Gp} (h : g ∈ groupsP r) : RtFine g.list :=
  ⟨fun x hx => hr.named x ((grouped r).own g h x hx), fun x hx => hr.weight x ((grouped r).own g h x hx)⟩
theorem find_at {α : Type} {l : List α} {d : α} {P : α → Bool} {k : Nat} (hk : k < l.length) (hp : P (l.getD k d) = true) : (∀ i, i < k → P (l.getD i d) = false) → l.find? P = some (l.getD k d) := by
  induction l generalizing k with
  | nil => simp at hk
  | cons a l ih =>
    intro hn
    cases k with
    | zero =>
      simp only [List.getD_cons_zero] at hp ⊢
      rw [List.find?_cons_of_pos hp]
    | succ k =>
      have h0 := hn 0 (by omega)
      simp only [List.getD_cons_zero] at h0
      rw [List.find?_cons_of_neg (by simp [h0])]
      simp only [List.getD_cons_succ] at hp ⊢
      exact ih (by simpa using hk) hp fun i hi => by
        have := hn (i + 1) (by omega)
        simpa only [List.getD_cons_succ] using this
theorem who_at {l : List Tn} {t : Int} {k : Nat} (hk : k < l.length) (hp : (l.getD k noTn).from_ ≤ t ∧ t < (l.getD k noTn).to_) (hn : ∀ i, i < k → ¬ ((l.getD i noTn).from_ ≤ t ∧ t < (l.getD i noTn).to_)) : whoP l t = (l.getD k noTn).who := by
  unfold whoP
  rw [find_at (d := noTn) hk (by simpa using hp) (fun i hi => by simpa using hn i hi)]
theorem tn_mem {l : List Tn} {x : Tn} (hx : x ∈ l) : ∃ i, i < l.length ∧ l.getD i noTn = x := by
  obtain ⟨i, hi, e⟩ := List.getElem_of_mem hx
  exact ⟨i, hi, by rw [List.getD_eq_getElem?_getD, List.getElem?_eq_getElem hi]; simpa using e⟩
theorem who_off {l : List Tn} {t : Int} (hn : ∀ i, i < l.length → ¬ ((l.getD i noTn).from_ ≤ t ∧ t < (l.getD i noTn).to_)) : whoP l t = ByteArray.empty := who_none fun y hy => by
  obtain ⟨i, hi, rfl⟩ := tn_mem hy
  exact hn i hi
end Go.Hw

namespace Go.Proofs.YtkbbmlkgaooaiaaGreatDoor
open Go.RowKit Go.Hw Go.Shelf

def WhI (w : World) (l : List Tn) (t : Int) (v9 : Value) (wr : World) : Prop :=
  ∃ k : Nat, k ≤ l.length ∧ v9 = .int .i64 k ∧ (∀ i, i < k → ¬ ((l.getD i noTn).from_ ≤ t ∧ t < (l.getD i noTn).to_)) ∧ Below w.heap.size w wr
set_option maxRecDepth 100000 in
set_option maxHeartbeats 1000000 in
theorem whoAt_any (A : Option Addr) (cap : Nat) (l : List Tn) (t : Int) (w : World) (h : TnsAt w w.heap.size A l) (hl : l.length ≤ 100000) :
    Calls Tryz.prog 50 #[.slice A l.length cap, .int .i64 t] w fun e w' => e = .returned (.string (whoP l t)) ∧ Below w.heap.size w w' := by
  have H := Lib.hid h
  clear h
  go_enter Tryz.func50, Tryz.ntmps50
  go_wp2_with fail
  go_loopw [9] (fun v9 wr => WhI w l t v9 wr) (fun v9 _ => l.length - (intOf v9).toNat)
  case atStart => exact ⟨0, by omega, rfl, fun i hi => by omega, Below.refl _ _⟩
  case round =>
    obtain ⟨k, hk, rfl, hn, hb⟩ := hrel
    by_cases hlt : k < l.length
    · obtain ⟨g, rfl, hg, c0, c1, c2⟩ := (H.out.below hb) k hlt
      have hw := fun hp => who_at (t := t) hlt hp hn
      have hnx : ¬ ((l.getD k noTn).from_ ≤ t ∧ t < (l.getD k noTn).to_) → ∀ i, i < k + 1 → ¬ ((l.getD i noTn).from_ ≤ t ∧ t < (l.getD i noTn).to_) := fun h i hi => by
        by_cases e : i = k
        · rw [e]; exact h
        · exact hn i (by omega)
      have HW := Lib.hid hw
      have HNX := Lib.hid hnx
      clear hw hnx hn
      generalize l.getD k noTn = x at *
      obtain ⟨xw, xf, xt⟩ := x
      simp only at c0 c1 c2 HW HNX
      have HB := Lib.hid (hb.alloc hb.size (.cells #[.string xw, .int .i64 xf, .int .i64 xt] 151))
      clear hb
      by_cases h1 : xf ≤ t
      · by_cases h2 : t < xt
        · have HZ := Lib.hid (HW.out ⟨h1, h2⟩)
          clear HNX HW
          go_wp2_with fail
          go_ret
          exact ⟨ret_str HZ.out.symm, HB.out⟩
        · have HN := Lib.hid (HNX.out (fun e => h2 e.2))
          clear HNX
          go_wp2_with fail
          go_roundw
          case rel => exact ⟨k + 1, hlt, by go_num, HN.out, HB.out⟩
          case measure => simp [intOf]; omega
      · have HN := Lib.hid (HNX.out (fun e => h1 e.1))
        clear HNX
        go_wp2_with fail
        go_roundw
        case rel => exact ⟨k + 1, hlt, by go_num, HN.out, HB.out⟩
        case measure => simp [intOf]; omega
    · have hkk : k = l.length := by omega
      have hz := who_off (l := l) (t := t) (fun i hi => hn i (by omega))
      have HZ := Lib.hid hz
      clear hn hz
      go_wp2_with fail
      go_ret
      exact ⟨ret_str HZ.out.symm, hb⟩

theorem momentFault_any (t : Int) (w : World) (h : 0 ≤ t ∧ t < 345686400) : Calls Tryz.prog 24 #[.int .i64 t] w fun e w' => e = .returned (.int .i64 0) ∧ w = w' := by
  have hm : isMom t = true := by unfold isMom; simp; omega
  go_enter Tryz.func24, Tryz.ntmps24
  go_wp2_with fail
  refine (isMom_any t w).mono ?_
  rintro e w3 ⟨rfl, rfl⟩
  rw [hm]
  go_wp2_with fail
  go_ret
  exact ⟨rfl, rfl⟩
def ldCells (x : Ld) : List Value := [.bool x.pf.six, .int .u64 x.pf.hi, .int .u64 x.pf.lo, .int .i64 x.pf.bits, .string x.node]
def ldsCells (xs : List Ld) : List Value := xs.flatMap ldCells
theorem lds_snoc (xs : List Ld) (x : Ld) : ldsCells (xs ++ [x]) = ldsCells xs ++ ldCells x := by simp [ldsCells]
theorem Tryz.infoLead : (Tryz.prog.info? 46).map (fun i => (i.zero, i.size, i.bytes)) = some (some (.agg #[.bool false, .int .u64 0, .int .u64 0, .int .i64 0, .string ⟨#[]⟩]), 5, 48) := by kernel_rfl
/-- Leads that the call owns. -/
def LdsOwn (w : World) (base : Nat) (v : Value) (l : List Ld) : Prop := w.ownsRow base 46 5 v l.length (ldsCells l)
/-- Leads in memory, below block B. -/
def LdsAt (w : World) (B : Nat) (A : Option Addr) (l : List Ld) : Prop :=
  ∀ i, i < l.length → ∃ g, A = some ⟨g, 0, none⟩ ∧ g < B ∧ w.cell? ⟨g, i * 5, none⟩ = some (.bool (l.getD i noLd).pf.six) ∧ w.cell? ⟨g, i * 5 + 1, none⟩ = some (.int .u64 (l.getD i noLd).pf.hi) ∧ w.cell? ⟨g, i * 5 + 2, none⟩ = some (.int .u64 (l.getD i noLd).pf.lo) ∧
    w.cell? ⟨g, i * 5 + 3, none⟩ = some (.int .i64 (l.getD i noLd).pf.bits) ∧ w.cell? ⟨g, i * 5 + 4, none⟩ = some (.string (l.getD i noLd).node)
theorem LdsAt.below {w w' : World} {B : Nat} {A : Option Addr} {l : List Ld} (h : LdsAt w B A l) (hb : Below B w w') : LdsAt w' B A l := fun i hi =>
  let ⟨g, h1, h2, h3, h4, h5, h6, h7⟩ := h i hi
  ⟨g, h1, h2, (hb.cell (p := ⟨g, _, none⟩) h2).trans h3, (hb.cell (p := ⟨g, _, none⟩) h2).trans h4, (hb.cell (p := ⟨g, _, none⟩) h2).trans h5, (hb.cell (p := ⟨g, _, none⟩) h2).trans h6, (hb.cell (p := ⟨g, _, none⟩) h2).trans h7⟩
theorem LdsAt.wide {w : World} {B B' : Nat} {A : Option Addr} {xs : List Ld} (h : LdsAt w B A xs) (hB : B ≤ B') : LdsAt w B' A xs := fun i hi => by
  obtain ⟨g, h1, h2, h3⟩ := h i hi
  exact ⟨g, h1, by omega, h3⟩
theorem flat5 {α : Type} (f : α → List Value) (hf : ∀ x, (f x).length = 5) (l : List α) : ∀ i (h : i < l.length) j u, (f l[i])[j]? = some u → (l.flatMap f)[i * 5 + j]? = some u := by
  induction l with
  | nil => intro i h; simp at h
  | cons a l ih =>
    intro i h j u hu
    rw [List.flatMap_cons]
    have hj : j < 5 := by
      have := (List.getElem?_eq_some_iff.1 hu).1
      rw [hf] at this
      exact this
    rcases i with _ | i
    · rw [List.getElem?_append_left (by rw [hf]; omega), show 0 * 5 + j = j from by omega]
      exact hu
    · rw [List.getElem?_append_right (by rw [hf]; omega), hf, show (i + 1) * 5 + j - 5 = i * 5 + j from by omega]
      exact ih i (by simp at h; omega) j u hu
theorem lds_at {w : World} {base : Nat} {v : Value} {l : List Ld} (h : LdsOwn w base v l) : ∃ A cap, v = .slice A l.length cap ∧ LdsAt w w.heap.size A l := by
  obtain ⟨A, cap, rfl, hc⟩ := own_reads h
  refine ⟨A, cap, rfl, fun i hi => ?_⟩
  have he : l.getD i noLd = l[i] := by rw [List.getD_eq_getElem?_getD, List.getElem?_eq_getElem hi]; rfl
  have hcell := fun j u hu => hc _ _ (flat5 ldCells (fun _ => rfl) l i hi j u hu)
  obtain ⟨g, h1, h2, h3⟩ := hcell 0 _ rfl
  have hg : ∀ j u, (ldCells l[i])[j]? = some u → w.cell? ⟨g, i * 5 + j, none⟩ = some u := fun j u hu => by
    obtain ⟨g', h1', _, h4⟩ := hcell j u hu
    rw [h1] at h1'
    injection h1' with h1'
    injection h1' with h1'
    subst h1'
    exact h4
  rw [he]
  exact ⟨g, h1, h2, hg 0 _ rfl, hg 1 _ rfl, hg 2 _ rfl, hg 3 _ rfl, hg 4 _ rfl⟩
def FsI (w : World) (gs : List Gp) (l : List Hl) (t : Int) (c : Nat) (v7 v14 : Value) (wr : World) : Prop :=
  ∃ (k : Nat) (sv : Value), c = gs.length - k ∧ k ≤ gs.length ∧ sv = v7 ∧ v14 = .int .i64 k ∧ LdsOwn wr w.heap.size sv (leadsG l t (gs.take k)) ∧ Below w.heap.size w wr
theorem take_getG {l : List Gp} {i : Nat} (h : i < l.length) : l.take (i + 1) = l.take i ++ [l.getD i noGp] := by
  rw [List.take_succ_eq_append_getElem h, List.getD_eq_getElem?_getD, List.getElem?_eq_getElem h]
  rfl
theorem own_grownB {w w' : World} {base : Nat} {v : Value} {l : List Ld} (h : LdsOwn w base v l) (hb : Below w.heap.size w w') : LdsOwn w' base v l := own_below h hb (Nat.le_refl _)
set_option maxRecDepth 100000 in
set_option maxHeartbeats 4000000 in
theorem firsts_any (A : Option Addr) (cap : Nat) (r : List Rt) (AH : Option Addr) (capH : Nat) (l : List Hl) (t : Int) (w : World) (h : RtsAt w w.heap.size A r) (hH : HlsAt w w.heap.size AH l) (hr : RtFine r) (hl : HlFine l) (hrl : r.length ≤ 500) (hll : l.length ≤ 2000) :
    Calls Tryz.prog 25 #[.slice A r.length cap, .slice AH l.length capH, .int .i64 t] w fun e w' => ∃ v, e = .returned v ∧ LdsOwn w' w.heap.size v (leadsP r l t) ∧ Below w.heap.size w w' := by
  obtain ⟨i0, hi, hz0, hz1, hz2⟩ := info_parts Tryz.infoLead
  have h1 := groupsOf_any A cap r w h hrl
  have HH := Lib.hid hH
  have HR := Lib.hid (fun g (hg : g ∈ groupsP r) => hr.group hg)
  have HL := Lib.hid hl
  have HLG := Lib.hid (fun g (hg : g ∈ groupsP r) => Nat.le_trans ((grouped r).long g hg) hrl)
  have hgm : (groupsP r).length ≤ 500 := Nat.le_trans (grouped r).many hrl
  clear h hH hr hl
  go_enter Tryz.func25, Tryz.ntmps25
  go_wp2_with fail
  refine h1.mono ?_
  rintro e w1 ⟨v, ss, rfl, hG, hb1⟩
  have HB1 := Lib.hid hb1
  have hww := hb1.size
  have HG := Lib.hid hG
  obtain ⟨AG, capG, rfl, -⟩ := own_reads hG.row
  have hP : leadsP r l t = leadsG l t (groupsP r) := rfl
  have HP := Lib.hid hP
  clear h1 hb1 hG hP
  generalize groupsP r = gs at *
  go_wp2_with fail
  go_loopg [7, 14] (gs.length) (fun c v7 v14 wr => FsI w1 gs l t c v7 v14 wr)
  case atStart => exact ⟨0, _, by omega, by omega, rfl, rfl, World.ownsRow_nil _ _ _ _, Below.refl _ _⟩
  case round =>
    obtain ⟨k, sv, hck, hk, rfl, rfl, hO, hb⟩ := hrel
    by_cases hkt : k < gs.length
    · have hrow := HG.out.row
      obtain ⟨gv, rfl⟩ : ∃ gv, AG = some ⟨gv, 0, none⟩ := by
        rcases hrow.2 with ⟨_, h0⟩ | ⟨gv, _, _, e, _⟩
        · omega
        · injection e with e; exact ⟨gv, e⟩
      have hgv := (World.ownsRow.lt hrow gv rfl).2
      have hcell := fun j (hj : j < 5) => (hb.cell (p := ⟨gv, k * 5 + j, none⟩) hgv).trans ((hrow.cellAt (k * 5 + j) (by omega)).trans (gps_get gs ss HG.out.len k j hkt hj))
      have c0 := hcell 0 (by omega)
      have c1 := hcell 1 (by omega)
      have c2 := hcell 2 (by omega)
      have c3 := hcell 3 (by omega)
      have c4 := hcell 4 (by omega)
      simp only [gpCells, List.getElem?_cons_zero, List.getElem?_cons_succ, Nat.add_zero] at c0 c1 c2 c3 c4
      have hmem : gs.getD k noGp ∈ gs := by rw [List.getD_eq_getElem?_getD, List.getElem?_eq_getElem hkt]; exact List.getElem_mem hkt
      have hrg := HR.out _ hmem
      have hlg := HLG.out _ hmem
      have hsn := leads_snoc l t (gs.take k) (gs.getD k noGp)
      rw [← take_getG hkt] at hsn
      obtain ⟨A', cap', hs, hat⟩ := rts_own_at (HG.out.own k hkt).1
      rw [hs] at c4
      have HAT := Lib.hid (hat.below hb)
      have HSN := Lib.hid hsn
      have HO := Lib.hid hO
      have HBR := Lib.hid hb
      have hlw := Nat.le_trans (leads_len l t (gs.take k)) (show (gs.take k).length ≤ 500 by simp; omega)
      clear hs hat hb hrow hcell hsn hmem hO
      generalize gs.getD k noGp = q at *
      obtain ⟨⟨q6, qh, ql, qb⟩, lst⟩ := q
      dsimp only at c0 c1 c2 c3 c4 hrg hlg HAT
      have hbA := (Below.refl w1.heap.size wr).alloc HBR.out.size (.cells #[.bool q6, .int .u64 qh, .int .u64 ql, .int .i64 qb, .slice A' lst.length cap'] 105)
      have hbB := HBR.out.alloc HBR.out.size (.cells #[.bool q6, .int .u64 qh, .int .u64 ql, .int .i64 qb, .slice A' lst.length cap'] 105)
      have hbx : (wr.alloc (.cells #[.bool q6, .int .u64 qh, .int .u64 ql, .int .i64 qb, .slice A' lst.length cap'] 105)).heap[wr.heap.size]? = some (.cells #[.bool q6, .int .u64 qh, .int .u64 ql, .int .i64 qb, .slice A' lst.length cap'] 105 (0, 0)) := heap_alloc_new _ _
      have ht := turns_any A' cap' lst AH capH l (wr.alloc (.cells #[.bool q6, .int .u64 qh, .int .u64 ql, .int .i64 qb, .slice A' lst.length cap'] 105)) ((HAT.out.below hbA).wide (Nat.le_trans HBR.out.size hbA.size)) ((HH.out.below (HB1.out.trans (hbB.mono hww))).wide (Nat.le_trans hww (Nat.le_trans HBR.out.size hbA.size))) hrg HL.out hlg hll
      have hoA : LdsOwn (wr.alloc (.cells #[.bool q6, .int .u64 qh, .int .u64 ql, .int .i64 qb, .slice A' lst.length cap'] 105)) w1.heap.size sv (leadsG l t (gs.take k)) := World.ownsRow.alloc HO.out _
      have HOA := Lib.hid hoA
      have HBB := Lib.hid hbB
      have HBX := Lib.hid hbx
      have hszA : wr.heap.size < (wr.alloc (.cells #[.bool q6, .int .u64 qh, .int .u64 ql, .int .i64 qb, .slice A' lst.length cap'] 105)).heap.size := by simp
      have hll2 := turns_len hrg HL.out
      clear hbA hbB hoA hrg HAT HO HBR hbx
      go_wp2_with fail
      generalize World.alloc wr _ = W at *
      refine ht.mono ?_
      rintro e w2 ⟨v2, rfl, hT, hb2⟩
      obtain ⟨A2, cp2, rfl, ha2⟩ := tns_at hT
      have HO2 := Lib.hid (own_grownB HOA.out hb2)
      have HB2 := Lib.hid (HBB.out.trans (hb2.mono HBB.out.size))
      have HX2 := Lib.hid ((hb2.block _ hszA).trans HBX.out)
      have hsz2 := hb2.size
      have hw := whoAt_any A2 cp2 (turnsP lst l) t w2 ha2 (by omega)
      clear ht hT hb2 HOA HBB HBX ha2 c0 c1 c2 c3 c4
      unfold leadStep at HSN
      dsimp only at HSN
      go_wp2_with fail
      refine hw.mono ?_
      rintro e w3 ⟨rfl, hb3⟩
      have HO3 := Lib.hid (own_grownB HO2.out hb3)
      have HB3 := Lib.hid (HB2.out.trans (hb3.mono HB2.out.size))
      have hx3 := (hb3.block wr.heap.size (by omega)).trans HX2.out
      have HX3 := Lib.hid hx3
      have hsz3 : wr.heap.size < w3.heap.size := by have := hb3.size; omega
      clear hw hb3 HO2 HB2 HX2 hx3
      generalize whoP (turnsP lst l) t = who at *
      by_cases hz : who.size = 0
      · obtain rfl : who = ⟨#[]⟩ := size0 hz rfl
        have HREL : Hid (FsI w1 gs l t (gs.length - (k + 1)) sv (.int .i64 ((k + 1 : Nat) : Int)) w3) := Lib.hid ⟨k + 1, sv, rfl, by omega, rfl, rfl, by rw [HSN.out, if_neg (by simp [hz])]; exact HO3.out, HB3.out⟩
        clear hz HSN HO3
        go_wp2_with fail
        go_roundg (gs.length - (k + 1))
        case measure => omega
        case rel => exact HREL.out
      · obtain ⟨r1, r2⟩ := str_ne hz
        have HST := Lib.hid (HSN.out.trans (if_pos hz))
        obtain ⟨⟨x0, x1, x2, x3, x4⟩, -⟩ := res5 HX3.out
        clear hz HSN
        go_wp2_with (at_builtin; refine wpList_append_own _ rfl (.tmp 26) (.tmp 31) 34 rfl (w1.heap.size) 46 i0 (.agg #[.bool false, .int .u64 0, .int .u64 0, .int .i64 0, .string ⟨#[]⟩]) 5 48 Tryz.underlying34 hi hz0 hz1 hz2 rfl (by decide) _ _ _ rfl (World.ownsRow.alloc HO3.out _) ⟨w3.heap.size, 0, none⟩ 1 1 [.bool q6, .int .u64 qh, .int .u64 ql, .int .i64 qb, .string who] rfl rfl (cells_new w3 [.bool q6, .int .u64 qh, .int .u64 ql, .int .i64 qb, .string who] _) (by simp [Value.oneCell']) (by unfold maxLen; first | omega | (simp; omega)) (by first | omega | (simp; omega)) (by have := HB3.out.size; first | omega | (simp; omega) | simp) ?_)
        intro v' w4 ho4 hg4 _
        have hlt' := World.ownsRow.lt HO3.out
        have hown : LdsOwn w4 w1.heap.size v' (leadsG l t (gs.take (k + 1))) := by
          rw [HST.out]
          unfold LdsOwn
          rw [lds_snoc]
          exact own_cast ho4 (by simp) rfl
        have hbn := (HB3.out.alloc HB3.out.size _).grown hg4 (HB3.out.alloc HB3.out.size _).size (fun j hj => by have := (hlt' j hj).1; omega)
        have HREL : Hid (FsI w1 gs l t (gs.length - (k + 1)) v' (.int .i64 ((k + 1 : Nat) : Int)) w4) := Lib.hid ⟨k + 1, v', rfl, by omega, rfl, rfl, hown, hbn⟩
        clear ho4 hg4 hlt' hown hbn x0 x1 x2 x3 x4
        go_wp2_with fail
        go_roundg (gs.length - (k + 1))
        case measure => omega
        case rel => exact HREL.out
    · have hkk : k = gs.length := by omega
      have HFIN : Hid (LdsOwn wr w.heap.size sv (leadsP r l t)) := Lib.hid (by
        rw [HP.out]
        rw [hkk, List.take_length] at hO
        exact own_base hO hww)
      clear hO hkk
      go_wp2_with fail
      go_ret
      exact ⟨_, rfl, HFIN.out, HB1.out.trans (hb.mono hww)⟩
end Go.Proofs.YtkbbmlkgaooaiaaGreatDoor

namespace Go.Proofs.YtkbbmlkgaooaiaaGreatDoor
open Go.RowKit Go.Hw Go.Shelf

/-- Routers and health as they are drawn. -/
structure RhT (r : List Rt) (l : List Hl) : Prop where
  rl : r.length ≤ 500
  rt : ∀ y ∈ r, RtT y
  ll : l.length ≤ 2000
  ls : ∀ i, (l.getD i noHl).node.size ≤ maxLen
/-- What is wrong with routers, or else with health. -/
def rhCode (r : List Rt) (l : List Hl) : Int := if rtFault r ≠ 0 then rtFault r else hlFault l
theorem rhCode_zero {r : List Rt} {l : List Hl} : rhCode r l = 0 ↔ rtFault r = 0 ∧ hlFault l = 0 := by
  unfold rhCode
  by_cases h : rtFault r = 0
  · rw [if_neg (fun k => k h)]; exact ⟨fun k => ⟨h, k⟩, fun k => k.2⟩
  · rw [if_pos h]; exact ⟨fun k => absurd k h, fun k => k.1⟩
set_option maxRecDepth 100000 in
set_option maxHeartbeats 1000000 in
theorem routersFault3_any (A : Option Addr) (cap : Nat) (r : List Rt) (AH : Option Addr) (capH : Nat) (l : List Hl) (w : World) (h : RtsAt w w.heap.size A r) (hH : HlsAt w w.heap.size AH l) (F : RhT r l) :
    Calls Tryz.prog 23 #[.slice A r.length cap, .slice AH l.length capH] w fun e w' => e = .returned (.int .i64 (rhCode r l)) ∧ Below w.heap.size w w' := by
  have h1 := checkRouters_full A cap r w h F.rl F.rt
  have HH := Lib.hid hH
  have HF := Lib.hid F
  clear h hH F
  by_cases z : rtFault r = 0
  · have HC : Hid (rhCode r l = hlFault l) := Lib.hid (by unfold rhCode; rw [if_neg (fun k => k z)])
    rw [z] at h1
    go_enter Tryz.func23, Tryz.ntmps23
    go_wp2_with fail
    refine h1.mono ?_
    rintro e w1 ⟨rfl, hb1⟩
    have h2 := checkHealth_full AH capH l w1 ((HH.out.below hb1).wide hb1.size) HF.out.ll HF.out.ls
    have HB := Lib.hid hb1
    clear h1 hb1 z
    go_wp2_with fail
    refine h2.mono ?_
    rintro e w2 ⟨rfl, hb2⟩
    have HB2 := Lib.hid (HB.out.trans (hb2.mono HB.out.size))
    clear hb2 h2
    generalize hlFault l = c at *
    go_wp2_with fail
    go_ret
    exact ⟨ret_eq HC.out.symm, HB2.out⟩
  · have HC : Hid (rhCode r l = rtFault r) := Lib.hid (by unfold rhCode; rw [if_pos z])
    have hz : (rtFault r != 0) = true := by simpa using z
    clear z
    generalize rtFault r = c at *
    go_enter Tryz.func23, Tryz.ntmps23
    go_wp2_with fail
    refine h1.mono ?_
    rintro e w1 ⟨rfl, hb1⟩
    have HB := Lib.hid hb1
    clear h1 hb1
    go_wp2_with fail
    go_ret
    exact ⟨ret_eq HC.out.symm, HB.out⟩

set_option maxRecDepth 100000 in
set_option maxHeartbeats 1000000 in
theorem Firsts_full (A : Option Addr) (cap : Nat) (r : List Rt) (AH : Option Addr) (capH : Nat) (l : List Hl) (t : Int) (w : World) (h : RtsAt w w.heap.size A r) (hH : HlsAt w w.heap.size AH l) (F : RhT r l) (ht : 0 ≤ t ∧ t < 345686400) :
    Calls Tryz.prog 8 #[.slice A r.length cap, .slice AH l.length capH, .int .i64 t] w fun e w' => ∃ v L, e = .returned (.tuple #[v, .int .i64 (rhCode r l)]) ∧ LdsOwn w' w.heap.size v L ∧ L.length ≤ 500 ∧ Below w.heap.size w w' := by
  have h1 := routersFault3_any A cap r AH capH l w h hH F
  by_cases z : rhCode r l = 0
  · have hz := rhCode_zero.1 z
    have HZ := Lib.hid z
    have H := Lib.hid h
    have HH := Lib.hid hH
    have hr := rt_fine hz.1 F.rl
    have hl := hl_fine hz.2 F.ll
    have hrl := F.rl
    have hll := F.ll
    have HLN : Hid ((leadsP r l t).length ≤ 500) := Lib.hid (by
      have h5 := leads_len l t (groupsP r)
      unfold leadsP
      have h6 := (grouped r).many
      have h7 := F.rl
      omega)
    rw [z] at h1 ⊢
    clear h hH F hz z
    go_enter Tryz.func8, Tryz.ntmps8
    go_wp2_with fail
    refine h1.mono ?_
    rintro e w1 ⟨rfl, hb1⟩
    have HB := Lib.hid hb1
    clear h1 hb1
    go_wp2_with fail
    refine (momentFault_any t w1 ht).mono ?_
    rintro e w2 ⟨rfl, rfl⟩
    have h2 := firsts_any A cap r AH capH l t w1 ((H.out.below HB.out).wide HB.out.size) ((HH.out.below HB.out).wide HB.out.size) hr hl hrl hll
    clear hr hl
    go_wp2_with fail
    refine h2.mono ?_
    rintro e w3 ⟨v, rfl, hO, hb3⟩
    have HO := Lib.hid (show LdsOwn w3 w.heap.size v (leadsP r l t) from own_base hO HB.out.size)
    have HB3 := Lib.hid (HB.out.trans (hb3.mono HB.out.size))
    obtain ⟨A3, c3, rfl, -⟩ := lds_at hO
    clear h2 hb3 hO
    go_wp2_with fail
    go_ret2
    exact ⟨_, _, rfl, HO.out, HLN.out, HB3.out⟩
  · have hz : (rhCode r l != 0) = true := by simpa using z
    clear h hH F z
    generalize rhCode r l = c at *
    go_enter Tryz.func8, Tryz.ntmps8
    go_wp2_with fail
    refine h1.mono ?_
    rintro e w1 ⟨rfl, hb1⟩
    have HB := Lib.hid hb1
    clear h1 hb1
    go_wp2_with fail
    go_ret2
    exact ⟨_, [], rfl, World.ownsRow_nil _ _ _ _, by simp, HB.out⟩
end Go.Proofs.YtkbbmlkgaooaiaaGreatDoor
