/- The plain law of leads: who is the first router of each prefix at a moment. route.whoAt, isUp, momentFault, nodeFault, IsUp. route.momentFault, nodeFault, IsUp, firsts, Firsts, First. -/
import Derived.Test.YtollmagiifkicaaGreatDoorOfC
namespace Go.Proofs.YtollmagiifkicaaGreatDoor
open Go.RowKit Go.Hw Go.Shelf

theorem spanP_le {p x : Rt} (hp : RtT p) (hx : RtT x) (fp : p.pf.Fine) (fx : x.pf.Fine) (h : spanP p x ≤ 0) : p.pf.key ≤ x.pf.key := by
  obtain ⟨⟨h1, h2⟩, ⟨h3, h4⟩, h5, h6⟩ := fp
  obtain ⟨⟨k1, k2⟩, ⟨k3, k4⟩, k5, k6⟩ := fx
  obtain ⟨s, a, b, c, n, v⟩ := p
  obtain ⟨s', a', b', c', n', v'⟩ := x
  simp only [Rt.pf, Pf.key] at *
  unfold spanP spanC at h
  simp only [orOf] at h
  simp only [cmpI] at h
  cases s <;> cases s' <;> simp at h ⊢ <;> (repeat' split at h) <;> omega
theorem rt_order {r : List Rt} (h : rtFault r = 0) (hl : r.length ≤ 500) (ht : ∀ y ∈ r, RtT y) : (∀ x ∈ r, x.pf.Fine) ∧ InOrder r := by
  have hp := fun i (hi : i < r.length) => rt_of (rt_parts h hl hi)
  have hT := rtT_at ht
  have hF : ∀ i, i < r.length → (r.getD i noRt).pf.Fine := fun i hi => by
    have h1 := pf_parts (hT i).hi (hT i).lo (hp i hi).1
    have h2 := (hT i).hi
    have h3 := (hT i).lo
    unfold U64 at h2 h3
    refine ⟨by simp only [Rt.pf]; omega, by simp only [Rt.pf]; omega, ?_⟩
    have h4 := h1.2.1
    have : lenA (r.getD i noRt).six ≤ 128 := by unfold lenA; split <;> omega
    simp only [Rt.pf]; omega
  refine ⟨fun x hx => ?_, fun i hi => ?_⟩
  · obtain ⟨i, hi, rfl⟩ := rt_mem hx
    exact hF i hi
  · have h1 := (hp (i + 1) hi).2.2.2 (by omega)
    rw [Nat.add_sub_cancel] at h1
    have h2 := orOf_two h1
    rw [ordP_span (hT i) (hT (i + 1))] at h2
    exact spanP_le (hT i) (hT (i + 1)) (hF i (by omega)) (hF (i + 1) hi) (by omega)
end Go.Proofs.YtollmagiifkicaaGreatDoor
namespace Go.Hw
structure Ld where
  pf : Pf
  node : ByteArray
deriving DecidableEq
def noLd : Ld := ⟨⟨false, 0, 0, 0⟩, ByteArray.empty⟩
def leadStep (l : List Hl) (t : Int) (out : List Ld) (g : Gp) : List Ld :=
  if (whoP (turnsP g.list l) t).size ≠ 0 then out ++ [⟨g.pf, whoP (turnsP g.list l) t⟩] else out
def leadsG (l : List Hl) (t : Int) (gs : List Gp) : List Ld := gs.foldl (leadStep l t) []
def leadsP (r : List Rt) (l : List Hl) (t : Int) : List Ld := leadsG l t (groupsP r)
theorem leads_snoc (l : List Hl) (t : Int) (gs : List Gp) (g : Gp) : leadsG l t (gs ++ [g]) = leadStep l t (leadsG l t gs) g := by
  unfold leadsG
  rw [List.foldl_append]; rfl
theorem leads_len (l : List Hl) (t : Int) (gs : List Gp) : (leadsG l t gs).length ≤ gs.length := by
  suffices ∀ n, (leadsG l t (gs.take n)).length ≤ (gs.take n).length by
    have h := this gs.length
    rwa [List.take_length] at h
  intro n
  induction n with
  | zero => simp [leadsG]
  | succ n ih =>
    by_cases hn : n < gs.length
    · rw [List.take_succ_eq_append_getElem hn, leads_snoc]
      unfold leadStep
      split <;> simp at ih ⊢ <;> omega
    · rw [List.take_of_length_le (by omega)] at ih ⊢
      exact ih
theorem leads_mem {l : List Hl} {t : Int} {x : Ld} : ∀ {gs : List Gp} {out : List Ld}, x ∈ gs.foldl (leadStep l t) out ↔ x ∈ out ∨ ∃ g ∈ gs, x = ⟨g.pf, whoP (turnsP g.list l) t⟩ ∧ (whoP (turnsP g.list l) t).size ≠ 0
  | [], out => by simp
  | g :: gs, out => by
    rw [List.foldl_cons, leads_mem]
    unfold leadStep
    split
    · rename_i h
      simp only [List.mem_append, List.mem_cons, List.not_mem_nil, or_false, exists_eq_or_imp, or_assoc]
      constructor
      · rintro (h1 | h1 | h1)
        · exact .inl h1
        · exact .inr (.inl ⟨h1, h⟩)
        · exact .inr (.inr h1)
      · rintro (h1 | ⟨h1, _⟩ | h1)
        · exact .inl h1
        · exact .inr (.inl h1)
        · exact .inr (.inr h1)
    · rename_i h
      simp only [List.mem_cons, exists_eq_or_imp]
      constructor
      · rintro (h1 | h1)
        · exact .inl h1
        · exact .inr (.inr h1)
      · rintro (h1 | ⟨_, h1⟩ | h1)
        · exact .inl h1
        · exact absurd h1 h
        · exact .inr h1
theorem lead_in {r : List Rt} {l : List Hl} {t : Int} {x : Ld} : x ∈ leadsP r l t ↔ ∃ g ∈ groupsP r, x = ⟨g.pf, whoP (turnsP g.list l) t⟩ ∧ (whoP (turnsP g.list l) t).size ≠ 0 := by
  unfold leadsP leadsG
  rw [leads_mem]
  simp
theorem RtFine.group {r : List Rt} (hr : RtFine r) {g : Gp} (h : g ∈ groupsP r) : RtFine g.list :=
  ⟨fun x hx => hr.named x ((grouped r).own g h x hx), fun x hx => hr.weight x ((grouped r).own g h x hx)⟩
/-- A router that is up has a lead of its prefix. -/
theorem lead_up {r : List Rt} {l : List Hl} (hr : RtFine r) (hl : HlFine l) {t : Int} (h0 : 0 ≤ t) (h1 : t < endT) {y : Rt} (hy : y ∈ r) (hu : upAt l y.node t = true) : ∃ x ∈ leadsP r l t, x.pf = y.pf := by
  obtain ⟨g, hg, e, hyg⟩ := (grouped r).all y hy
  rcases turns_up (hr.group hg) hl h0 h1 with ⟨_, h⟩ | ⟨h, _⟩
  · rw [h y hyg] at hu; cases hu
  · exact ⟨_, lead_in.2 ⟨g, hg, rfl, h⟩, e⟩
/-- Each lead is up, and stays while it is. -/
theorem lead_is {r : List Rt} {l : List Hl} (hr : RtFine r) (hl : HlFine l) (ho : InOrder r) (hf : ∀ x ∈ r, x.pf.Fine) {t : Int} (h0 : 0 ≤ t) (h1 : t + 1 < endT) {x : Ld} (hx : x ∈ leadsP r l t) :
    upAt l x.node t = true ∧ x.node.size ≠ 0 ∧ ∃ own, ownP r x.pf = some own ∧ (upAt l x.node (t + 1) = true → whoP (turnsP own l) (t + 1) = x.node) ∧ ∃ y ∈ r, y.pf = x.pf := by
  obtain ⟨g, hg, rfl, hs⟩ := lead_in.1 hx
  have hn : upAt l (whoP (turnsP g.list l) t) t = true := by
    rcases turns_up (hr.group hg) hl h0 (by omega) with ⟨h, _⟩ | ⟨_, h⟩
    · rw [h] at hs; exact absurd rfl hs
    · exact h
  exact ⟨hn, hs, g.list, own_at ho hf hg, fun h => turns_stay (hr.group hg) hl h0 h1 h, (grouped r).some_ g hg⟩
/-- The longest one of the leads that have an address. -/
def wayStep (P : Pf → Bool) (s : Ld × Bool) (x : Ld) : Ld × Bool := if P x.pf = true ∧ (s.2 = false ∨ s.1.pf.bits < x.pf.bits) then (x, true) else s
def wayP (P : Pf → Bool) (xs : List Ld) : Ld × Bool := xs.foldl (wayStep P) (noLd, false)
theorem way_snoc (P : Pf → Bool) (xs : List Ld) (x : Ld) : wayP P (xs ++ [x]) = wayStep P (wayP P xs) x := by
  unfold wayP; rw [List.foldl_append]; rfl
theorem way_is (P : Pf → Bool) (xs : List Ld) : (∀ x ∈ xs, P x.pf = true → (wayP P xs).2 = true ∧ x.pf.bits ≤ (wayP P xs).1.pf.bits) ∧ ((wayP P xs).2 = true → (wayP P xs).1 ∈ xs ∧ P (wayP P xs).1.pf = true) := by
  suffices ∀ n, (∀ x ∈ xs.take n, P x.pf = true → (wayP P (xs.take n)).2 = true ∧ x.pf.bits ≤ (wayP P (xs.take n)).1.pf.bits) ∧ ((wayP P (xs.take n)).2 = true → (wayP P (xs.take n)).1 ∈ xs.take n ∧ P (wayP P (xs.take n)).1.pf = true) by
    have h := this xs.length
    rwa [List.take_length] at h
  intro n
  induction n with
  | zero => simp [wayP]
  | succ n ih =>
    by_cases hn : n < xs.length
    · rw [List.take_succ_eq_append_getElem hn, way_snoc]
      generalize xs.take n = ys at ih ⊢
      generalize xs[n] = x
      obtain ⟨i1, i2⟩ := ih
      unfold wayStep
      split
      · rename_i h
        refine ⟨fun z hz hp => ⟨rfl, ?_⟩, fun _ => ⟨by simp, h.1⟩⟩
        rcases List.mem_append.1 hz with hz | hz
        · have h1 := i1 z hz hp
          rcases h.2 with h2 | h2
          · rw [h2] at h1; cases h1.1
          · simp only; omega
        · simp at hz; rw [hz]; exact Int.le_refl _
      · rename_i h
        refine ⟨fun z hz hp => ?_, fun h1 => ⟨List.mem_append_left _ (i2 h1).1, (i2 h1).2⟩⟩
        rcases List.mem_append.1 hz with hz | hz
        · exact i1 z hz hp
        · simp at hz; subst hz
          by_cases h1 : (wayP P ys).2 = true
          · refine ⟨h1, ?_⟩
            have : ¬ (wayP P ys).1.pf.bits < z.pf.bits := fun h2 => h ⟨hp, .inr h2⟩
            omega
          · exact absurd ⟨hp, .inl (by simpa using h1)⟩ h
    · rw [List.take_of_length_le (by omega)] at ih ⊢
      exact ih
end Go.Hw

namespace Go.Hw
theorem find_at {α : Type} {l : List α} {d : α} {P : α → Bool} {k : Nat} (hk : k < l.length) (hp : P (l.getD k d) = true) : (∀ i, i < k → P (l.getD i d) = false) → l.find? P = some (l.getD k d) := by
  induction l generalizing k with
  | nil => simp at hk
  | cons a l ih =>
    intro hn
    cases k with
    | zero =>
      simp only [List.getD_cons_zero] at hp ⊢
      rw [List.find?_cons_of_pos hp]
    | succ k =>
      have h0 := hn 0 (by omega)
      simp only [List.getD_cons_zero] at h0
      rw [List.find?_cons_of_neg (by simp [h0])]
      simp only [List.getD_cons_succ] at hp ⊢
      exact ih (by simpa using hk) hp fun i hi => by
        have := hn (i + 1) (by omega)
        simpa only [List.getD_cons_succ] using this
theorem who_at {l : List Tn} {t : Int} {k : Nat} (hk : k < l.length) (hp : (l.getD k noTn).from_ ≤ t ∧ t < (l.getD k noTn).to_) (hn : ∀ i, i < k → ¬ ((l.getD i noTn).from_ ≤ t ∧ t < (l.getD i noTn).to_)) : whoP l t = (l.getD k noTn).who := by
  unfold whoP
  rw [find_at (d := noTn) hk (by simpa using hp) (fun i hi => by simpa using hn i hi)]
theorem tn_mem {l : List Tn} {x : Tn} (hx : x ∈ l) : ∃ i, i < l.length ∧ l.getD i noTn = x := by
  obtain ⟨i, hi, e⟩ := List.getElem_of_mem hx
  exact ⟨i, hi, by rw [List.getD_eq_getElem?_getD, List.getElem?_eq_getElem hi]; simpa using e⟩
theorem who_off {l : List Tn} {t : Int} (hn : ∀ i, i < l.length → ¬ ((l.getD i noTn).from_ ≤ t ∧ t < (l.getD i noTn).to_)) : whoP l t = ByteArray.empty := who_none fun y hy => by
  obtain ⟨i, hi, rfl⟩ := tn_mem hy
  exact hn i hi
end Go.Hw
namespace Go.Proofs.YtollmagiifkicaaGreatDoor
open Go.RowKit Go.Hw Go.Shelf

def WhI (w : World) (l : List Tn) (t : Int) (v9 : Value) (wr : World) : Prop :=
  ∃ k : Nat, k ≤ l.length ∧ v9 = .int .i64 k ∧ (∀ i, i < k → ¬ ((l.getD i noTn).from_ ≤ t ∧ t < (l.getD i noTn).to_)) ∧ Below w.heap.size w wr
set_option maxRecDepth 100000 in
set_option maxHeartbeats 1000000 in
theorem whoAt_any (A : Option Addr) (cap : Nat) (l : List Tn) (t : Int) (w : World) (h : TnsAt w w.heap.size A l) (hl : l.length ≤ 100000) :
    Calls Tryz.prog 58 #[.slice A l.length cap, .int .i64 t] w fun e w' => e = .returned (.string (whoP l t)) ∧ Below w.heap.size w w' := by
  have H := Lib.hid h
  clear h
  go_enter Tryz.func58, Tryz.ntmps58
  go_wp2_with fail
  go_loopw [9] (fun v9 wr => WhI w l t v9 wr) (fun v9 _ => l.length - (intOf v9).toNat)
  case atStart => exact ⟨0, by omega, rfl, fun i hi => by omega, Below.refl _ _⟩
  case round =>
    obtain ⟨k, hk, rfl, hn, hb⟩ := hrel
    by_cases hlt : k < l.length
    · obtain ⟨g, rfl, hg, c0, c1, c2⟩ := (H.out.below hb) k hlt
      have hw := fun hp => who_at (t := t) hlt hp hn
      have hnx : ¬ ((l.getD k noTn).from_ ≤ t ∧ t < (l.getD k noTn).to_) → ∀ i, i < k + 1 → ¬ ((l.getD i noTn).from_ ≤ t ∧ t < (l.getD i noTn).to_) := fun h i hi => by
        by_cases e : i = k
        · rw [e]; exact h
        · exact hn i (by omega)
      have HW := Lib.hid hw
      have HNX := Lib.hid hnx
      clear hw hnx hn
      generalize l.getD k noTn = x at *
      obtain ⟨xw, xf, xt⟩ := x
      simp only at c0 c1 c2 HW HNX
      have HB := Lib.hid (hb.alloc hb.size (.cells #[.string xw, .int .i64 xf, .int .i64 xt] 51))
      clear hb
      by_cases h1 : xf ≤ t
      · by_cases h2 : t < xt
        · have HZ := Lib.hid (HW.out ⟨h1, h2⟩)
          clear HNX HW
          go_wp2_with fail
          go_ret
          exact ⟨ret_str HZ.out.symm, HB.out⟩
        · have HN := Lib.hid (HNX.out (fun e => h2 e.2))
          clear HNX
          go_wp2_with fail
          go_roundw
          case rel => exact ⟨k + 1, hlt, by go_num, HN.out, HB.out⟩
          case measure => simp [intOf]; omega
      · have HN := Lib.hid (HNX.out (fun e => h1 e.1))
        clear HNX
        go_wp2_with fail
        go_roundw
        case rel => exact ⟨k + 1, hlt, by go_num, HN.out, HB.out⟩
        case measure => simp [intOf]; omega
    · have hkk : k = l.length := by omega
      have hz := who_off (l := l) (t := t) (fun i hi => hn i (by omega))
      have HZ := Lib.hid hz
      clear hn hz
      go_wp2_with fail
      go_ret
      exact ⟨ret_str HZ.out.symm, hb⟩

def IuI (w : World) (l : List Hl) (n : ByteArray) (t : Int) (v7 v12 : Value) (wr : World) : Prop :=
  ∃ k : Nat, k ≤ l.length ∧ v12 = .int .i64 k ∧ v7 = .bool (upLast (l.take k) n) ∧ (∀ j, j < k → (l.getD j noHl).at_ ≤ t) ∧ Below w.heap.size w wr
set_option maxRecDepth 100000 in
set_option maxHeartbeats 1000000 in
theorem isUp_any (A : Option Addr) (cap : Nat) (l : List Hl) (n : ByteArray) (t : Int) (w : World) (h : HlsAt w w.heap.size A l) (hl : l.length ≤ 2000) (hr : Rises l) :
    Calls Tryz.prog 57 #[.slice A l.length cap, .string n, .int .i64 t] w fun e w' => e = .returned (.bool (upAt l n t)) ∧ Below w.heap.size w w' := by
  have H := Lib.hid h
  have HR := Lib.hid hr
  clear h hr
  go_enter Tryz.func57, Tryz.ntmps57
  go_wp2_with fail
  go_loopw [7, 12] (fun v7 v12 wr => IuI w l n t v7 v12 wr) (fun _ v12 _ => l.length - (intOf v12).toNat)
  case atStart => exact ⟨0, by omega, rfl, rfl, fun i hi => by omega, Below.refl _ _⟩
  case round =>
    obtain ⟨k, hk, rfl, rfl, hn, hb⟩ := hrel
    by_cases hlt : k < l.length
    · obtain ⟨g, off, rfl, hg, c0, c1, c2⟩ := (H.out.below hb) k hlt
      have hend := fun (h1 : t < (l.getD k noHl).at_) => up_eq HR.out (by omega) hn (fun _ => h1) n
      have hnx : (l.getD k noHl).at_ ≤ t → ∀ i, i < k + 1 → (l.getD i noHl).at_ ≤ t := fun h i hi => by
        by_cases e : i = k
        · rw [e]; exact h
        · exact hn i (by omega)
      have hsn := upLast_snoc (l.take k) (l.getD k noHl) n
      rw [← take_getH hlt] at hsn
      have HE := Lib.hid hend
      have HNX := Lib.hid hnx
      have HSN := Lib.hid hsn
      clear hend hnx hsn hn
      generalize l.getD k noHl = x at *
      obtain ⟨xa, xn, xu⟩ := x
      simp only at c0 c1 c2 HE HNX HSN
      have HB := Lib.hid (hb.alloc hb.size (.cells #[.int .i64 xa, .string xn, .bool xu] 80))
      clear hb
      by_cases h1 : t < xa
      · have HZ := Lib.hid (HE.out h1)
        clear HNX HSN HE
        go_wp2_with fail
        go_ret
        exact ⟨ret_bool HZ.out.symm, HB.out⟩
      · have HN := Lib.hid (HNX.out (by omega))
        clear HNX HE
        cases he : (xn.toList == n.toList)
        · have hne : ¬ xn = n := fun e => by rw [e] at he; simp at he
          have HS := Lib.hid (HSN.out.trans (if_neg hne))
          clear HSN hne
          go_wp2_with fail
          go_roundw
          case rel => exact ⟨k + 1, hlt, by go_num, by rw [HS.out], HN.out, HB.out⟩
          case measure => simp [intOf]; omega
        · have hxe : xn = n := bytes_ext (by simpa using he)
          have HS := Lib.hid (HSN.out.trans (if_pos hxe))
          clear HSN hxe
          go_wp2_with fail
          go_roundw
          case rel => exact ⟨k + 1, hlt, by go_num, by rw [HS.out], HN.out, HB.out⟩
          case measure => simp [intOf]; omega
    · have hkk : k = l.length := by omega
      have hz := up_eq HR.out (i := k) hk (t := t) hn (fun h => absurd h hlt) n
      have HZ := Lib.hid hz
      clear hn hkk hz
      go_wp2_with fail
      go_ret
      exact ⟨ret_bool HZ.out.symm, hb⟩
end Go.Proofs.YtollmagiifkicaaGreatDoor

namespace Go.Proofs.YtollmagiifkicaaGreatDoor
open Go.RowKit Go.Hw Go.Shelf

theorem momentFault_any (t : Int) (w : World) (h : 0 ≤ t ∧ t < 345686400) : Calls Tryz.prog 54 #[.int .i64 t] w fun e w' => e = .returned (.int .i64 0) ∧ w = w' := by
  have hm : isMom t = true := by unfold isMom; simp; omega
  go_enter Tryz.func54, Tryz.ntmps54
  go_wp2_with fail
  refine (isMom_any t w).mono ?_
  rintro e w3 ⟨rfl, rfl⟩
  rw [hm]
  go_wp2_with fail
  go_ret
  exact ⟨rfl, rfl⟩

set_option maxRecDepth 100000 in
theorem nodeFault_any (A : Option Addr) (cap : Nat) (l : List Hl) (n : ByteArray) (w : World) (h : HlsAt w w.heap.size A l) (hl : l.length ≤ 2000) (hss : ∀ i, (l.getD i noHl).node.size ≤ maxLen) (hf : hlFault l = 0) (hk : isKey n = true) (hn : n.size ≤ maxLen) :
    Calls Tryz.prog 56 #[.slice A l.length cap, .string n] w fun e w' => e = .returned (.int .i64 0) ∧ Below w.heap.size w w' := by
  have h1 := checkHealth_any A cap l w h hl hss hf
  have HK := Lib.hid hk
  clear h hss hf hk
  go_enter Tryz.func56, Tryz.ntmps56
  go_wp2_with fail
  refine h1.mono ?_
  rintro e w1 ⟨rfl, hb1⟩
  have HB := Lib.hid hb1
  clear h1 hb1
  go_wp2_with fail
  refine (isKey_any n w1 hn).mono ?_
  rintro e w2 ⟨rfl, rfl⟩
  rw [HK.out]
  go_wp2_with fail
  go_ret
  exact ⟨rfl, HB.out⟩

set_option maxRecDepth 100000 in
set_option maxHeartbeats 1000000 in
theorem IsUp_any (A : Option Addr) (cap : Nat) (l : List Hl) (n : ByteArray) (t : Int) (w : World) (h : HlsAt w w.heap.size A l) (hl : l.length ≤ 2000) (hss : ∀ i, (l.getD i noHl).node.size ≤ maxLen) (hf : hlFault l = 0) (hk : isKey n = true) (hn : n.size ≤ maxLen) (ht : 0 ≤ t ∧ t < 345686400) :
    Calls Tryz.prog 17 #[.slice A l.length cap, .string n, .int .i64 t] w fun e w' => e = .returned (.tuple #[.bool (upAt l n t), .int .i64 0]) ∧ Below w.heap.size w w' := by
  have h1 := nodeFault_any A cap l n w h hl hss hf hk hn
  have H := Lib.hid h
  have HR := Lib.hid (hl_fine hf hl).rises
  clear h hss hf hk
  go_enter Tryz.func17, Tryz.ntmps17
  go_wp2_with fail
  refine h1.mono ?_
  rintro e w1 ⟨rfl, hb1⟩
  have HB := Lib.hid hb1
  clear h1 hb1
  go_wp2_with fail
  refine (momentFault_any t w1 ht).mono ?_
  rintro e w2 ⟨rfl, rfl⟩
  have h2 := isUp_any A cap l n t w1 ((H.out.below HB.out).wide HB.out.size) hl HR.out
  go_wp2_with fail
  refine h2.mono ?_
  rintro e w3 ⟨rfl, hb3⟩
  have HB3 := Lib.hid (HB.out.trans (hb3.mono HB.out.size))
  clear h2 hb3
  go_wp2_with fail
  go_ret2
  exact ⟨rfl, HB3.out⟩

/-! ### leads in memory -/
def ldCells (x : Ld) : List Value := [.bool x.pf.six, .int .u64 x.pf.hi, .int .u64 x.pf.lo, .int .i64 x.pf.bits, .string x.node]
def ldsCells (xs : List Ld) : List Value := xs.flatMap ldCells
theorem lds_snoc (xs : List Ld) (x : Ld) : ldsCells (xs ++ [x]) = ldsCells xs ++ ldCells x := by simp [ldsCells]
theorem Tryz.infoLead : (Tryz.prog.info? 61).map (fun i => (i.zero, i.size, i.bytes)) = some (some (.agg #[.bool false, .int .u64 0, .int .u64 0, .int .i64 0, .string ⟨#[]⟩]), 5, 48) := by kernel_rfl
/-- Leads that the call owns. -/
def LdsOwn (w : World) (base : Nat) (v : Value) (l : List Ld) : Prop := w.ownsRow base 61 5 v l.length (ldsCells l)
/-- Leads in memory, below block B. -/
def LdsAt (w : World) (B : Nat) (A : Option Addr) (l : List Ld) : Prop :=
  ∀ i, i < l.length → ∃ g, A = some ⟨g, 0, none⟩ ∧ g < B ∧ w.cell? ⟨g, i * 5, none⟩ = some (.bool (l.getD i noLd).pf.six) ∧ w.cell? ⟨g, i * 5 + 1, none⟩ = some (.int .u64 (l.getD i noLd).pf.hi) ∧ w.cell? ⟨g, i * 5 + 2, none⟩ = some (.int .u64 (l.getD i noLd).pf.lo) ∧
    w.cell? ⟨g, i * 5 + 3, none⟩ = some (.int .i64 (l.getD i noLd).pf.bits) ∧ w.cell? ⟨g, i * 5 + 4, none⟩ = some (.string (l.getD i noLd).node)
theorem LdsAt.below {w w' : World} {B : Nat} {A : Option Addr} {l : List Ld} (h : LdsAt w B A l) (hb : Below B w w') : LdsAt w' B A l := fun i hi =>
  let ⟨g, h1, h2, h3, h4, h5, h6, h7⟩ := h i hi
  ⟨g, h1, h2, (hb.cell (p := ⟨g, _, none⟩) h2).trans h3, (hb.cell (p := ⟨g, _, none⟩) h2).trans h4, (hb.cell (p := ⟨g, _, none⟩) h2).trans h5, (hb.cell (p := ⟨g, _, none⟩) h2).trans h6, (hb.cell (p := ⟨g, _, none⟩) h2).trans h7⟩
theorem LdsAt.wide {w : World} {B B' : Nat} {A : Option Addr} {xs : List Ld} (h : LdsAt w B A xs) (hB : B ≤ B') : LdsAt w B' A xs := fun i hi => by
  obtain ⟨g, h1, h2, h3⟩ := h i hi
  exact ⟨g, h1, by omega, h3⟩
theorem flat5 {α : Type} (f : α → List Value) (hf : ∀ x, (f x).length = 5) (l : List α) : ∀ i (h : i < l.length) j u, (f l[i])[j]? = some u → (l.flatMap f)[i * 5 + j]? = some u := by
  induction l with
  | nil => intro i h; simp at h
  | cons a l ih =>
    intro i h j u hu
    rw [List.flatMap_cons]
    have hj : j < 5 := by
      have := (List.getElem?_eq_some_iff.1 hu).1
      rw [hf] at this
      exact this
    rcases i with _ | i
    · rw [List.getElem?_append_left (by rw [hf]; omega), show 0 * 5 + j = j from by omega]
      exact hu
    · rw [List.getElem?_append_right (by rw [hf]; omega), hf, show (i + 1) * 5 + j - 5 = i * 5 + j from by omega]
      exact ih i (by simp at h; omega) j u hu
theorem lds_at {w : World} {base : Nat} {v : Value} {l : List Ld} (h : LdsOwn w base v l) : ∃ A cap, v = .slice A l.length cap ∧ LdsAt w w.heap.size A l := by
  obtain ⟨A, cap, rfl, hc⟩ := own_reads h
  refine ⟨A, cap, rfl, fun i hi => ?_⟩
  have he : l.getD i noLd = l[i] := by rw [List.getD_eq_getElem?_getD, List.getElem?_eq_getElem hi]; rfl
  have hcell := fun j u hu => hc _ _ (flat5 ldCells (fun _ => rfl) l i hi j u hu)
  obtain ⟨g, h1, h2, h3⟩ := hcell 0 _ rfl
  have hg : ∀ j u, (ldCells l[i])[j]? = some u → w.cell? ⟨g, i * 5 + j, none⟩ = some u := fun j u hu => by
    obtain ⟨g', h1', _, h4⟩ := hcell j u hu
    rw [h1] at h1'
    injection h1' with h1'
    injection h1' with h1'
    subst h1'
    exact h4
  rw [he]
  exact ⟨g, h1, h2, hg 0 _ rfl, hg 1 _ rfl, hg 2 _ rfl, hg 3 _ rfl, hg 4 _ rfl⟩

def FsI (w : World) (gs : List Gp) (l : List Hl) (t : Int) (c : Nat) (v7 v14 : Value) (wr : World) : Prop :=
  ∃ (k : Nat) (sv : Value), c = gs.length - k ∧ k ≤ gs.length ∧ sv = v7 ∧ v14 = .int .i64 k ∧ LdsOwn wr w.heap.size sv (leadsG l t (gs.take k)) ∧ Below w.heap.size w wr

theorem take_getG {l : List Gp} {i : Nat} (h : i < l.length) : l.take (i + 1) = l.take i ++ [l.getD i noGp] := by
  rw [List.take_succ_eq_append_getElem h, List.getD_eq_getElem?_getD, List.getElem?_eq_getElem h]
  rfl
theorem own_grownB {w w' : World} {base : Nat} {v : Value} {l : List Ld} (h : LdsOwn w base v l) (hb : Below w.heap.size w w') : LdsOwn w' base v l := own_below h hb (Nat.le_refl _)

set_option maxRecDepth 100000 in
set_option maxHeartbeats 4000000 in
theorem firsts_any (A : Option Addr) (cap : Nat) (r : List Rt) (AH : Option Addr) (capH : Nat) (l : List Hl) (t : Int) (w : World) (h : RtsAt w w.heap.size A r) (hH : HlsAt w w.heap.size AH l) (hr : RtFine r) (hl : HlFine l) (hrl : r.length ≤ 500) (hll : l.length ≤ 2000) :
    Calls Tryz.prog 55 #[.slice A r.length cap, .slice AH l.length capH, .int .i64 t] w fun e w' => ∃ v, e = .returned v ∧ LdsOwn w' w.heap.size v (leadsP r l t) ∧ Below w.heap.size w w' := by
  obtain ⟨i0, hi, hz0, hz1, hz2⟩ := info_parts Tryz.infoLead
  have h1 := groupsOf_any A cap r w h hrl
  have HH := Lib.hid hH
  have HR := Lib.hid (fun g (hg : g ∈ groupsP r) => hr.group hg)
  have HL := Lib.hid hl
  have HLG := Lib.hid (fun g (hg : g ∈ groupsP r) => Nat.le_trans ((grouped r).long g hg) hrl)
  have hgm : (groupsP r).length ≤ 500 := Nat.le_trans (grouped r).many hrl
  clear h hH hr hl
  go_enter Tryz.func55, Tryz.ntmps55
  go_wp2_with fail
  refine h1.mono ?_
  rintro e w1 ⟨v, ss, rfl, hG, hb1⟩
  have HB1 := Lib.hid hb1
  have hww := hb1.size
  have HG := Lib.hid hG
  obtain ⟨AG, capG, rfl, -⟩ := own_reads hG.row
  have hP : leadsP r l t = leadsG l t (groupsP r) := rfl
  have HP := Lib.hid hP
  clear h1 hb1 hG hP
  generalize groupsP r = gs at *
  go_wp2_with fail
  go_loopg [7, 14] (gs.length) (fun c v7 v14 wr => FsI w1 gs l t c v7 v14 wr)
  case atStart => exact ⟨0, _, by omega, by omega, rfl, rfl, World.ownsRow_nil _ _ _ _, Below.refl _ _⟩
  case round =>
    obtain ⟨k, sv, hck, hk, rfl, rfl, hO, hb⟩ := hrel
    by_cases hkt : k < gs.length
    · have hrow := HG.out.row
      obtain ⟨gv, rfl⟩ : ∃ gv, AG = some ⟨gv, 0, none⟩ := by
        rcases hrow.2 with ⟨_, h0⟩ | ⟨gv, _, _, e, _⟩
        · omega
        · injection e with e; exact ⟨gv, e⟩
      have hgv := (World.ownsRow.lt hrow gv rfl).2
      have hcell := fun j (hj : j < 5) => (hb.cell (p := ⟨gv, k * 5 + j, none⟩) hgv).trans ((hrow.cellAt (k * 5 + j) (by omega)).trans (gps_get gs ss HG.out.len k j hkt hj))
      have c0 := hcell 0 (by omega)
      have c1 := hcell 1 (by omega)
      have c2 := hcell 2 (by omega)
      have c3 := hcell 3 (by omega)
      have c4 := hcell 4 (by omega)
      simp only [gpCells, List.getElem?_cons_zero, List.getElem?_cons_succ, Nat.add_zero] at c0 c1 c2 c3 c4
      have hmem : gs.getD k noGp ∈ gs := by rw [List.getD_eq_getElem?_getD, List.getElem?_eq_getElem hkt]; exact List.getElem_mem hkt
      have hrg := HR.out _ hmem
      have hlg := HLG.out _ hmem
      have hsn := leads_snoc l t (gs.take k) (gs.getD k noGp)
      rw [← take_getG hkt] at hsn
      obtain ⟨A', cap', hs, hat⟩ := rts_own_at (HG.out.own k hkt).1
      rw [hs] at c4
      have HAT := Lib.hid (hat.below hb)
      have HSN := Lib.hid hsn
      have HO := Lib.hid hO
      have HBR := Lib.hid hb
      have hlw := Nat.le_trans (leads_len l t (gs.take k)) (show (gs.take k).length ≤ 500 by simp; omega)
      clear hs hat hb hrow hcell hsn hmem hO
      generalize gs.getD k noGp = q at *
      obtain ⟨⟨q6, qh, ql, qb⟩, lst⟩ := q
      dsimp only at c0 c1 c2 c3 c4 hrg hlg HAT
      have hbA := (Below.refl w1.heap.size wr).alloc HBR.out.size (.cells #[.bool q6, .int .u64 qh, .int .u64 ql, .int .i64 qb, .slice A' lst.length cap'] 155)
      have hbB := HBR.out.alloc HBR.out.size (.cells #[.bool q6, .int .u64 qh, .int .u64 ql, .int .i64 qb, .slice A' lst.length cap'] 155)
      have hbx : (wr.alloc (.cells #[.bool q6, .int .u64 qh, .int .u64 ql, .int .i64 qb, .slice A' lst.length cap'] 155)).heap[wr.heap.size]? = some (.cells #[.bool q6, .int .u64 qh, .int .u64 ql, .int .i64 qb, .slice A' lst.length cap'] 155 (0, 0)) := heap_alloc_new _ _
      have ht := turns_any A' cap' lst AH capH l (wr.alloc (.cells #[.bool q6, .int .u64 qh, .int .u64 ql, .int .i64 qb, .slice A' lst.length cap'] 155)) ((HAT.out.below hbA).wide (Nat.le_trans HBR.out.size hbA.size)) ((HH.out.below (HB1.out.trans (hbB.mono hww))).wide (Nat.le_trans hww (Nat.le_trans HBR.out.size hbA.size))) hrg HL.out hlg hll
      have hoA : LdsOwn (wr.alloc (.cells #[.bool q6, .int .u64 qh, .int .u64 ql, .int .i64 qb, .slice A' lst.length cap'] 155)) w1.heap.size sv (leadsG l t (gs.take k)) := World.ownsRow.alloc HO.out _
      have HOA := Lib.hid hoA
      have HBB := Lib.hid hbB
      have HBX := Lib.hid hbx
      have hszA : wr.heap.size < (wr.alloc (.cells #[.bool q6, .int .u64 qh, .int .u64 ql, .int .i64 qb, .slice A' lst.length cap'] 155)).heap.size := by simp
      have hll2 := turns_len hrg HL.out
      clear hbA hbB hoA hrg HAT HO HBR hbx
      go_wp2_with fail
      generalize World.alloc wr _ = W at *
      refine ht.mono ?_
      rintro e w2 ⟨v2, rfl, hT, hb2⟩
      obtain ⟨A2, cp2, rfl, ha2⟩ := tns_at hT
      have HO2 := Lib.hid (own_grownB HOA.out hb2)
      have HB2 := Lib.hid (HBB.out.trans (hb2.mono HBB.out.size))
      have HX2 := Lib.hid ((hb2.block _ hszA).trans HBX.out)
      have hsz2 := hb2.size
      have hw := whoAt_any A2 cp2 (turnsP lst l) t w2 ha2 (by omega)
      clear ht hT hb2 HOA HBB HBX ha2 c0 c1 c2 c3 c4
      unfold leadStep at HSN
      dsimp only at HSN
      go_wp2_with fail
      refine hw.mono ?_
      rintro e w3 ⟨rfl, hb3⟩
      have HO3 := Lib.hid (own_grownB HO2.out hb3)
      have HB3 := Lib.hid (HB2.out.trans (hb3.mono HB2.out.size))
      have hx3 := (hb3.block wr.heap.size (by omega)).trans HX2.out
      have HX3 := Lib.hid hx3
      have hsz3 : wr.heap.size < w3.heap.size := by have := hb3.size; omega
      clear hw hb3 HO2 HB2 HX2 hx3
      generalize whoP (turnsP lst l) t = who at *
      by_cases hz : who.size = 0
      · obtain rfl : who = ⟨#[]⟩ := size0 hz rfl
        have HREL : Hid (FsI w1 gs l t (gs.length - (k + 1)) sv (.int .i64 ((k + 1 : Nat) : Int)) w3) := Lib.hid ⟨k + 1, sv, rfl, by omega, rfl, rfl, by rw [HSN.out, if_neg (by simp [hz])]; exact HO3.out, HB3.out⟩
        clear hz HSN HO3
        go_wp2_with fail
        go_roundg (gs.length - (k + 1))
        case measure => omega
        case rel => exact HREL.out
      · obtain ⟨r1, r2⟩ := str_ne hz
        have HST := Lib.hid (HSN.out.trans (if_pos hz))
        obtain ⟨⟨x0, x1, x2, x3, x4⟩, -⟩ := res5 HX3.out
        clear hz HSN
        go_wp2_with (at_builtin; refine wpList_append_own _ rfl (.tmp 26) (.tmp 31) 54 rfl (w1.heap.size) 61 i0 (.agg #[.bool false, .int .u64 0, .int .u64 0, .int .i64 0, .string ⟨#[]⟩]) 5 48 Tryz.underlying54 hi hz0 hz1 hz2 rfl (by decide) _ _ _ rfl (World.ownsRow.alloc HO3.out _) ⟨w3.heap.size, 0, none⟩ 1 1 [.bool q6, .int .u64 qh, .int .u64 ql, .int .i64 qb, .string who] rfl rfl (cells_new w3 [.bool q6, .int .u64 qh, .int .u64 ql, .int .i64 qb, .string who] _) (by simp [Value.oneCell']) (by unfold maxLen; first | omega | (simp; omega)) (by first | omega | (simp; omega)) (by have := HB3.out.size; first | omega | (simp; omega) | simp) ?_)
        intro v' w4 ho4 hg4 _
        have hlt' := World.ownsRow.lt HO3.out
        have hown : LdsOwn w4 w1.heap.size v' (leadsG l t (gs.take (k + 1))) := by
          rw [HST.out]
          unfold LdsOwn
          rw [lds_snoc]
          exact own_cast ho4 (by simp) rfl
        have hbn := (HB3.out.alloc HB3.out.size _).grown hg4 (HB3.out.alloc HB3.out.size _).size (fun j hj => by have := (hlt' j hj).1; omega)
        have HREL : Hid (FsI w1 gs l t (gs.length - (k + 1)) v' (.int .i64 ((k + 1 : Nat) : Int)) w4) := Lib.hid ⟨k + 1, v', rfl, by omega, rfl, rfl, hown, hbn⟩
        clear ho4 hg4 hlt' hown hbn x0 x1 x2 x3 x4
        go_wp2_with fail
        go_roundg (gs.length - (k + 1))
        case measure => omega
        case rel => exact HREL.out
    · have hkk : k = gs.length := by omega
      have HFIN : Hid (LdsOwn wr w.heap.size sv (leadsP r l t)) := Lib.hid (by
        rw [HP.out]
        rw [hkk, List.take_length] at hO
        exact own_base hO hww)
      clear hO hkk
      go_wp2_with fail
      go_ret
      exact ⟨_, rfl, HFIN.out, HB1.out.trans (hb.mono hww)⟩
end Go.Proofs.YtollmagiifkicaaGreatDoor
