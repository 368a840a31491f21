/- Translators: New, Entries; the plain law: ports of entries stay apart, and there is a free one where there is room; Out and In, as the law wants them. -/
import Derived.Test.YtphjgjcbolmdiaaGreatDoorNtP
import Derived.Test.YtphjgjcbolmdiaaGreatDoorMapI
import Derived.Test.YtphjgjcbolmdiaaGreatDoorNtN
import Derived.Test.YtphjgjcbolmdiaaGreatDoorNtO
namespace Go.Proofs.YtphjgjcbolmdiaaGreatDoor
open Go.RowKit Go.Hw

theorem entries_any (T : Nat) (n : NatC) (now next : Int) (F : Nat → Prop) (A : Option Addr) (cap : Nat) (L : List Ent) (at_ : Int) (w : World) (h : TrAt w F T n now next A cap L) (ok : Ok n now at_ L) :
    Calls Tryz.prog 15 #[.pointer (some ⟨T, 0, none⟩), .int .i64 at_] w
      fun e w' => e = .returned (.tuple #[.int .i64 (L.length : Nat), .int .i64 0]) ∧ w.grownBy w' (some T) := by
  have HH := Lib.hid h
  have OK := Lib.hid ok
  clear h ok
  go_enter Tryz.func15, Tryz.ntmps15
  go_wp2_with fail
  refine (timeFault_ok T n now next _ at_ w HH.out.blk OK.out.t2 OK.out.t0 OK.out.t1).mono ?_
  rintro e w2 ⟨rfl, rfl⟩
  go_wp2_with fail
  refine (pass_none T n now next A cap L at_ w HH.out.blk HH.out.ents (fun a e c => HH.out.hA (by rw [e]; exact c)) (Nat.le_trans OK.out.len (by omega)) OK.out.t0 OK.out.t1 OK.out.le OK.out.all).mono ?_
  rintro e w6 ⟨rfl, hblk, hg⟩
  have t10 := tr_cell hblk 10
  have lT := tr_lt hblk
  simp only [List.getElem?_toArray, List.getElem?_cons_zero, List.getElem?_cons_succ] at t10
  have HG := Lib.hid hg
  clear hg hblk
  go_wp2_with fail
  go_ret2
  exact ⟨rfl, HG.out⟩

def NewOut (w : World) (n : NatC) (e : Ending) (w' : World) : Prop :=
  ∃ T, e = .returned (.tuple #[.pointer (some ⟨T, 0, none⟩), .int .i64 0]) ∧ TrAt w' (fun k => k = T) T n 0 n.first none 0 [] ∧ Below w.heap.size w w' ∧ w.heap.size ≤ T ∧ T < w'.heap.size
theorem tr_fresh (W : World) (n : NatC) (now next : Int) : TrAt (W.alloc (trObj n now next (.slice none 0 0))) (fun k => k = W.heap.size) W.heap.size n now next none 0 [] := {
  blk := heap_alloc_new W _
  own := World.ownsRow_nil _ _ _ _
  sent := fun e he => by cases he
  hA := by simp [Value.ownBlock]
  hS := fun e he => by cases he
  sep := List.Pairwise.nil
  fT := rfl
  fA := fun k h => by simp [Value.ownBlock] at h
  fS := fun e he => by cases he }

set_option maxRecDepth 100000 in
set_option maxHeartbeats 1000000 in
theorem new_any (n : NatC) (w : World) (h0 : 0 ≤ n.hi) (hc : natCode n = 0) :
    Calls Tryz.prog 8 #[.agg #[.int .i64 n.maps, .int .i64 n.lets, .int .i64 n.timeout, .int .i64 n.first, .int .i64 n.ports, .bool n.six, .int .u64 n.hi, .int .u64 n.lo]] w (NewOut w n) := by
  have HC := Lib.hid hc
  clear hc
  go_enter Tryz.func8, Tryz.ntmps8
  go_wp2_with fail
  refine (natFault_any n _ h0).mono ?_
  rintro e w1 ⟨rfl, hb⟩
  rw [HC.out]
  have hbx := (hb.block w.heap.size (by simp)).trans (heap_alloc_new w _)
  have v0 := cell_of hbx 0
  have v1 := cell_of hbx 1
  have v2 := cell_of hbx 2
  have v3 := cell_of hbx 3
  have v4 := cell_of hbx 4
  have v5 := cell_of hbx 5
  have v6 := cell_of hbx 6
  have v7 := cell_of hbx 7
  simp only [List.getElem?_toArray, List.getElem?_cons_zero, List.getElem?_cons_succ] at v0 v1 v2 v3 v4 v5 v6 v7
  have HB := Lib.hid (below_box (Below.refl _ w) (Nat.le_refl _) hb)
  clear hb hbx
  go_wp2_with fail
  generalize hW : World.alloc _ _ = W
  have hfin : NewOut w n (.returned (.tuple #[.pointer (some ⟨w1.heap.size, 0, none⟩), .int .i64 0])) W := by
    refine ⟨w1.heap.size, rfl, ?_, ?_, HB.out.size, ?_⟩
    · rw [← hW]; exact tr_fresh w1 n 0 n.first
    · rw [← hW]; exact HB.out.alloc HB.out.size _
    · rw [← hW]; simp
  clear hW v0 v1 v2 v3 v4 v5 v6 v7
  have HF := Lib.hid hfin
  clear hfin
  go_ret2
  exact HF.out

theorem nodup_le {xs ys : List Int} (hn : xs.Nodup) (hs : ∀ x ∈ xs, x ∈ ys) : xs.length ≤ ys.length := by
  induction xs generalizing ys with
  | nil => simp
  | cons x xs ih =>
    rw [List.nodup_cons] at hn
    have hx := hs x (by simp)
    have h1 := ih (ys := ys.erase x) hn.2 (fun y hy => (List.mem_erase_of_ne (by rintro rfl; exact hn.1 hy)).2 (hs y (by simp [hy])))
    rw [List.length_erase_of_mem hx] at h1
    have := List.length_pos_of_mem hx
    simp only [List.length_cons]
    omega
theorem iter_at {n : NatC} {p : Int} (hn : Fine n) (h : InRange n p) : ∀ k : Nat, (k : Int) ≤ n.ports → iterP n k p = if p + k < n.first + n.ports then p + k else p + k - n.ports
  | 0, _ => by
    unfold InRange at h
    unfold iterP
    rw [if_pos (by simp; omega)]
    simp
  | k + 1, hk => by
    have ih := iter_at hn h k (by omega)
    unfold Fine at hn
    unfold InRange at h
    show afterP n (iterP n k p) = _
    rw [ih]
    unfold afterP
    by_cases h1 : p + (k : Int) < n.first + n.ports
    · rw [if_pos h1]
      by_cases h2 : p + (k : Int) = n.first + n.ports - 1
      · rw [if_pos h2, if_neg (by omega)]; omega
      · rw [if_neg h2, if_pos (by omega)]; omega
    · rw [if_neg h1, if_neg (by omega), if_neg (by omega)]; omega
/-- Where there is room, a port is free. -/
theorem free_there {n : NatC} {p : Int} {L : List Ent} (hn : Fine n) (h : InRange n p) (hl : (L.length : Int) < n.ports) : ∃ K, L.any (fun e => e.port == iterP n K p) = false := by
  refine Classical.byContradiction fun hno => ?_
  have hall : ∀ K, L.any (fun e => e.port == iterP n K p) = true := fun K => by
    cases hc : L.any (fun e => e.port == iterP n K p) with
    | true => rfl
    | false => exact absurd ⟨K, hc⟩ hno
  have h1 := nodup_le (xs := (List.range (L.length + 1)).map fun k => iterP n k p) (ys := L.map (·.port)) (by
    unfold List.Nodup
    rw [List.pairwise_map]
    refine List.Pairwise.imp_of_mem ?_ (List.pairwise_lt_range (n := L.length + 1))
    intro a b ha hb hab
    rw [List.mem_range] at ha hb
    rw [iter_at hn h a (by omega), iter_at hn h b (by omega)]
    split <;> split <;> omega) (by
    intro x hx
    obtain ⟨k, _, rfl⟩ := List.mem_map.1 hx
    obtain ⟨e, he, hp⟩ := List.any_eq_true.1 (hall k)
    exact List.mem_map.2 ⟨e, he, by simpa using hp⟩)
  simp at h1
  omega

def pairsOf (L : List Ent) : List (Int × Spot) := L.map fun e => (e.port, e.inner)
/-- What holds between two rounds. -/
structure Apt (n : NatC) (next : Int) (L : List Ent) (k : Nat) : Prop where
  fine : Fine n
  nxt : InRange n next
  rng : ∀ e ∈ L, InRange n e.port
  last : ∀ e ∈ L, e.last = 5
  sep : (L.map (·.port)).Nodup
  len : L.length ≤ k
  sent : ∀ e ∈ L, e.sent.length ≤ k
theorem Apt.nil {n : NatC} (hn : Fine n) : Apt n n.first [] 0 :=
  { fine := hn, nxt := by unfold Fine at hn; unfold InRange; omega, rng := by simp, last := by simp, sep := List.Pairwise.nil, len := Nat.le_refl _, sent := by simp }
theorem Apt.more {n : NatC} {next : Int} {L : List Ent} {k : Nat} (h : Apt n next L k) : Apt n next L (k + 1) :=
  { h with len := by have := h.len; omega, sent := fun e he => by have := h.sent e he; omega }
theorem Apt.ok {n : NatC} {next now : Int} {L : List Ent} {k : Nat} (h : Apt n next L k) (hn : now ≤ 5) (hk : k ≤ 1000) : Ok n now 5 L :=
  { fine := h.fine, t0 := by omega, t1 := by omega, t2 := hn, le := fun e he => by rw [h.last e he]; omega,
    all := fun e he => by have := h.fine; unfold Fine at this; unfold lasts; rw [h.last e he]; simp; omega
    len := by have := h.len; omega }
theorem Apt.apart {n : NatC} {next : Int} {L : List Ent} {k : Nat} (h : Apt n next L k) : HwI.Apart (pairsOf L) := by
  unfold HwI.Apart pairsOf
  have := h.sep
  rw [List.map_map]
  exact this
theorem Apt.get {n : NatC} {next : Int} {L : List Ent} {k : Nat} (h : Apt n next L k) {e : Ent} (he : e ∈ L) : HwI.get (pairsOf L) e.port = some e.inner :=
  HwI.get_of_mem h.apart (List.mem_map.2 ⟨e, he, rfl⟩)
theorem get_free {L : List Ent} {p : Int} (h : L.any (fun e => e.port == p) = false) : HwI.get (pairsOf L) p = none := by
  rw [HwI.get_none]
  intro q hq
  obtain ⟨e, he, rfl⟩ := List.mem_map.1 hq
  intro hp
  have : L.any (fun e => e.port == p) = true := List.any_eq_true.2 ⟨e, he, by simpa using hp⟩
  rw [h] at this
  cases this
theorem put_same {m : List (Int × Spot)} (ha : HwI.Apart m) {p : Int} {s : Spot} (h : HwI.get m p = some s) : HwI.put m p s = m := by
  unfold HwI.put
  rw [if_pos (by simp [h])]
  conv => rhs; rw [← List.map_id m]
  refine List.map_congr_left fun q hq => ?_
  split
  · rename_i hp
    have := HwI.get_of_mem ha (k := q.1) (a := q.2) hq
    rw [hp, h] at this
    injection this with this
    rw [this, ← hp]; rfl
  · rfl
theorem put_free {L : List Ent} {p : Int} {s : Spot} (h : HwI.get (pairsOf L) p = none) : HwI.put (pairsOf L) p s = pairsOf L ++ [(p, s)] := by
  unfold HwI.put
  rw [if_neg (by simp [h])]
theorem getD_mem' {L : List Ent} {i : Nat} (hi : i < L.length) : L.getD i noEnt ∈ L := getD_mem hi
theorem map_set {β : Type} {f : Ent → β} {L : List Ent} {i : Nat} {e' : Ent} (h : f e' = f (L.getD i noEnt)) : (L.set i e').map f = L.map f := by
  apply List.ext_getElem?
  intro j
  simp only [List.getElem?_map, List.getElem?_set]
  split
  · rename_i hij
    subst hij
    split
    · rename_i hi
      rw [List.getD_eq_getElem?_getD, List.getElem?_eq_getElem hi] at h
      simp only [Option.getD_some] at h
      rw [List.getElem?_eq_getElem hi]
      simp [h]
    · rename_i hi
      rw [List.getElem?_eq_none (by omega)]
  · rfl
theorem sentOf_le (e : Ent) (d : Spot) : (sentOf e d).length ≤ e.sent.length + 1 := by
  unfold sentOf
  split <;> simp
/-- An old entry has sent once more. -/
theorem Apt.old {n : NatC} {next : Int} {L : List Ent} {k : Nat} (h : Apt n next L k) {i : Nat} (hi : i < L.length) (sA : Option Addr) (scap : Nat) (d : Spot) :
    Apt n next (L.set i { L.getD i noEnt with last := 5, sA := sA, scap := scap, sent := sentOf (L.getD i noEnt) d }) (k + 1) ∧
    pairsOf (L.set i { L.getD i noEnt with last := 5, sA := sA, scap := scap, sent := sentOf (L.getD i noEnt) d }) = pairsOf L := by
  have hm := getD_mem hi
  refine ⟨⟨h.fine, h.nxt, fun e he => ?_, fun e he => ?_, ?_, by rw [List.length_set]; have := h.len; omega, fun e he => ?_⟩, map_set (f := fun e => (e.port, e.inner)) (by rfl)⟩
  · rcases mem_set_or he with rfl | he
    · exact h.rng (L.getD i noEnt) hm
    · exact h.rng _ he
  · rcases mem_set_or he with rfl | he
    · rfl
    · exact h.last _ he
  · rw [map_set (f := fun e => e.port) (by rfl)]; exact h.sep
  · rcases mem_set_or he with rfl | he
    · have := sentOf_le (L.getD i noEnt) d
      have := h.sent _ hm
      show (sentOf (L.getD i noEnt) d).length ≤ k + 1
      omega
    · have := h.sent _ he; omega
/-- A new entry. -/
theorem Apt.new {n : NatC} {next port : Int} {L : List Ent} {k : Nat} (h : Apt n next L k) (hf : IsFree n L next port) (s dep d : Spot) (sA : Option Addr) (scap : Nat) :
    Apt n (afterP n port) (L ++ [⟨s, port, dep, 5, sA, scap, [d]⟩]) (k + 1) ∧ pairsOf (L ++ [⟨s, port, dep, 5, sA, scap, [d]⟩]) = pairsOf L ++ [(port, s)] ∧ InRange n port := by
  obtain ⟨j, rfl, _, hno⟩ := hf
  have hin : InRange n (iterP n j next) := iter_in h.fine h.nxt j
  refine ⟨⟨h.fine, after_in h.fine hin, fun e he => ?_, fun e he => ?_, ?_, by have := h.len; simp; omega, fun e he => ?_⟩, by simp [pairsOf], hin⟩
  · rcases List.mem_append.1 he with he | he
    · exact h.rng _ he
    · simp at he; subst he; exact hin
  · rcases List.mem_append.1 he with he | he
    · exact h.last _ he
    · simp at he; subst he; rfl
  · rw [List.map_append, List.nodup_append]
    refine ⟨h.sep, by simp, ?_⟩
    intro x hx y hy
    simp at hy
    subst hy
    obtain ⟨e, he, rfl⟩ := List.mem_map.1 hx
    intro c
    have : L.any (fun e => e.port == iterP n j next) = true := List.any_eq_true.2 ⟨e, he, by simpa using c⟩
    rw [hno] at this
    cases this
  · rcases List.mem_append.1 he with he | he
    · have := h.sent _ he; omega
    · simp at he; subst he; simp
theorem Spot.beq_refl (s : Spot) : s.beq s = true := Spot.beq_iff.2 rfl
theorem letsIn_self (n : NatC) (d : Spot) : letsIn n d d = true := Spot.beq_refl _
theorem sentOf_has (e : Ent) (d : Spot) : (sentOf e d).any (fun x => d.beq x) = true := by
  unfold sentOf
  split
  · assumption
  · simp [Spot.beq_refl]
theorem any_letsIn {n : NatC} {xs : List Spot} {d : Spot} (h : xs.any (fun x => d.beq x) = true) : xs.any (letsIn n d) = true := by
  obtain ⟨x, hx, hb⟩ := List.any_eq_true.1 h
  have := Spot.beq_iff.1 hb
  subst this
  exact List.any_eq_true.2 ⟨d, hx, letsIn_self n d⟩
/-- The entry of a port is the one that lets in. -/
theorem let_at {n : NatC} {next : Int} {L : List Ent} {k i : Nat} {d : Spot} (h : Apt n next L k) (hi : i < L.length) (hs : (L.getD i noEnt).sent.any (fun x => d.beq x) = true) :
    (∀ j, j < i → letEnt n d (L.getD i noEnt).port (L.getD j noEnt) = false) ∧ letEnt n d (L.getD i noEnt).port (L.getD i noEnt) = true := by
  refine ⟨fun j hj => ?_, ?_⟩
  · have hne : (L.getD j noEnt).port ≠ (L.getD i noEnt).port := by
      intro e
      have hnd := h.sep
      have l1 : (L.map (·.port))[j]? = some (L.getD j noEnt).port := by
        rw [List.getElem?_map, List.getD_eq_getElem?_getD, List.getElem?_eq_getElem (show j < L.length by omega)]; rfl
      have l2 : (L.map (·.port))[i]? = some (L.getD j noEnt).port := by
        rw [e, List.getElem?_map, List.getD_eq_getElem?_getD, List.getElem?_eq_getElem hi]; rfl
      obtain ⟨b1, l1⟩ := List.getElem?_eq_some_iff.1 l1
      obtain ⟨b2, l2⟩ := List.getElem?_eq_some_iff.1 l2
      have := (List.getElem_inj hnd).1 (l1.trans l2.symm)
      omega
    unfold letEnt
    rw [show ((L.getD j noEnt).port == (L.getD i noEnt).port) = false by simpa using hne]
    rfl
  · unfold letEnt
    rw [any_letsIn (n := n) hs, Bool.or_true, Bool.and_true]
    exact beq_self_eq_true _
theorem isEntry_inner {n : NatC} {at_ : Int} {s d : Spot} {e : Ent} (h : isEntry n at_ s d e = true) : e.inner = s := by
  unfold isEntry at h
  simp only [Bool.and_eq_true] at h
  exact Spot.beq_iff.1 h.1
theorem idxP_found {α : Type} {p : α → Bool} {xs : List α} (d : α) (h : 0 ≤ idxP p xs) : ∃ i : Nat, i < xs.length ∧ idxP p xs = i ∧ p (xs.getD i d) = true := by
  unfold idxP at h ⊢
  cases hf : xs.findIdx? p with
  | none => rw [hf] at h; simp at h
  | some i =>
    obtain ⟨h1, h2, _⟩ := List.findIdx?_eq_some_iff_getElem.1 hf
    exact ⟨i, h1, rfl, by rw [List.getD_eq_getElem?_getD, List.getElem?_eq_getElem h1]; exact h2⟩

theorem TrAt.lim {w : World} {F : Nat → Prop} {T : Nat} {n : NatC} {now next : Int} {A : Option Addr} {cap : Nat} {L : List Ent} (h : TrAt w F T n now next A cap L) : TrAt w (fun k => F k ∧ k < w.heap.size) T n now next A cap L :=
  { h with
    fT := ⟨h.fT, tr_lt h.blk⟩
    fA := fun k e => ⟨h.fA k e, (h.own.lt k e).2⟩
    fS := fun e he k hk => ⟨h.fS e he k hk, ((h.sent e he).lt k hk).2⟩ }
/-- What Out leaves behind. -/
def OutApt (F : Nat → Prop) (w : World) (T : Nat) (n : NatC) (s d : Spot) (L : List Ent) (k : Nat) (e : Ending) (w' : World) : Prop :=
  (e = .returned (.tuple #[.agg #[.bool false, .int .u64 0, .int .u64 0, .int .i64 0], .int .i64 12]) ∧ Below w.heap.size w w') ∨
  ∃ port next' A cap L', e = .returned (.tuple #[.agg #[.bool n.six, .int .u64 n.hi, .int .u64 n.lo, .int .i64 port], .int .i64 0]) ∧ Chg F w w' ∧
    TrAt w' (fun k => Plus F w k ∧ k < w'.heap.size) T n 5 next' A cap L' ∧ Apt n next' L' (k + 1) ∧ InRange n port ∧
    (∃ i, i < L'.length ∧ (L'.getD i noEnt).port = port ∧ (L'.getD i noEnt).inner = s ∧ (L'.getD i noEnt).sent.any (fun x => d.beq x) = true) ∧
    pairsOf L' = HwI.put (pairsOf L) port s ∧ (HwI.get (pairsOf L) port = none ∨ HwI.get (pairsOf L) port = some s)

theorem out_apt (T : Nat) (n : NatC) (now next : Int) (F : Nat → Prop) (A : Option Addr) (cap : Nat) (L : List Ent) (k : Nat) (s d : Spot) (w : World) (h : TrAt w F T n now next A cap L) (ap : Apt n next L k) (hn : now ≤ 5) (hk : k ≤ 100)
    (hF : ∀ k, F k → k < w.heap.size) (hs0 : 0 ≤ s.hi) (hd0 : 0 ≤ d.hi) (hs : spotCode s = 0) (hd : spotCode d = 0) :
    Calls Tryz.prog 13 #[.pointer (some ⟨T, 0, none⟩), .int .i64 5, .agg #[.bool s.six, .int .u64 s.hi, .int .u64 s.lo, .int .i64 s.port], .agg #[.bool d.six, .int .u64 d.hi, .int .u64 d.lo, .int .i64 d.port]] w
      (OutApt F w T n s d L k) := by
  have ok : Ok n now 5 L := ap.ok hn (by omega)
  rcases idxP_any (isEntry n 5 s (seenS d n.maps)) L with ⟨_, h0⟩ | ⟨_, h0⟩
  · obtain ⟨i, hi, hr, hp⟩ := idxP_found noEnt h0
    refine (out_old T n now next F A cap L 5 s d w h ok hF hs0 hd0 hs hd i hi hr (by have := ap.sent _ (getD_mem hi); omega)).mono ?_
    rintro e w' ⟨rfl, hc, sA, scap, ht⟩
    obtain ⟨h1, h2⟩ := ap.old hi sA scap d
    have hin := isEntry_inner hp
    have hget := ap.get (getD_mem hi)
    rw [hin] at hget
    refine .inr ⟨_, _, _, _, _, rfl, hc, ht.lim, h1, ap.rng _ (getD_mem hi), ⟨i, by rw [List.length_set]; exact hi, ?_⟩, ?_, .inr hget⟩
    · rw [List.getD_eq_getElem?_getD, List.getElem?_set_self hi, Option.getD_some]
      exact ⟨rfl, hin, sentOf_has _ _⟩
    · rw [h2, put_same ap.apart hget]
  · by_cases hfull : n.ports ≤ (L.length : Int)
    · exact (out_full T n now next F A cap L 5 s d w h ok hs0 hd0 hs hd h0 hfull).mono fun e w' ⟨he, hb⟩ => .inl ⟨he, hb⟩
    · obtain ⟨K, hK⟩ := free_there ap.fine ap.nxt (by omega : (L.length : Int) < n.ports)
      refine (out_new T n now next F A cap L 5 s d w h ok hF hs0 hd0 hs hd h0 (by omega) (by have := ap.len; omega) ap.nxt K hK).mono ?_
      rintro e w' ⟨port, rfl, hfr, hc, A', cap', sA, scap, ht⟩
      obtain ⟨h1, h2, h3⟩ := ap.new hfr s (seenS d n.maps) d sA scap
      have hget : HwI.get (pairsOf L) port = none := by
        obtain ⟨_, _, _, hno⟩ := hfr
        exact get_free hno
      refine .inr ⟨_, _, _, _, _, rfl, hc, ht.lim, h1, h3, ⟨L.length, by simp, ?_⟩, by rw [h2, put_free hget], .inl hget⟩
      rw [List.getD_eq_getElem?_getD, List.getElem?_concat_length, Option.getD_some]
      refine ⟨rfl, rfl, ?_⟩
      show ([d] : List Spot).any (fun x => d.beq x) = true
      simp [Spot.beq_refl]

theorem port_code {n : NatC} {p : Int} (hn : Fine n) (h : InRange n p) : portCode p = 0 := by
  unfold Fine at hn
  unfold InRange at h
  unfold portCode
  rw [if_pos (by omega)]
theorem in_apt (T : Nat) (n : NatC) (next : Int) (F : Nat → Prop) (A : Option Addr) (cap : Nat) (L : List Ent) (k : Nat) (s d : Spot) (port : Int) (w : World) (h : TrAt w F T n 5 next A cap L) (ap : Apt n next L k) (hk : k ≤ 100) (hin : InRange n port)
    (hF : ∀ k, F k → k < w.heap.size) (hd0 : 0 ≤ d.hi) (hd : spotCode d = 0) (hi : ∃ i, i < L.length ∧ (L.getD i noEnt).port = port ∧ (L.getD i noEnt).inner = s ∧ (L.getD i noEnt).sent.any (fun x => d.beq x) = true) :
    Calls Tryz.prog 14 #[.pointer (some ⟨T, 0, none⟩), .int .i64 5, .agg #[.bool d.six, .int .u64 d.hi, .int .u64 d.lo, .int .i64 d.port], .int .i64 port] w
      fun e w' => e = .returned (.tuple #[.agg #[.bool s.six, .int .u64 s.hi, .int .u64 s.lo, .int .i64 s.port], .bool true, .int .i64 0]) ∧ Chg F w w' ∧ TrAt w' F T n 5 next A cap L := by
  obtain ⟨i, hi, hp, hs, hany⟩ := hi
  obtain ⟨hno, hyes⟩ := let_at (d := d) ap hi hany
  subst hp hs
  exact in_any T n 5 next F A cap L 5 d _ w h (ap.ok (by omega) (by omega)) hF (fun e he => by have := ap.sent e he; omega) hd0 hd (port_code ap.fine hin) i hi hno hyes
end Go.Proofs.YtphjgjcbolmdiaaGreatDoor
