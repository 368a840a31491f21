/- Where a walk of draws stands: the stream, and the blocks that the walk has in view. -/
import Derived.Test.YtajifionclpphaaGreatDoorAdS
import Derived.Test.YtajifionclpphaaGreatDoorPick
namespace Go.Proofs.YtajifionclpphaaGreatDoor
open Go.RowKit Go.Hw

theorem nodup_at : ∀ {L : List Nat} (_ : L.Nodup) {i j : Nat} (hi : i < L.length) (hj : j < L.length), L[i] = L[j] → i = j
  | [], _, i, _, hi, _, _ => by simp at hi
  | x :: L, h, i, j, hi, hj, e => by
    obtain ⟨h1, h2⟩ := List.nodup_cons.1 h
    rcases i with _ | i <;> rcases j with _ | j
    · rfl
    · simp at e; exact absurd (e ▸ List.getElem_mem _) h1
    · simp at e; exact absurd (e ▸ List.getElem_mem _) h1
    · simp at e; rw [nodup_at h2 (by simpa using hi) (by simpa using hj) e]
abbrev DBk := Nat × Array Value × TypeId
structure DS (w0 w : World) (b : Nat) (A : Option Addr) (cap : Nat) (l : List Int) (at_ m : Int) (bs : List DBk) : Prop where
  to : StrTo w0 w b A cap l at_ m
  blk : ∀ p ∈ bs, w.heap[p.1]? = some (.cells p.2.1 p.2.2 (0, 0))
  own : ∀ p ∈ bs, w0.heap.size ≤ p.1
  ne : (bs.map (·.1)).Nodup
  b0 : b < w0.heap.size
section
variable {w0 w : World} {b : Nat} {A : Option Addr} {cap : Nat} {l : List Int} {at_ m : Int} {bs : List DBk}
theorem DS.start (h : Str w b A cap l at_) : DS w w b A cap l at_ 0 [] := ⟨⟨at_, by omega, by omega, h, World.grownBy.refl _ _⟩, by simp, by simp, by simp, h.lt⟩
theorem DS.lt (h : DS w0 w b A cap l at_ m bs) {k : Nat} {p : DBk} (hp : bs[k]? = some p) : p.1 < w.heap.size := lt_of_block (h.blk p (List.mem_of_getElem? hp))
theorem DS.neb (h : DS w0 w b A cap l at_ m bs) {k : Nat} {p : DBk} (hp : bs[k]? = some p) : p.1 ≠ b := by
  have := h.own p (List.mem_of_getElem? hp); have := h.b0; omega
theorem DS.grown (h : DS w0 w b A cap l at_ m bs) : w0.grownBy w (some b) := h.to.choose_spec.2.2.2
theorem DS.size (h : DS w0 w b A cap l at_ m bs) : w0.heap.size ≤ w.heap.size := h.grown.size
theorem DS.blt (h : DS w0 w b A cap l at_ m bs) : b < w.heap.size := Nat.lt_of_lt_of_le h.b0 h.size
theorem DS.al (h : DS w0 w b A cap l at_ m bs) (cs : Array Value) (T : TypeId) : DS w0 (w.alloc (.cells cs T)) b A cap l at_ m ((w.heap.size, cs, T) :: bs) := by
  obtain ⟨x, h1, h2, h3, h4⟩ := h.to
  refine ⟨⟨x, h1, h2, h3.alloc _, h4.andThen (World.grownBy_alloc _ _ (some b)) (fun _ h => .inr h)⟩, ?_, ?_, ?_, h.b0⟩
  · intro p hp
    rcases List.mem_cons.1 hp with rfl | hp
    · exact heap_alloc_new _ _
    · exact (heap_alloc_old w _ (lt_of_block (h.blk p hp))).trans (h.blk p hp)
  · intro p hp
    rcases List.mem_cons.1 hp with rfl | hp
    · exact h4.size
    · exact h.own p hp
  · refine List.nodup_cons.2 ⟨fun hm => ?_, h.ne⟩
    obtain ⟨p, hp, he⟩ := List.mem_map.1 hm
    have := lt_of_block (h.blk p hp)
    simp at he; omega
theorem DS.on {k : Int} {w' : World} {x : Int} (h : DS w0 w b A cap l at_ m bs) (h1 : at_ ≤ x) (h2 : x ≤ at_ + m) (h3 : w0.grownBy w (some b)) (ht : StrTo w w' b A cap l x k) : DS w0 w' b A cap l at_ (m + k) bs := by
  obtain ⟨y, k1, k2, k3, k4⟩ := ht
  refine ⟨⟨y, by omega, by omega, k3, h3.andThen k4 (fun _ h => .inr h)⟩, fun p hp => ?_, h.own, h.ne, h.b0⟩
  have hb := h.blk p hp
  refine (k4.block p.1 (lt_of_block hb) (fun e => ?_)).trans hb
  have := h.own p hp; have := h.b0
  injection e with e
  omega
/-- A call that draws at most k numbers. -/
theorem DS.call {k : Int} {P : Program} {f : Nat} {args : Array Value} {Q : Ending → World → Prop} (h : DS w0 w b A cap l at_ m bs)
    (c : ∀ x, at_ ≤ x → x ≤ at_ + m → Str w b A cap l x → Calls P f args w fun e w' => Q e w' ∧ StrTo w w' b A cap l x k) :
    Calls P f args w fun e w' => Q e w' ∧ DS w0 w' b A cap l at_ (m + k) bs ∧ w.grownBy w' (some b) := by
  obtain ⟨x, h1, h2, h3, h4⟩ := h.to
  exact (c x h1 h2 h3).mono fun e w' ⟨hq, ht⟩ => ⟨hq, h.on h1 h2 h4 ht, ht.choose_spec.2.2.2⟩
theorem strTo_one {w' : World} {x : Int} (hs : Str w' b A cap l (x + 1)) (hg : w.grownBy w' (some b)) : StrTo w w' b A cap l x 1 := ⟨x + 1, by omega, by omega, hs, hg⟩
theorem DS.next (h : DS w0 w b A cap l at_ m bs) (hm : at_ + m < 1099511627776) (n : Int) (h1 : 1 ≤ n) (hn : n ≤ 9223372036854775807) :
    Calls Tryz.prog 32 #[.pointer (some ⟨b, 0, none⟩), .int .i64 n] w fun e w' => (∃ d, 0 ≤ d ∧ d < n ∧ e = .returned (.int .i64 d)) ∧ DS w0 w' b A cap l at_ (m + 1) bs ∧ w.grownBy w' (some b) :=
  h.call fun x _ hx hs => (next_any b A cap l x n w hs h1 hn (by omega)).mono fun e w' ⟨he, hs, hg⟩ => ⟨⟨_, draw_low l x n h1, draw_high l x n h1, he⟩, strTo_one hs hg⟩
theorem DS.flip (h : DS w0 w b A cap l at_ m bs) (hm : at_ + m < 1099511627776) (n : Int) (h1 : 1 ≤ n) (hn : n ≤ 9223372036854775807) :
    Calls Tryz.prog 50 #[.pointer (some ⟨b, 0, none⟩), .int .i64 n] w fun e w' => (∃ y : Bool, e = .returned (.bool y)) ∧ DS w0 w' b A cap l at_ (m + 1) bs ∧ w.grownBy w' (some b) :=
  h.call fun x _ hx hs => (flip_any b A cap l x n w hs h1 hn (by omega)).mono fun e w' ⟨he, hs, hg⟩ => ⟨⟨_, he⟩, strTo_one hs hg⟩
theorem DS.range (h : DS w0 w b A cap l at_ m bs) (hm : at_ + m < 1099511627776) (lo hi : Int) (hlo : -4611686018427387904 ≤ lo) (hle : lo ≤ hi) (hhi : hi ≤ 4611686018427387903) (hd : hi - lo + 1 ≤ 4611686018427387903) :
    Calls Tryz.prog 20 #[.pointer (some ⟨b, 0, none⟩), .int .i64 lo, .int .i64 hi] w fun e w' => (∃ d, lo ≤ d ∧ d ≤ hi ∧ e = .returned (.int .i64 d)) ∧ DS w0 w' b A cap l at_ (m + 1) bs ∧ w.grownBy w' (some b) :=
  h.call fun x _ hx hs => (range_any b A cap l x lo hi w hs hlo hle hhi (by omega) hd).mono fun e w' ⟨he, hs, hg⟩ => ⟨⟨_, by have := draw_low l x (hi - lo + 1) (by omega); omega, by have := draw_high l x (hi - lo + 1) (by omega); omega, he⟩, strTo_one hs hg⟩
theorem getD_mem {α : Type} {vs : List α} {i : Nat} {d : α} (h : i < vs.length) : vs.getD i d ∈ vs := by
  rw [List.getD_eq_getElem?_getD, List.getElem?_eq_getElem h]
  exact List.getElem_mem h
/-- Pick of the numbers that lie in the newest block. -/
theorem DS.pick {g : Nat} {cs : Array Value} (h : DS w0 w b A cap l at_ m ((g, cs, 3) :: bs)) (hm : at_ + m < 1099511627776) (vs : List Int) (hc : cs = (vs.map (Value.int .i64)).toArray) (hv : vs ≠ []) (hl : vs.length ≤ 1000000) (n c : Nat) (hn : n = vs.length) :
    Calls Tryz.prog 49 #[.pointer (some ⟨b, 0, none⟩), .slice (some ⟨g, 0, none⟩) n c] w fun e w' => (∃ d, d ∈ vs ∧ e = .returned (.int .i64 d)) ∧ DS w0 w' b A cap l at_ (m + 1) bs ∧ w.grownBy w' (some b) := by
  subst hc
  have hp : 0 < vs.length := List.length_pos_iff.2 hv
  refine (h.call (Q := fun e w' => ∃ d, d ∈ vs ∧ e = .returned (.int .i64 d)) (k := 1) fun x _ hx hs => (pick_any b A cap l x w hs (by omega) g vs (h.blk _ List.mem_cons_self) (h.neb (k := 0) rfl) hv hl n c hn).mono fun e w' ⟨he, hs, hg⟩ => ⟨⟨_, getD_mem ?_, he⟩, strTo_one hs hg⟩).mono ?_
  · have := draw_low l x vs.length (by omega); have := draw_high l x vs.length (by omega); omega
  · rintro e w' ⟨hq, hd, hg⟩
    exact ⟨hq, ⟨hd.to, fun p hp => hd.blk p (List.mem_cons_of_mem _ hp), fun p hp => hd.own p (List.mem_cons_of_mem _ hp), (List.nodup_cons.1 hd.ne).2, hd.b0⟩, hg⟩
theorem DS.dr (h : DS w0 w b A cap l at_ m bs) : DS w0 w.drew b A cap l at_ m bs := by
  obtain ⟨x, h1, h2, h3, h4⟩ := h.to
  exact ⟨⟨x, h1, h2, h3.dr, ⟨h4.os, h4.tape, h4.output, h4.size, h4.block⟩⟩, h.blk, h.own, h.ne, h.b0⟩
theorem DS.alo (h : DS w0 w b A cap l at_ m bs) (o : Obj) : DS w0 (w.alloc o) b A cap l at_ m bs := by
  obtain ⟨x, h1, h2, h3, h4⟩ := h.to
  exact ⟨⟨x, h1, h2, h3.alloc _, h4.andThen (World.grownBy_alloc _ _ (some b)) (fun _ h => .inr h)⟩, fun p hp => (heap_alloc_old w _ (lt_of_block (h.blk p hp))).trans (h.blk p hp), h.own, h.ne, h.b0⟩
theorem DS.view (h : DS w0 w b A cap l at_ m bs) {g : Nat} {cs : Array Value} {T : TypeId} (hb : w.heap[g]? = some (.cells cs T (0, 0))) (ho : w0.heap.size ≤ g) (hn : ∀ p ∈ bs, p.1 ≠ g) : DS w0 w b A cap l at_ m ((g, cs, T) :: bs) := by
  refine ⟨h.to, ?_, ?_, ?_, h.b0⟩
  · intro p hp
    rcases List.mem_cons.1 hp with rfl | hp
    · exact hb
    · exact h.blk p hp
  · intro p hp
    rcases List.mem_cons.1 hp with rfl | hp
    · exact ho
    · exact h.own p hp
  · refine List.nodup_cons.2 ⟨fun hm => ?_, h.ne⟩
    obtain ⟨p, hp, he⟩ := List.mem_map.1 hm
    exact hn p hp he
theorem DS.bl {w' : World} (h : DS w0 w b A cap l at_ m bs) (hb : Below w.heap.size w w') : DS w0 w' b A cap l at_ m bs := by
  obtain ⟨x, h1, h2, h3, h4⟩ := h.to
  have hg := grownB hb none
  exact ⟨⟨x, h1, h2, h3.grown hg (fun k e => by cases e), h4.andThen hg (fun k e => by cases e)⟩, fun p hp => (hb.block p.1 (lt_of_block (h.blk p hp))).trans (h.blk p hp), h.own, h.ne, h.b0⟩
theorem heap_al (w : World) (o : Obj) : (w.alloc o).heap = w.heap.push o := rfl
theorem gk {X : World} {k : Nat} {o : Obj} (hg : X.grownBy w (some b)) (h : X.heap[k]? = some o) (hb : b ≠ k) : w.heap[k]? = some o := (hg.block k (lt_of_block h) (fun e => hb (by injection e with e; exact e.symm))).trans h
theorem al1 (w : World) (a : Obj) : (w.alloc a).heap[w.heap.size]? = some a := heap_alloc_new w a
theorem al21 (w : World) (a c : Obj) : ((w.alloc a).alloc c).heap[w.heap.size]? = some a := by simp [heap_al, Array.getElem?_push]
theorem al22 (w : World) (a c : Obj) : ((w.alloc a).alloc c).heap[w.heap.size + 1]? = some c := by have h := heap_alloc_new (w.alloc a) c; rwa [show (w.alloc a).heap.size = w.heap.size + 1 from by simp] at h
/-- Pick of numbers that lie in a block. -/
theorem DS.pickB {w1 : World} {g : Nat} (h1 : DS w0 w1 b A cap l at_ m bs) (hB : Below w1.heap.size w1 w) (hm : at_ + m < 1099511627776) (vs : List Int) (hb : w.heap[g]? = some (.cells (vs.map (Value.int .i64)).toArray 3 (0, 0))) (hgb : g ≠ b) (hv : vs ≠ []) (hl : vs.length ≤ 1000000) (n c : Nat) (hn : n = vs.length) :
    Calls Tryz.prog 49 #[.pointer (some ⟨b, 0, none⟩), .slice (some ⟨g, 0, none⟩) n c] w fun e w' => (∃ d, d ∈ vs ∧ e = .returned (.int .i64 d)) ∧ DS w0 w' b A cap l at_ (m + 1) bs ∧ w.grownBy w' (some b) := by
  have h := h1.bl hB
  have hp : 0 < vs.length := List.length_pos_iff.2 hv
  refine (h.call (Q := fun e w' => ∃ d, d ∈ vs ∧ e = .returned (.int .i64 d)) (k := 1) fun x _ hx hs => (pick_any b A cap l x w hs (by omega) g vs hb hgb hv hl n c hn).mono fun e w' ⟨he, hs, hg⟩ => ⟨⟨_, getD_mem ?_, he⟩, strTo_one hs hg⟩)
  have := draw_low l x vs.length (by omega); have := draw_high l x vs.length (by omega); omega
/-- Pick of numbers that are laid in a new block. -/
theorem DS.pk {g : Nat} {cs : Array Value} (h : DS w0 w b A cap l at_ m bs) (hm : at_ + m < 1099511627776) (vs : List Int) (hg : g = w.heap.size) (hc : cs = (vs.map (Value.int .i64)).toArray) (hv : vs ≠ []) (hl : vs.length ≤ 1000000) (n c : Nat) (hn : n = vs.length) :
    Calls Tryz.prog 49 #[.pointer (some ⟨b, 0, none⟩), .slice (some ⟨g, 0, none⟩) n c] (w.alloc (.cells cs 3)) fun e w' => (∃ d, d ∈ vs ∧ e = .returned (.int .i64 d)) ∧ DS w0 w' b A cap l at_ (m + 1) bs ∧ w.grownBy w' (some b) := by
  subst hg
  exact ((h.al cs 3).pick hm vs hc hv hl n c hn).mono fun e w' ⟨h1, h2, h3⟩ => ⟨h1, h2, grown_alloc_then h3⟩
/-- One block is out of view. -/
theorem DS.drop {p : DBk} (h : DS w0 w b A cap l at_ m (p :: bs)) : DS w0 w b A cap l at_ m bs := ⟨h.to, fun p hp => h.blk p (List.mem_cons_of_mem _ hp), fun p hp => h.own p (List.mem_cons_of_mem _ hp), (List.nodup_cons.1 h.ne).2, h.b0⟩
theorem DS.le {m' : Int} (h : DS w0 w b A cap l at_ m bs) (hm : m ≤ m') : DS w0 w b A cap l at_ m' bs := by
  obtain ⟨x, h1, h2, h3⟩ := h.to
  exact ⟨⟨x, h1, by omega, h3⟩, h.blk, h.own, h.ne, h.b0⟩
theorem DS.cell (h : DS w0 w b A cap l at_ m bs) (k i : Nat) {p : DBk} {u : Value} (hp : bs[k]? = some p) (hu : p.2.1[i]? = some u) : w.cell? ⟨p.1, i, none⟩ = some u :=
  (cell_of (h.blk p (List.mem_of_getElem? hp)) i).trans hu
theorem DS.froz (h : DS w0 w b A cap l at_ m bs) (k i : Nat) {p : DBk} (hp : bs[k]? = some p) : w.frozen? ⟨p.1, i, none⟩ = false := by
  have := h.blk p (List.mem_of_getElem? hp)
  simp [World.frozen?, this]
theorem rw_gset' {g : Nat} (h4 : w0.grownBy w (some b)) (_ : b < g) (hg : w0.heap.size ≤ g) (i : Nat) (v : Value) : w0.grownBy (w.setCell ⟨g, i, none⟩ v) (some b) := by
  refine ⟨h4.os, h4.tape, h4.output, ?_, fun j hj hjb => (Below.heap_setCell w ⟨g, i, none⟩ v j (by simp; omega)).trans (h4.block j hj hjb)⟩
  have := h4.size
  simpa [World.setCell] using this
/-- A store into the k-th block in view. -/
theorem DS.setp (h : DS w0 w b A cap l at_ m bs) (k i : Nat) (v : Value) {p : DBk} (hp : bs[k]? = some p) : DS w0 (w.setCell ⟨p.1, i, none⟩ v) b A cap l at_ m (bs.set k (p.1, p.2.1.setIfInBounds i v, p.2.2)) := by
  obtain ⟨x, h1, h2, h3, h4⟩ := h.to
  have hb := h.blk p (List.mem_of_getElem? hp)
  have hne := h.neb hp
  have hoth : ∀ j, j ≠ p.1 → (w.setCell ⟨p.1, i, none⟩ v).heap[j]? = w.heap[j]? := fun j hj => Below.heap_setCell w _ _ j hj
  have hbb : b < p.1 := by have := h.own p (List.mem_of_getElem? hp); have := h.b0; omega
  refine ⟨⟨x, h1, h2, str_other h3 hbb hoth, rw_gset' h4 hbb (h.own p (List.mem_of_getElem? hp)) i v⟩, fun q hq => ?_, fun q hq => ?_, ?_, h.b0⟩
  · rcases List.mem_or_eq_of_mem_set hq with hq' | rfl
    · rw [List.mem_iff_getElem?] at hq
      obtain ⟨j, hj⟩ := hq
      by_cases hjk : j = k
      · subst hjk
        rw [List.getElem?_set_self (by exact (List.getElem?_eq_some_iff.1 hp).1)] at hj
        injection hj with hj
        subst hj
        exact heap_set hb i v
      · rw [List.getElem?_set_ne (Ne.symm hjk)] at hj
        have hqp : q.1 ≠ p.1 := by
          intro e
          have h1 : (bs.map (·.1))[j]? = some q.1 := by rw [List.getElem?_map, hj]; rfl
          have h2 : (bs.map (·.1))[k]? = some p.1 := by rw [List.getElem?_map, hp]; rfl
          obtain ⟨a1, a2⟩ := List.getElem?_eq_some_iff.1 h1
          obtain ⟨b1, b2⟩ := List.getElem?_eq_some_iff.1 h2
          exact hjk (nodup_at h.ne a1 b1 (a2.trans (e.trans b2.symm)))
        exact (hoth q.1 hqp).trans (h.blk q hq')
    · exact heap_set hb i v
  · rcases List.mem_or_eq_of_mem_set hq with hq' | rfl
    · exact h.own q hq'
    · exact h.own p (List.mem_of_getElem? hp)
  · rw [List.map_set, show (bs.map (·.1)).set k p.1 = bs.map (·.1) from ?_]
    · exact h.ne
    · have h2 : (bs.map (·.1))[k]? = some p.1 := by rw [List.getElem?_map, hp]; rfl
      obtain ⟨b1, b2⟩ := List.getElem?_eq_some_iff.1 h2
      rw [← b2, List.set_getElem_self]
theorem DS.set (h : DS w0 w b A cap l at_ m bs) (k i : Nat) (v : Value) {g : Nat} {cs : Array Value} {T : TypeId} (hp : bs[k]? = some (g, cs, T)) : DS w0 (w.setCell ⟨g, i, none⟩ v) b A cap l at_ m (bs.set k (g, cs.setIfInBounds i v, T)) := h.setp k i v hp
/-- A block in view that is laid anew. -/
theorem DS.re {W : World} (h : DS w0 w b A cap l at_ m bs) (k : Nat) {g : Nat} {cs cs' : Array Value} {T : TypeId} (hp : bs[k]? = some (g, cs, T)) (hr : Re w W g cs' T) : DS w0 W b A cap l at_ m (bs.set k (g, cs', T)) := by
  obtain ⟨x, h1, h2, h3, h4⟩ := h.to
  have hown := h.own _ (List.mem_of_getElem? hp)
  have hb0 := h.b0
  have hbb : b < g := by show b < (g, cs, T).1; omega
  refine ⟨⟨x, h1, h2, str_other h3 hbb hr.oth, ⟨hr.os.trans h4.os, hr.tape.trans h4.tape, hr.output.trans h4.output, by rw [hr.size]; exact h4.size, fun j hj hjb => (hr.oth j (by have : (g, cs, T).1 = g := rfl; omega)).trans (h4.block j hj hjb)⟩⟩, fun q hq => ?_, fun q hq => ?_, ?_, h.b0⟩
  · rw [List.mem_iff_getElem?] at hq
    obtain ⟨j, hj⟩ := hq
    by_cases hjk : j = k
    · subst hjk
      rw [List.getElem?_set_self (by exact (List.getElem?_eq_some_iff.1 hp).1)] at hj
      injection hj with hj
      subst hj
      exact hr.blk
    · rw [List.getElem?_set_ne (Ne.symm hjk)] at hj
      have hqp : q.1 ≠ g := by
        intro e
        have h1 : (bs.map (·.1))[j]? = some q.1 := by rw [List.getElem?_map, hj]; rfl
        have h2 : (bs.map (·.1))[k]? = some g := by rw [List.getElem?_map, hp]; rfl
        obtain ⟨a1, a2⟩ := List.getElem?_eq_some_iff.1 h1
        obtain ⟨b1, b2⟩ := List.getElem?_eq_some_iff.1 h2
        exact hjk (nodup_at h.ne a1 b1 (a2.trans (e.trans b2.symm)))
      exact (hr.oth q.1 hqp).trans (h.blk q (List.mem_of_getElem? hj))
  · rcases List.mem_or_eq_of_mem_set hq with hq' | rfl
    · exact h.own q hq'
    · exact hown
  · rw [List.map_set, show (bs.map (·.1)).set k g = bs.map (·.1) from ?_]
    · exact h.ne
    · have h2 : (bs.map (·.1))[k]? = some g := by rw [List.getElem?_map, hp]; rfl
      obtain ⟨b1, b2⟩ := List.getElem?_eq_some_iff.1 h2
      rw [← b2, List.set_getElem_self]
end
end Go.Proofs.YtajifionclpphaaGreatDoor
