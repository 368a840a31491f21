/- Plain words for a map that is held in memory: its pairs in the order in which they were laid, and what the operations do with them. -/
import Derived.WalkKit
import Derived.Maps.RangeWalk
namespace Go.Hw
open Go.MapKept Go.RowKit
open Go.ChangeMaps (setBlock)

/-! ### pairs -/
section
variable {α : Type}
def get (m : List (ByteArray × α)) (k : ByteArray) : Option α := (m.find? fun p => decide (p.1 = k)).map (·.2)
def put (m : List (ByteArray × α)) (k : ByteArray) (a : α) : List (ByteArray × α) :=
  if (get m k).isSome then m.map (fun p => if p.1 = k then (k, a) else p) else m ++ [(k, a)]
def Apart (m : List (ByteArray × α)) : Prop := (m.map (·.1)).Nodup

theorem get_nil (k : ByteArray) : get ([] : List (ByteArray × α)) k = none := rfl
theorem get_cons (p : ByteArray × α) (m : List (ByteArray × α)) (k : ByteArray) : get (p :: m) k = if p.1 = k then some p.2 else get m k := by
  unfold get
  rw [List.find?_cons]
  by_cases h : p.1 = k <;> simp [h]
theorem get_none {m : List (ByteArray × α)} {k : ByteArray} : get m k = none ↔ ∀ p ∈ m, p.1 ≠ k := by
  induction m with
  | nil => simp [get_nil]
  | cons p m ih =>
    rw [get_cons]
    by_cases h : p.1 = k <;> simp [h, ih]
theorem get_of_mem {m : List (ByteArray × α)} (hn : Apart m) {k : ByteArray} {a : α} (h : (k, a) ∈ m) : get m k = some a := by
  induction m with
  | nil => simp at h
  | cons p m ih =>
    unfold Apart at hn
    simp only [List.map_cons, List.nodup_cons] at hn
    rw [get_cons]
    rcases List.mem_cons.1 h with h | h
    · subst h; simp
    · have : p.1 ≠ k := by
        intro e
        exact hn.1 (e ▸ List.mem_map.2 ⟨(k, a), h, rfl⟩)
      simp [this]
      exact ih hn.2 h
end

/-! ### in memory -/
section
variable {α : Type}
/-- Block b of w is a map with string keys that holds the pairs m, elements written by f. -/
def MapIs (w : World) (b : Nat) (f : α → Value) (m : List (ByteArray × α)) : Prop :=
  ∃ es clock, w.heap[b]? = some (.map es clock) ∧ Stamped es clock ∧ es.toList.map (fun e => (e.key, e.val)) = m.map (fun p => (Value.string p.1, f p.2))

variable {w w' : World} {b : Nat} {f : α → Value} {m : List (ByteArray × α)}
theorem MapIs.lt (h : MapIs w b f m) : b < w.heap.size := by
  obtain ⟨es, clock, hb, _⟩ := h
  exact (Array.getElem?_eq_some_iff.1 hb).1
theorem MapIs.keep (h : MapIs w b f m) (hk : w'.heap[b]? = w.heap[b]?) : MapIs w' b f m := by
  obtain ⟨es, clock, hb, r⟩ := h
  exact ⟨es, clock, hk.trans hb, r⟩
theorem MapIs.grown {row : Option Nat} (h : MapIs w b f m) (hg : w.grownBy w' row) (hne : some b ≠ row) : MapIs w' b f m := h.keep (hg.block b h.lt hne)
theorem MapIs.below {B : Nat} (h : MapIs w b f m) (hg : Below B w w') (hb : b < B) : MapIs w' b f m := h.keep (hg.block b hb)
theorem MapIs.alloc (h : MapIs w b f m) (o : Obj) : MapIs (w.alloc o) b f m := h.keep (Below.heap_alloc w o b h.lt)
theorem MapIs.drew (h : MapIs w b f m) : MapIs w.drew b f m := h
theorem MapIs.setCell (h : MapIs w b f m) {a : Addr} (ha : b ≠ a.block) (u : Value) : MapIs (w.setCell a u) b f m := h.keep (Below.heap_setCell w a u b ha)
theorem MapIs.made (w : World) (f : α → Value) : MapIs (w.alloc (.map #[] 0)) w.heap.size f [] :=
  ⟨#[], 0, (MapKept.heap_alloc w _).1, stamped_empty 0, rfl⟩
theorem MapIs.keys (h : MapIs w b f m) : Apart m := by
  obtain ⟨es, clock, _, hst, he⟩ := h
  have h1 := congrArg (List.map Prod.fst) he
  simp only [List.map_map] at h1
  have h2 : (es.toList.map (·.key)) = m.map (fun p => Value.string p.1) := h1
  have h3 := hst.2.2
  rw [h2] at h3
  unfold Apart
  have h4 : (m.map (fun p => Value.string p.1)) = (m.map (·.1)).map Value.string := by simp
  rw [h4] at h3
  unfold List.Nodup at h3 ⊢
  rw [List.pairwise_map] at h3
  exact h3.imp fun h e => h (by rw [e])
theorem isKey_all {es : Array MapEntry} (he : es.toList.map (fun e => (e.key, e.val)) = m.map (fun p => (Value.string p.1, f p.2))) : ∀ x ∈ es.toList, IsKey .string x.key := by
  intro x hx
  have : (x.key, x.val) ∈ es.toList.map (fun e => (e.key, e.val)) := List.mem_map.2 ⟨x, hx, rfl⟩
  rw [he] at this
  obtain ⟨p, _, e⟩ := List.mem_map.1 this
  injection e with e1 e2
  rw [← e1]
  trivial
theorem find_split {es : Array MapEntry} (hn : Apart m) (he : es.toList.map (fun e => (e.key, e.val)) = m.map (fun p => (Value.string p.1, f p.2))) (k : ByteArray) :
    (Instr.findNow .string (.string k) es.toList 0 = some none ∧ get m k = none) ∨
    ∃ j e a, Instr.findNow .string (.string k) es.toList 0 = some (some (j, f a)) ∧ es[j]? = some e ∧ e.key = .string k ∧ e.val = f a ∧ get m k = some a ∧ m[j]? = some (k, a) := by
  rcases findNow_spec (d := .string) (k := .string k) trivial es.toList 0 (isKey_all he) with ⟨h1, h2⟩ | ⟨j, e, h1, h2, h3⟩
  · left
    refine ⟨h1, get_none.2 fun p hp hk => ?_⟩
    have : (Value.string p.1, f p.2) ∈ es.toList.map (fun e => (e.key, e.val)) := by rw [he]; exact List.mem_map.2 ⟨p, hp, rfl⟩
    obtain ⟨x, hx, ex⟩ := List.mem_map.1 this
    injection ex with e1 e2
    exact h2 x hx (by rw [e1, hk])
  · right
    have hj : (m.map (fun p => (Value.string p.1, f p.2)))[j]? = some (e.key, e.val) := by
      rw [← he, List.getElem?_map, h2]; rfl
    rw [List.getElem?_map] at hj
    cases hm : m[j]? with
    | none => rw [hm] at hj; cases hj
    | some p =>
      rw [hm] at hj
      simp only [Option.map_some] at hj
      injection hj with hj
      injection hj with e1 e2
      rw [h3] at e1
      injection e1 with e1
      have hp : p = (k, p.2) := by cases p; simp_all
      have hmem : (k, p.2) ∈ m := by rw [← hp]; exact List.mem_of_getElem? hm
      refine ⟨j, e, p.2, by rw [h1, ← e2]; simp, by simpa using h2, h3, e2.symm, get_of_mem hn hmem, by rw [hm, hp]⟩
end

/-! ### the operations -/
section
variable {α : Type} {P : Program} {w : World} {b : Nat} {f : α → Value} {m : List (ByteArray × α)} {t kt et : TypeId}
theorem run_get (h : MapIs w b f m) (ht : P.underlying t = some (.map kt et)) (hk : P.underlying kt = some .string) {z : Value} (hz : (zeroValue et).run P w = .ok z w) (k : ByteArray) :
    (Instr.lookup t (.map (some b)) (.string k) false).run P w = .ok (match get m k with | some a => f a | none => z) w := by
  have hn := h.keys
  obtain ⟨es, clock, hb, hst, he⟩ := h
  rcases find_split hn he k with ⟨h1, h2⟩ | ⟨j, e, a, h1, h3, h4, h5, h6, h7⟩
  · simp [Instr.lookup, run_underlying ht, MapKept.run_getObj_map hb, run_checkKey (k := .string k) hk trivial, run_findKey hk h1, hz, h2, Result.andThen]
  · simp [Instr.lookup, run_underlying ht, MapKept.run_getObj_map hb, run_checkKey (k := .string k) hk trivial, run_findKey hk h1, h6, Result.andThen]
end

/-! ### ranging over a map while other memory is written -/
section
variable {α : Type} {P : Program} {w w' : World} {b r : Nat} {f : α → Value} {m : List (ByteArray × α)} {t kt et : TypeId}
/-- Block r is an iterator over the map in block b, which holds m; the keys 'seen' have been handed out; cnt are still to come. -/
def IterIs (w : World) (r b : Nat) (f : α → Value) (m : List (ByteArray × α)) (seen : List ByteArray) (cnt : Nat) : Prop :=
  ∃ es clock since born c0, w.heap[b]? = some (.map es clock) ∧ Stamped es clock ∧ es.toList.map (fun e => (e.key, e.val)) = m.map (fun p => (Value.string p.1, f p.2)) ∧
    w.heap[r]? = some (.mapIter (some b) since born c0) ∧ (∀ x ∈ es.toList, x.born < since) ∧ since ≤ c0 ∧ since ≤ clock ∧ (leftOf es born).size = cnt ∧
    ∀ x ∈ es.toList, ∀ k, x.key = .string k → (born.contains x.born = true ↔ k ∈ seen)
theorem IterIs.map_ {seen : List ByteArray} {cnt : Nat} (h : IterIs w r b f m seen cnt) : MapIs w b f m := by
  obtain ⟨es, clock, _, _, _, h1, h2, h3, _⟩ := h
  exact ⟨es, clock, h1, h2, h3⟩
theorem IterIs.lt {seen : List ByteArray} {cnt : Nat} (h : IterIs w r b f m seen cnt) : r < w.heap.size := by
  obtain ⟨es, clock, _, _, _, h1, h2, h3, h4, _⟩ := h
  exact (Array.getElem?_eq_some_iff.1 h4).1
theorem IterIs.keep {seen : List ByteArray} {cnt : Nat} (h : IterIs w r b f m seen cnt) (hb : w'.heap[b]? = w.heap[b]?) (hr : w'.heap[r]? = w.heap[r]?) : IterIs w' r b f m seen cnt := by
  obtain ⟨es, clock, s, bo, c0, h1, h2, h3, h4, h5⟩ := h
  exact ⟨es, clock, s, bo, c0, hb.trans h1, h2, h3, hr.trans h4, h5⟩
theorem IterIs.grown {seen : List ByteArray} {cnt : Nat} {row : Option Nat} (h : IterIs w r b f m seen cnt) (hg : w.grownBy w' row) (hb : some b ≠ row) (hr : some r ≠ row) : IterIs w' r b f m seen cnt :=
  h.keep (hg.block b h.map_.lt hb) (hg.block r h.lt hr)
end
end Go.Hw
