/- Plain words for a map that is held in memory: its pairs in the order in which they were laid, and what the operations do with them. -/
import Derived.WalkKit
import Derived.Maps.RangeWalk
namespace Go.Hw
open Go.MapKept Go.RowKit
open Go.ChangeMaps (setBlock)

/-! ### pairs -/
section
variable {α : Type}
def get (m : List (ByteArray × α)) (k : ByteArray) : Option α := (m.find? fun p => decide (p.1 = k)).map (·.2)
def put (m : List (ByteArray × α)) (k : ByteArray) (a : α) : List (ByteArray × α) :=
  if (get m k).isSome then m.map (fun p => if p.1 = k then (k, a) else p) else m ++ [(k, a)]
def Apart (m : List (ByteArray × α)) : Prop := (m.map (·.1)).Nodup

theorem get_nil (k : ByteArray) : get ([] : List (ByteArray × α)) k = none := rfl
theorem get_cons (p : ByteArray × α) (m : List (ByteArray × α)) (k : ByteArray) : get (p :: m) k = if p.1 = k then some p.2 else get m k := by
  unfold get
  rw [List.find?_cons]
  by_cases h : p.1 = k <;> simp [h]
theorem get_none {m : List (ByteArray × α)} {k : ByteArray} : get m k = none ↔ ∀ p ∈ m, p.1 ≠ k := by
  induction m with
  | nil => simp [get_nil]
  | cons p m ih =>
    rw [get_cons]
    by_cases h : p.1 = k <;> simp [h, ih]
theorem get_mem {m : List (ByteArray × α)} {k : ByteArray} {a : α} (h : get m k = some a) : (k, a) ∈ m := by
  induction m with
  | nil => simp [get_nil] at h
  | cons p m ih =>
    rw [get_cons] at h
    by_cases hk : p.1 = k
    · simp [hk] at h; subst h; rw [← hk]; simp
    · simp [hk] at h; exact List.mem_cons_of_mem _ (ih h)
theorem get_of_mem {m : List (ByteArray × α)} (hn : Apart m) {k : ByteArray} {a : α} (h : (k, a) ∈ m) : get m k = some a := by
  induction m with
  | nil => simp at h
  | cons p m ih =>
    unfold Apart at hn
    simp only [List.map_cons, List.nodup_cons] at hn
    rw [get_cons]
    rcases List.mem_cons.1 h with h | h
    · subst h; simp
    · have : p.1 ≠ k := by
        intro e
        exact hn.1 (e ▸ List.mem_map.2 ⟨(k, a), h, rfl⟩)
      simp [this]
      exact ih hn.2 h
theorem get_append (m n : List (ByteArray × α)) (k : ByteArray) : get (m ++ n) k = (get m k).or (get n k) := by
  induction m with
  | nil => simp [get_nil]
  | cons p m ih =>
    rw [List.cons_append, get_cons, get_cons]
    by_cases h : p.1 = k <;> simp [h, ih]
theorem get_map_other (m : List (ByteArray × α)) (k k' : ByteArray) (a : α) (hne : k' ≠ k) : get (m.map fun p => if p.1 = k then (k, a) else p) k' = get m k' := by
  induction m with
  | nil => rfl
  | cons p m ih =>
    rw [List.map_cons, get_cons, get_cons, ih]
    by_cases h : p.1 = k
    · simp [h, Ne.symm hne]
    · simp [h]
theorem get_map_same (m : List (ByteArray × α)) (k : ByteArray) (a : α) (h : (get m k).isSome) : get (m.map fun p => if p.1 = k then (k, a) else p) k = some a := by
  induction m with
  | nil => simp [get_nil] at h
  | cons p m ih =>
    rw [List.map_cons, get_cons]
    rw [get_cons] at h
    by_cases hk : p.1 = k
    · simp [hk]
    · simp [hk] at h ⊢
      exact ih h
theorem get_put (m : List (ByteArray × α)) (k k' : ByteArray) (a : α) : get (put m k a) k' = if k' = k then some a else get m k' := by
  unfold put
  by_cases hs : (get m k).isSome
  · rw [if_pos hs]
    by_cases hk : k' = k
    · subst hk; simp [get_map_same m _ a hs]
    · simp [hk, get_map_other m k k' a hk]
  · rw [if_neg hs, get_append, get_cons, get_nil]
    by_cases hk : k' = k
    · subst hk
      simp at hs
      simp [hs]
    · simp [hk, Ne.symm hk]
theorem apart_put {m : List (ByteArray × α)} (hn : Apart m) (k : ByteArray) (a : α) : Apart (put m k a) := by
  unfold put Apart
  split
  · have : (m.map fun p => if p.1 = k then (k, a) else p).map (·.1) = m.map (·.1) := by
      rw [List.map_map]
      apply List.map_congr_left
      intro p _
      by_cases h : p.1 = k <;> simp [h]
    rw [this]; exact hn
  · rename_i hs
    rw [List.map_append, List.nodup_append]
    refine ⟨hn, by simp, ?_⟩
    intro x hx y hy
    have hy : y = k := by simpa using hy
    obtain ⟨p, hp, rfl⟩ := List.mem_map.1 hx
    intro e
    have : get m k = none := by simpa using hs
    exact get_none.1 this p hp (e.trans hy)
theorem length_put_le (m : List (ByteArray × α)) (k : ByteArray) (a : α) : (put m k a).length ≤ m.length + 1 := by
  unfold put
  split <;> simp
theorem mem_put {m : List (ByteArray × α)} (hn : Apart m) {k : ByteArray} {a : α} {p : ByteArray × α} : p ∈ put m k a ↔ (p = (k, a) ∨ (p ∈ m ∧ p.1 ≠ k)) := by
  constructor
  · intro h
    have h1 := get_of_mem (apart_put hn k a) (k := p.1) (a := p.2) h
    rw [get_put] at h1
    by_cases hk : p.1 = k
    · rw [if_pos hk] at h1
      injection h1 with h1
      exact .inl (by cases p; simp_all)
    · rw [if_neg hk] at h1
      exact .inr ⟨get_mem h1, hk⟩
  · rintro (h | ⟨h, hk⟩)
    · subst h
      exact get_mem (by rw [get_put, if_pos rfl])
    · have := get_of_mem hn (k := p.1) (a := p.2) h
      have h2 : get (put m k a) p.1 = some p.2 := by rw [get_put, if_neg hk]; exact this
      exact get_mem h2
end

/-! ### in memory -/
section
variable {α : Type}
/-- Block b of w is a map with string keys that holds the pairs m, elements written by f. -/
def MapIs (w : World) (b : Nat) (f : α → Value) (m : List (ByteArray × α)) : Prop :=
  ∃ es clock, w.heap[b]? = some (.map es clock) ∧ Stamped es clock ∧ es.toList.map (fun e => (e.key, e.val)) = m.map (fun p => (Value.string p.1, f p.2))

variable {w w' : World} {b : Nat} {f : α → Value} {m : List (ByteArray × α)}
theorem MapIs.lt (h : MapIs w b f m) : b < w.heap.size := by
  obtain ⟨es, clock, hb, _⟩ := h
  exact (Array.getElem?_eq_some_iff.1 hb).1
theorem MapIs.keep (h : MapIs w b f m) (hk : w'.heap[b]? = w.heap[b]?) : MapIs w' b f m := by
  obtain ⟨es, clock, hb, r⟩ := h
  exact ⟨es, clock, hk.trans hb, r⟩
theorem MapIs.grown {row : Option Nat} (h : MapIs w b f m) (hg : w.grownBy w' row) (hne : some b ≠ row) : MapIs w' b f m := h.keep (hg.block b h.lt hne)
theorem MapIs.below {B : Nat} (h : MapIs w b f m) (hg : Below B w w') (hb : b < B) : MapIs w' b f m := h.keep (hg.block b hb)
theorem MapIs.alloc (h : MapIs w b f m) (o : Obj) : MapIs (w.alloc o) b f m := h.keep (Below.heap_alloc w o b h.lt)
theorem MapIs.drew (h : MapIs w b f m) : MapIs w.drew b f m := h
theorem MapIs.setCell (h : MapIs w b f m) {a : Addr} (ha : b ≠ a.block) (u : Value) : MapIs (w.setCell a u) b f m := h.keep (Below.heap_setCell w a u b ha)
theorem MapIs.made (w : World) (f : α → Value) : MapIs (w.alloc (.map #[] 0)) w.heap.size f [] :=
  ⟨#[], 0, (MapKept.heap_alloc w _).1, stamped_empty 0, rfl⟩
theorem MapIs.keys (h : MapIs w b f m) : Apart m := by
  obtain ⟨es, clock, _, hst, he⟩ := h
  have h1 := congrArg (List.map Prod.fst) he
  simp only [List.map_map] at h1
  have h2 : (es.toList.map (·.key)) = m.map (fun p => Value.string p.1) := h1
  have h3 := hst.2.2
  rw [h2] at h3
  unfold Apart
  have h4 : (m.map (fun p => Value.string p.1)) = (m.map (·.1)).map Value.string := by simp
  rw [h4] at h3
  unfold List.Nodup at h3 ⊢
  rw [List.pairwise_map] at h3
  exact h3.imp fun h e => h (by rw [e])
theorem isKey_all {es : Array MapEntry} (he : es.toList.map (fun e => (e.key, e.val)) = m.map (fun p => (Value.string p.1, f p.2))) : ∀ x ∈ es.toList, IsKey .string x.key := by
  intro x hx
  have : (x.key, x.val) ∈ es.toList.map (fun e => (e.key, e.val)) := List.mem_map.2 ⟨x, hx, rfl⟩
  rw [he] at this
  obtain ⟨p, _, e⟩ := List.mem_map.1 this
  injection e with e1 e2
  rw [← e1]
  trivial
theorem find_split {es : Array MapEntry} (hn : Apart m) (he : es.toList.map (fun e => (e.key, e.val)) = m.map (fun p => (Value.string p.1, f p.2))) (k : ByteArray) :
    (Instr.findNow .string (.string k) es.toList 0 = some none ∧ get m k = none) ∨
    ∃ j e a, Instr.findNow .string (.string k) es.toList 0 = some (some (j, f a)) ∧ es[j]? = some e ∧ e.key = .string k ∧ e.val = f a ∧ get m k = some a ∧ m[j]? = some (k, a) := by
  rcases findNow_spec (d := .string) (k := .string k) trivial es.toList 0 (isKey_all he) with ⟨h1, h2⟩ | ⟨j, e, h1, h2, h3⟩
  · left
    refine ⟨h1, get_none.2 fun p hp hk => ?_⟩
    have : (Value.string p.1, f p.2) ∈ es.toList.map (fun e => (e.key, e.val)) := by rw [he]; exact List.mem_map.2 ⟨p, hp, rfl⟩
    obtain ⟨x, hx, ex⟩ := List.mem_map.1 this
    injection ex with e1 e2
    exact h2 x hx (by rw [e1, hk])
  · right
    have hj : (m.map (fun p => (Value.string p.1, f p.2)))[j]? = some (e.key, e.val) := by
      rw [← he, List.getElem?_map, h2]; rfl
    rw [List.getElem?_map] at hj
    cases hm : m[j]? with
    | none => rw [hm] at hj; cases hj
    | some p =>
      rw [hm] at hj
      simp only [Option.map_some] at hj
      injection hj with hj
      injection hj with e1 e2
      rw [h3] at e1
      injection e1 with e1
      have hp : p = (k, p.2) := by cases p; simp_all
      have hmem : (k, p.2) ∈ m := by rw [← hp]; exact List.mem_of_getElem? hm
      refine ⟨j, e, p.2, by rw [h1, ← e2]; simp, by simpa using h2, h3, e2.symm, get_of_mem hn hmem, by rw [hm, hp]⟩
end

/-! ### the operations -/
section
variable {α : Type} {P : Program} {w : World} {b : Nat} {f : α → Value} {m : List (ByteArray × α)} {t kt et : TypeId}
theorem run_get_ok (h : MapIs w b f m) (ht : P.underlying t = some (.map kt et)) (hk : P.underlying kt = some .string) {z : Value} (hz : (zeroValue et).run P w = .ok z w) (k : ByteArray) :
    (Instr.lookup t (.map (some b)) (.string k) true).run P w = .ok (.tuple #[match get m k with | some a => f a | none => z, .bool (get m k).isSome]) w := by
  have hn := h.keys
  obtain ⟨es, clock, hb, hst, he⟩ := h
  rcases find_split hn he k with ⟨h1, h2⟩ | ⟨j, e, a, h1, h3, h4, h5, h6, h7⟩
  · simp [Instr.lookup, run_underlying ht, MapKept.run_getObj_map hb, run_checkKey (k := .string k) hk trivial, run_findKey hk h1, hz, h2, Result.andThen]
  · simp [Instr.lookup, run_underlying ht, MapKept.run_getObj_map hb, run_checkKey (k := .string k) hk trivial, run_findKey hk h1, h6, Result.andThen]
theorem run_get (h : MapIs w b f m) (ht : P.underlying t = some (.map kt et)) (hk : P.underlying kt = some .string) {z : Value} (hz : (zeroValue et).run P w = .ok z w) (k : ByteArray) :
    (Instr.lookup t (.map (some b)) (.string k) false).run P w = .ok (match get m k with | some a => f a | none => z) w := by
  have hn := h.keys
  obtain ⟨es, clock, hb, hst, he⟩ := h
  rcases find_split hn he k with ⟨h1, h2⟩ | ⟨j, e, a, h1, h3, h4, h5, h6, h7⟩
  · simp [Instr.lookup, run_underlying ht, MapKept.run_getObj_map hb, run_checkKey (k := .string k) hk trivial, run_findKey hk h1, hz, h2, Result.andThen]
  · simp [Instr.lookup, run_underlying ht, MapKept.run_getObj_map hb, run_checkKey (k := .string k) hk trivial, run_findKey hk h1, h6, Result.andThen]
theorem map_modify (es : Array MapEntry) (i : Nat) (g : MapEntry → MapEntry) (F : MapEntry → Value × Value) : (es.modify i g).toList.map F = (es.toList.map F).mapIdx (fun j p => if i = j then ((es[j]?).map (fun e => F (g e))).getD p else p) := by
  apply List.ext_getElem?
  intro j
  simp only [List.getElem?_map, Array.getElem?_toList, Array.getElem?_modify, List.getElem?_mapIdx]
  cases he : es[j]? with
  | none => by_cases hij : i = j <;> simp [hij]
  | some e => by_cases hij : i = j <;> simp [hij]
theorem run_put (h : MapIs w b f m) (ht : P.underlying t = some (.map kt et)) (hk : P.underlying kt = some .string) (k : ByteArray) (a : α) :
    ∃ w', (Instr.mapUpdate t (.map (some b)) (.string k) (f a)).run P w = .ok () w' ∧ MapIs w' b f (put m k a) ∧ w.grownBy w' (some b) ∧ w'.heap.size = w.heap.size := by
  have hn := h.keys
  obtain ⟨es, clock, hb, hst, he⟩ := h
  have hgrow : ∀ o : Obj, w.grownBy ({ w with heap := w.heap.setIfInBounds b o }) (some b) := fun o =>
    ⟨rfl, rfl, rfl, by simp, fun i _ hi => (heap_set (o' := o) hb).2 i (fun e => hi (by rw [e]))⟩
  rcases find_split hn he k with ⟨h1, h2⟩ | ⟨j, e, a0, h1, h3, h4, h5, h6, h7⟩
  · refine ⟨{ w with heap := w.heap.setIfInBounds b (.map (es.push { key := .string k, val := f a, born := clock }) (clock + 1)) }, ?_, ⟨_, _, (heap_set hb).1, stamped_push hst ?_, ?_⟩, hgrow _, by simp⟩
    · simp [Instr.mapUpdate, run_underlying ht, MapKept.run_getObj_map hb, run_checkKey (k := .string k) hk trivial, run_findKey hk h1, run_setObj_map _ hb, Result.andThen]
    · intro x hx e
      have : (x.key, x.val) ∈ es.toList.map (fun e => (e.key, e.val)) := List.mem_map.2 ⟨x, hx, rfl⟩
      rw [he] at this
      obtain ⟨p, hp, e1⟩ := List.mem_map.1 this
      injection e1 with e1 _
      rw [e] at e1
      injection e1 with e1
      exact get_none.1 h2 p hp e1
    · unfold put
      simp [h2, he]
  · refine ⟨{ w with heap := w.heap.setIfInBounds b (.map (es.modify j fun e => { e with key := .string k, val := f a }) clock) }, ?_, ⟨_, _, (heap_set hb).1, stamped_modify hst j _ (fun _ _ => rfl) (fun x _ hx => ?_), ?_⟩, hgrow _, by simp⟩
    · simp [Instr.mapUpdate, run_underlying ht, MapKept.run_getObj_map hb, run_checkKey (k := .string k) hk trivial, run_findKey hk h1, h3, h4, run_keyThatStays (d := .string) (k := .string k) trivial, run_setObj_map _ hb, Result.andThen]
    · rw [h3] at hx
      injection hx with hx
      subst hx
      exact h4.symm
    · unfold put
      rw [if_pos (by simp [h6])]
      rw [map_modify, he]
      apply List.ext_getElem?
      intro i
      simp only [List.getElem?_mapIdx, List.getElem?_map]
      cases hi : m[i]? with
      | none => simp
      | some p =>
        simp only [Option.map_some]
        by_cases hji : j = i
        · subst hji
          rw [h7] at hi
          injection hi with hi
          subst hi
          simp [h3]
        · have hne : p.1 ≠ k := by
            intro e1
            have hnd := hn
            unfold Apart at hnd
            have l1 : (m.map (·.1))[j]? = some k := by rw [List.getElem?_map, h7]; rfl
            have l2 : (m.map (·.1))[i]? = some k := by rw [List.getElem?_map, hi, ← e1]; rfl
            obtain ⟨b1, l1⟩ := List.getElem?_eq_some_iff.1 l1
            obtain ⟨b2, l2⟩ := List.getElem?_eq_some_iff.1 l2
            exact hji ((List.getElem_inj hnd).1 (l1.trans l2.symm))
          simp [hji, hne]
end

/-! ### ranging over a map while other memory is written -/
section
variable {α : Type} {P : Program} {w w' : World} {b r : Nat} {f : α → Value} {m : List (ByteArray × α)} {t kt et : TypeId}
/-- Block r is an iterator over the map in block b, which holds m; the keys 'seen' have been handed out; cnt are still to come. -/
def IterIs (w : World) (r b : Nat) (f : α → Value) (m : List (ByteArray × α)) (seen : List ByteArray) (cnt : Nat) : Prop :=
  ∃ es clock since born c0, w.heap[b]? = some (.map es clock) ∧ Stamped es clock ∧ es.toList.map (fun e => (e.key, e.val)) = m.map (fun p => (Value.string p.1, f p.2)) ∧
    w.heap[r]? = some (.mapIter (some b) since born c0) ∧ (∀ x ∈ es.toList, x.born < since) ∧ since ≤ c0 ∧ since ≤ clock ∧ (leftOf es born).size = cnt ∧
    ∀ x ∈ es.toList, ∀ k, x.key = .string k → (born.contains x.born = true ↔ k ∈ seen)
theorem IterIs.map_ {seen : List ByteArray} {cnt : Nat} (h : IterIs w r b f m seen cnt) : MapIs w b f m := by
  obtain ⟨es, clock, _, _, _, h1, h2, h3, _⟩ := h
  exact ⟨es, clock, h1, h2, h3⟩
theorem IterIs.lt {seen : List ByteArray} {cnt : Nat} (h : IterIs w r b f m seen cnt) : r < w.heap.size := by
  obtain ⟨es, clock, _, _, _, h1, h2, h3, h4, _⟩ := h
  exact (Array.getElem?_eq_some_iff.1 h4).1
theorem IterIs.keep {seen : List ByteArray} {cnt : Nat} (h : IterIs w r b f m seen cnt) (hb : w'.heap[b]? = w.heap[b]?) (hr : w'.heap[r]? = w.heap[r]?) : IterIs w' r b f m seen cnt := by
  obtain ⟨es, clock, s, bo, c0, h1, h2, h3, h4, h5⟩ := h
  exact ⟨es, clock, s, bo, c0, hb.trans h1, h2, h3, hr.trans h4, h5⟩
theorem IterIs.grown {seen : List ByteArray} {cnt : Nat} {row : Option Nat} (h : IterIs w r b f m seen cnt) (hg : w.grownBy w' row) (hb : some b ≠ row) (hr : some r ≠ row) : IterIs w' r b f m seen cnt :=
  h.keep (hg.block b h.map_.lt hb) (hg.block r h.lt hr)
theorem run_iter (h : MapIs w b f m) (ht : P.underlying t = some (.map kt et)) :
    ∃ w', (Instr.range t (.map (some b))).run P w = .ok (.pointer (some ⟨w.heap.size, 0, none⟩)) w' ∧ IterIs w' w.heap.size b f m [] m.length ∧ w.grownBy w' none ∧ w'.heap.size = w.heap.size + 1 := by
  have hlt := h.lt
  obtain ⟨es, clock, hb, hst, he⟩ := h
  refine ⟨_, run_range_map w t kt et b es clock ht hb, ⟨es, clock, clock, #[], clock, ((MapKept.heap_alloc w _).2 b hlt).trans hb, hst, he, (MapKept.heap_alloc w _).1, hst.1, Nat.le_refl _, Nat.le_refl _, ?_, by simp⟩, World.grownBy_alloc w _ none, by simp⟩
  have := congrArg List.length he
  simp at this
  unfold leftOf
  rw [Array.filter_eq_self.2 (by simp)]
  exact this
theorem run_iter_next {seen : List ByteArray} {cnt : Nat} (h : IterIs w r b f m seen cnt) (ty : TypeId) :
    (cnt = 0 ∧ (∀ p ∈ m, p.1 ∈ seen) ∧ (Instr.next (.pointer (some ⟨r, 0, none⟩)) false ty).run P w = .ok (.tuple #[.bool false]) w) ∨
    ∃ k a w' cnt', (k, a) ∈ m ∧ k ∉ seen ∧ (Instr.next (.pointer (some ⟨r, 0, none⟩)) false ty).run P w = .ok (.tuple #[.bool true, .string k, f a]) w' ∧
      IterIs w' r b f m (k :: seen) cnt' ∧ cnt' < cnt ∧ w.grownBy w' (some r) ∧ w'.heap.size = w.heap.size ∧ (Instr.entry (.pointer (some ⟨r, 0, none⟩))).run P w' = .ok (.tuple #[.string k, f a]) w' := by
  obtain ⟨es, clock, since, bo, c0, hb, hst, he, hr, hold, hsc, hsk, hcnt, hseen⟩ := h
  have hne : r ≠ b := by
    intro e
    rw [e, hb] at hr
    cases hr
  have hin : ∀ x ∈ es.toList, ∃ p ∈ m, x.key = .string p.1 ∧ x.val = f p.2 := by
    intro x hx
    have : (x.key, x.val) ∈ es.toList.map (fun e => (e.key, e.val)) := List.mem_map.2 ⟨x, hx, rfl⟩
    rw [he] at this
    obtain ⟨p, hp, e⟩ := List.mem_map.1 this
    injection e with e1 e2
    exact ⟨p, hp, e1.symm, e2.symm⟩
  rcases run_next_at (P := P) w ty r b since c0 bo es clock hr hb hold hsc with ⟨h0, hrun⟩ | ⟨e, hem, w1, hw1, hrun⟩
  · left
    refine ⟨by omega, fun p hp => ?_, hrun⟩
    have : (Value.string p.1, f p.2) ∈ es.toList.map (fun e => (e.key, e.val)) := by rw [he]; exact List.mem_map.2 ⟨p, hp, rfl⟩
    obtain ⟨x, hx, ex⟩ := List.mem_map.1 this
    injection ex with e1 e2
    exact (hseen x hx p.1 e1).1 (all_seen es bo h0 x hx)
  · right
    obtain ⟨h1, h2⟩ := mem_left hem
    obtain ⟨p, hp, e1, e2⟩ := hin e h1
    have hr1 : w1.heap[r]? = some (.mapIter (some b) since bo c0) := by rcases hw1 with rfl | rfl <;> exact hr
    have hb1 : w1.heap[b]? = some (.map es clock) := by rcases hw1 with rfl | rfl <;> exact hb
    have hset := heap_set (o' := .mapIter (some b) since (bo.push e.born) clock) hr1
    have hb' : (setBlock w1 r (.mapIter (some b) since (bo.push e.born) clock)).heap[b]? = some (.map es clock) := (hset.2 b (fun e1 => hne e1.symm)).trans hb1
    refine ⟨p.1, p.2, _, (leftOf es (bo.push e.born)).size, hp, ?_, by rw [← e1, ← e2]; exact hrun, ⟨es, clock, since, bo.push e.born, clock, hb', hst, he, hset.1, hold, hsk, hsk, rfl, ?_⟩, ?_, ?_, ?_, ?_⟩
    · intro hk
      have := (hseen e h1 p.1 e1).2 hk
      rw [h2] at this
      cases this
    · intro x hx k hk
      rw [contains_push]
      constructor
      · intro hc
        rcases Bool.or_eq_true_iff.1 hc with hc | hc
        · exact List.mem_cons_of_mem _ ((hseen x hx k hk).1 hc)
        · have hbe : x.born = e.born := beq_iff_eq.1 hc
          have := born_inj hst.2.1 hx h1 hbe
          subst this
          rw [e1] at hk
          injection hk with hk
          simp [hk]
      · intro hc
        rcases List.mem_cons.1 hc with hc | hc
        · subst hc
          have hkk : x.key = e.key := by rw [hk, e1]
          have := entry_eq_of_key ((stamped_iff es clock).1 hst).2.2 hx h1 hkk
          subst this
          simp
        · rw [(hseen x hx k hk).2 hc, Bool.true_or]
    · rw [← hcnt]; exact left_shrinks es bo e hem
    · rcases hw1 with rfl | rfl <;> exact ⟨rfl, rfl, rfl, by simp [setBlock], fun i _ hi => hset.2 i (fun e1 => hi (by rw [e1]))⟩
    · rcases hw1 with rfl | rfl <;> simp [setBlock]
    · rw [← e1, ← e2]
      exact run_entry_at _ r b since bo es clock e hset.1 hb' h1 hst.2.1
end
end Go.Hw
