/- Plain words for a map that is held in memory: its pairs in the order in which they were laid, and what the operations do with them. The stream of numbers: what each of its functions hands out, and what becomes of memory. Stream.Flip. Stream.Pick. -/
import Derived.WalkKit
import Derived.Maps.RangeWalk
import Derived.Test.YtajifionclpphaaGreatDoorProg
import Derived.WalkSpells
import Derived.WalkLawsBesides
import Derived.BigQuiet
import Derived.Deep.QuietTactic
import Derived.Lib.Hide
namespace Go.Hw
open Go.MapKept Go.RowKit
open Go.ChangeMaps (setBlock)

/-! ### pairs -/
section
variable {α : Type}
def get (m : List (ByteArray × α)) (k : ByteArray) : Option α := (m.find? fun p => decide (p.1 = k)).map (·.2)
def put (m : List (ByteArray × α)) (k : ByteArray) (a : α) : List (ByteArray × α) :=
  if (get m k).isSome then m.map (fun p => if p.1 = k then (k, a) else p) else m ++ [(k, a)]
def Apart (m : List (ByteArray × α)) : Prop := (m.map (·.1)).Nodup

theorem get_nil (k : ByteArray) : get ([] : List (ByteArray × α)) k = none := rfl
theorem get_cons (p : ByteArray × α) (m : List (ByteArray × α)) (k : ByteArray) : get (p :: m) k = if p.1 = k then some p.2 else get m k := by
  unfold get
  rw [List.find?_cons]
  by_cases h : p.1 = k <;> simp [h]
theorem get_none {m : List (ByteArray × α)} {k : ByteArray} : get m k = none ↔ ∀ p ∈ m, p.1 ≠ k := by
  induction m with
  | nil => simp [get_nil]
  | cons p m ih =>
    rw [get_cons]
    by_cases h : p.1 = k <;> simp [h, ih]
theorem get_of_mem {m : List (ByteArray × α)} (hn : Apart m) {k : ByteArray} {a : α} (h : (k, a) ∈ m) : get m k = some a := by
  induction m with
  | nil => simp at h
  | cons p m ih =>
    unfold Apart at hn
    simp only [List.map_cons, List.nodup_cons] at hn
    rw [get_cons]
    rcases List.mem_cons.1 h with h | h
    · subst h; simp
    · have : p.1 ≠ k := by
        intro e
        exact hn.1 (e ▸ List.mem_map.2 ⟨(k, a), h, rfl⟩)
      simp [this]
      exact ih hn.2 h
end

/-! ### in memory -/
section
variable {α : Type}
/-- Block b of w is a map with string keys that holds the pairs m, elements written by f. -/
def MapIs (w : World) (b : Nat) (f : α → Value) (m : List (ByteArray × α)) : Prop :=
  ∃ es clock, w.heap[b]? = some (.map es clock) ∧ Stamped es clock ∧ es.toList.map (fun e => (e.key, e.val)) = m.map (fun p => (Value.string p.1, f p.2))

variable {w w' : World} {b : Nat} {f : α → Value} {m : List (ByteArray × α)}
theorem MapIs.lt (h : MapIs w b f m) : b < w.heap.size := by
  obtain ⟨es, clock, hb, _⟩ := h
  exact (Array.getElem?_eq_some_iff.1 hb).1
theorem MapIs.keep (h : MapIs w b f m) (hk : w'.heap[b]? = w.heap[b]?) : MapIs w' b f m := by
  obtain ⟨es, clock, hb, r⟩ := h
  exact ⟨es, clock, hk.trans hb, r⟩
theorem MapIs.grown {row : Option Nat} (h : MapIs w b f m) (hg : w.grownBy w' row) (hne : some b ≠ row) : MapIs w' b f m := h.keep (hg.block b h.lt hne)
theorem MapIs.below {B : Nat} (h : MapIs w b f m) (hg : Below B w w') (hb : b < B) : MapIs w' b f m := h.keep (hg.block b hb)
theorem MapIs.alloc (h : MapIs w b f m) (o : Obj) : MapIs (w.alloc o) b f m := h.keep (Below.heap_alloc w o b h.lt)
theorem MapIs.drew (h : MapIs w b f m) : MapIs w.drew b f m := h
theorem MapIs.setCell (h : MapIs w b f m) {a : Addr} (ha : b ≠ a.block) (u : Value) : MapIs (w.setCell a u) b f m := h.keep (Below.heap_setCell w a u b ha)
theorem MapIs.made (w : World) (f : α → Value) : MapIs (w.alloc (.map #[] 0)) w.heap.size f [] :=
  ⟨#[], 0, (MapKept.heap_alloc w _).1, stamped_empty 0, rfl⟩
theorem MapIs.keys (h : MapIs w b f m) : Apart m := by
  obtain ⟨es, clock, _, hst, he⟩ := h
  have h1 := congrArg (List.map Prod.fst) he
  simp only [List.map_map] at h1
  have h2 : (es.toList.map (·.key)) = m.map (fun p => Value.string p.1) := h1
  have h3 := hst.2.2
  rw [h2] at h3
  unfold Apart
  have h4 : (m.map (fun p => Value.string p.1)) = (m.map (·.1)).map Value.string := by simp
  rw [h4] at h3
  unfold List.Nodup at h3 ⊢
  rw [List.pairwise_map] at h3
  exact h3.imp fun h e => h (by rw [e])
theorem isKey_all {es : Array MapEntry} (he : es.toList.map (fun e => (e.key, e.val)) = m.map (fun p => (Value.string p.1, f p.2))) : ∀ x ∈ es.toList, IsKey .string x.key := by
  intro x hx
  have : (x.key, x.val) ∈ es.toList.map (fun e => (e.key, e.val)) := List.mem_map.2 ⟨x, hx, rfl⟩
  rw [he] at this
  obtain ⟨p, _, e⟩ := List.mem_map.1 this
  injection e with e1 e2
  rw [← e1]
  trivial
theorem find_split {es : Array MapEntry} (hn : Apart m) (he : es.toList.map (fun e => (e.key, e.val)) = m.map (fun p => (Value.string p.1, f p.2))) (k : ByteArray) :
    (Instr.findNow .string (.string k) es.toList 0 = some none ∧ get m k = none) ∨
    ∃ j e a, Instr.findNow .string (.string k) es.toList 0 = some (some (j, f a)) ∧ es[j]? = some e ∧ e.key = .string k ∧ e.val = f a ∧ get m k = some a ∧ m[j]? = some (k, a) := by
  rcases findNow_spec (d := .string) (k := .string k) trivial es.toList 0 (isKey_all he) with ⟨h1, h2⟩ | ⟨j, e, h1, h2, h3⟩
  · left
    refine ⟨h1, get_none.2 fun p hp hk => ?_⟩
    have : (Value.string p.1, f p.2) ∈ es.toList.map (fun e => (e.key, e.val)) := by rw [he]; exact List.mem_map.2 ⟨p, hp, rfl⟩
    obtain ⟨x, hx, ex⟩ := List.mem_map.1 this
    injection ex with e1 e2
    exact h2 x hx (by rw [e1, hk])
  · right
    have hj : (m.map (fun p => (Value.string p.1, f p.2)))[j]? = some (e.key, e.val) := by
      rw [← he, List.getElem?_map, h2]; rfl
    rw [List.getElem?_map] at hj
    cases hm : m[j]? with
    | none => rw [hm] at hj; cases hj
    | some p =>
      rw [hm] at hj
      simp only [Option.map_some] at hj
      injection hj with hj
      injection hj with e1 e2
      rw [h3] at e1
      injection e1 with e1
      have hp : p = (k, p.2) := by cases p; simp_all
      have hmem : (k, p.2) ∈ m := by rw [← hp]; exact List.mem_of_getElem? hm
      refine ⟨j, e, p.2, by rw [h1, ← e2]; simp, by simpa using h2, h3, e2.symm, get_of_mem hn hmem, by rw [hm, hp]⟩
end

/-! ### the operations -/
section
variable {α : Type} {P : Program} {w : World} {b : Nat} {f : α → Value} {m : List (ByteArray × α)} {t kt et : TypeId}
theorem run_get (h : MapIs w b f m) (ht : P.underlying t = some (.map kt et)) (hk : P.underlying kt = some .string) {z : Value} (hz : (zeroValue et).run P w = .ok z w) (k : ByteArray) :
    (Instr.lookup t (.map (some b)) (.string k) false).run P w = .ok (match get m k with | some a => f a | none => z) w := by
  have hn := h.keys
  obtain ⟨es, clock, hb, hst, he⟩ := h
  rcases find_split hn he k with ⟨h1, h2⟩ | ⟨j, e, a, h1, h3, h4, h5, h6, h7⟩
  · simp [Instr.lookup, run_underlying ht, MapKept.run_getObj_map hb, run_checkKey (k := .string k) hk trivial, run_findKey hk h1, hz, h2, Result.andThen]
  · simp [Instr.lookup, run_underlying ht, MapKept.run_getObj_map hb, run_checkKey (k := .string k) hk trivial, run_findKey hk h1, h6, Result.andThen]
end

/-! ### ranging over a map while other memory is written -/
section
variable {α : Type} {P : Program} {w w' : World} {b r : Nat} {f : α → Value} {m : List (ByteArray × α)} {t kt et : TypeId}
/-- Block r is an iterator over the map in block b, which holds m; the keys 'seen' have been handed out; cnt are still to come. -/
def IterIs (w : World) (r b : Nat) (f : α → Value) (m : List (ByteArray × α)) (seen : List ByteArray) (cnt : Nat) : Prop :=
  ∃ es clock since born c0, w.heap[b]? = some (.map es clock) ∧ Stamped es clock ∧ es.toList.map (fun e => (e.key, e.val)) = m.map (fun p => (Value.string p.1, f p.2)) ∧
    w.heap[r]? = some (.mapIter (some b) since born c0) ∧ (∀ x ∈ es.toList, x.born < since) ∧ since ≤ c0 ∧ since ≤ clock ∧ (leftOf es born).size = cnt ∧
    ∀ x ∈ es.toList, ∀ k, x.key = .string k → (born.contains x.born = true ↔ k ∈ seen)
theorem IterIs.map_ {seen : List ByteArray} {cnt : Nat} (h : IterIs w r b f m seen cnt) : MapIs w b f m := by
  obtain ⟨es, clock, _, _, _, h1, h2, h3, _⟩ := h
  exact ⟨es, clock, h1, h2, h3⟩
theorem IterIs.lt {seen : List ByteArray} {cnt : Nat} (h : IterIs w r b f m seen cnt) : r < w.heap.size := by
  obtain ⟨es, clock, _, _, _, h1, h2, h3, h4, _⟩ := h
  exact (Array.getElem?_eq_some_iff.1 h4).1
theorem IterIs.keep {seen : List ByteArray} {cnt : Nat} (h : IterIs w r b f m seen cnt) (hb : w'.heap[b]? = w.heap[b]?) (hr : w'.heap[r]? = w.heap[r]?) : IterIs w' r b f m seen cnt := by
  obtain ⟨es, clock, s, bo, c0, h1, h2, h3, h4, h5⟩ := h
  exact ⟨es, clock, s, bo, c0, hb.trans h1, h2, h3, hr.trans h4, h5⟩
theorem IterIs.grown {seen : List ByteArray} {cnt : Nat} {row : Option Nat} (h : IterIs w r b f m seen cnt) (hg : w.grownBy w' row) (hb : some b ≠ row) (hr : some r ≠ row) : IterIs w' r b f m seen cnt :=
  h.keep (hg.block b h.map_.lt hb) (hg.block r h.lt hr)
end
end Go.Hw

namespace Go.Proofs.YtajifionclpphaaGreatDoor
open Go.RowKit Go.Hw

theorem tmod_facts (x n : Int) (h0 : x < 0) (h1 : 1 ≤ n) : -n < x.tmod n ∧ x.tmod n ≤ 0 ∧ (x.tmod n < 0 → x % n = x.tmod n + n) ∧ (0 ≤ x.tmod n → x % n = x.tmod n) := by
  have e : x.tmod n = -((-x) % n) := by
    have := Int.neg_tmod (-x) n
    rw [Int.neg_neg] at this
    rw [this, Int.tmod_eq_emod_of_nonneg (by omega)]
  have hp := Int.emod_nonneg (-x) (show n ≠ 0 by omega)
  have hl := Int.emod_lt_of_pos (-x) (show 0 < n by omega)
  have hq := Int.mul_ediv_add_emod (-x) n
  refine ⟨by omega, by omega, fun h => ?_, fun h => ?_⟩
  · have : x = (x.tmod n + n) + n * (-((-x) / n) - 1) := by
      rw [e, Int.mul_sub, Int.mul_neg]; omega
    conv => lhs; rw [this, Int.add_mul_emod_self_left]
    exact Int.emod_eq_of_lt (by omega) (by omega)
  · have : x = (x.tmod n) + n * (-((-x) / n)) := by
      rw [e, Int.mul_neg]; omega
    conv => lhs; rw [this, Int.add_mul_emod_self_left]
    exact Int.emod_eq_of_lt (by omega) (by omega)
theorem ret_eq {k : IntKind} {a b : Int} (h : a = b) : Ending.returned (.int k a) = .returned (.int k b) := by rw [h]

theorem below_pos (x n : Int) (w : World) (hx : -9223372036854775808 ≤ x) (hx' : x ≤ 9223372036854775807) (h1 : 1 ≤ n) (hn : n ≤ 9223372036854775807) :
    Calls Tryz.prog 75 #[.int .i64 x, .int .i64 n] w fun e w' => e = .returned (.int .i64 (x % n)) ∧ w = w' := by
  have h1' : ¬ n < 1 := by omega
  by_cases h0 : 0 ≤ x
  · have h2 := Int.emod_nonneg x (show n ≠ 0 by omega)
    go_enter Tryz.func75, Tryz.ntmps75
    go_wp2
    go_ret
    exact ⟨rfl, rfl⟩
  · obtain ⟨f1, f2, f3, f4⟩ := tmod_facts x n (by omega) h1
    have F3 := Lib.hid f3
    have F4 := Lib.hid f4
    clear f3 f4
    go_enter Tryz.func75, Tryz.ntmps75
    go_wp2
    · have h5 : x.tmod n < 0 := by assumption
      go_ret
      exact ⟨ret_eq (F3.out h5).symm, rfl⟩
    · have h5 : 0 ≤ x.tmod n := by assumption
      go_ret
      exact ⟨ret_eq (F4.out h5).symm, rfl⟩

/-- Block b holds a stream over the numbers l, of which at_ have been handed out. -/
structure Str (w : World) (b : Nat) (A : Option Addr) (cap : Nat) (l : List Int) (at_ : Int) : Prop where
  cell : w.heap[b]? = some (.cells #[.slice A l.length cap, .int .i64 at_] 25 (0, 0))
  ints : ∀ i, i < l.length → ∃ g off, A = some ⟨g, off, none⟩ ∧ g < b ∧ w.cell? ⟨g, off + i, none⟩ = some (.int .i64 (l.getD i 0))
  fits : ∀ i, -9223372036854775808 ≤ l.getD i 0 ∧ l.getD i 0 ≤ 9223372036854775807
  long : l.length ≤ 17592186044416
  low : 0 ≤ at_
  high : at_ ≤ 1099511627776

/-- The number that is handed out. -/
def drawOf (l : List Int) (at_ n : Int) : Int :=
  if l = [] then ((at_ + 1) * 7919) % n
  else ((l.getD (at_ % l.length).toNat 0) % 1073741824 + (at_ / l.length) * (7919 + at_ % l.length)) % n
theorem draw_low (l : List Int) (at_ n : Int) (h : 1 ≤ n) : 0 ≤ drawOf l at_ n := by
  unfold drawOf; split <;> exact Int.emod_nonneg _ (by omega)
theorem draw_high (l : List Int) (at_ n : Int) (h : 1 ≤ n) : drawOf l at_ n < n := by
  unfold drawOf; split <;> exact Int.emod_lt_of_pos _ (by omega)

theorem Str.keep {w w' : World} {b : Nat} {A : Option Addr} {cap : Nat} {l : List Int} {at_ : Int} (h : Str w b A cap l at_) (hb : w'.heap[b]? = w.heap[b]?)
    (hk : ∀ p : Addr, p.block < b → w'.cell? p = w.cell? p) : Str w' b A cap l at_ :=
  { h with cell := hb.trans h.cell, ints := fun i hi => let ⟨g, off, h1, h2, h3⟩ := h.ints i hi; ⟨g, off, h1, h2, (hk _ h2).trans h3⟩ }
theorem Str.lt {w : World} {b : Nat} {A : Option Addr} {cap : Nat} {l : List Int} {at_ : Int} (h : Str w b A cap l at_) : b < w.heap.size := (Array.getElem?_eq_some_iff.1 h.cell).1
theorem Str.grown {w w' : World} {b : Nat} {A : Option Addr} {cap : Nat} {l : List Int} {at_ : Int} {row : Option Nat} (h : Str w b A cap l at_) (hg : w.grownBy w' row) (hr : ∀ k, row = some k → b < k) : Str w' b A cap l at_ :=
  h.keep (hg.block b h.lt (fun e => by have := hr b e.symm; omega)) fun p hp => World.cell?_of_block (hg.block p.block (by have := h.lt; omega) (fun e => by have := hr _ e.symm; omega))

theorem next_empty (b : Nat) (A : Option Addr) (cap : Nat) (at_ n : Int) (w : World) (h : Str w b A cap [] at_) (h1 : 1 ≤ n) (hn : n ≤ 9223372036854775807) :
    Calls Tryz.prog 32 #[.pointer (some ⟨b, 0, none⟩), .int .i64 n] w fun e w' => e = .returned (.int .i64 (drawOf [] at_ n)) ∧ w' = w.setCell ⟨b, 1, none⟩ (.int .i64 (at_ + 1)) := by
  have c0 : w.cell? ⟨b, 0, none⟩ = some (.slice A 0 cap) := by simp [World.cell?, h.cell]
  have c1 : w.cell? ⟨b, 1, none⟩ = some (.int .i64 at_) := by simp [World.cell?, h.cell]
  have f1 : w.frozen? ⟨b, 1, none⟩ = false := by simp [World.frozen?, h.cell]
  have l1 := h.low
  have l2 := h.high
  clear h
  go_enter Tryz.func32, Tryz.ntmps32
  go_wp2_with (go_at_call 75; refine (below_pos _ _ _ (by omega) (by omega) h1 hn).mono ?_; rintro e w' ⟨rfl, rfl⟩)
  go_ret
  exact ⟨ret_eq (by simp [drawOf]), rfl⟩

theorem round_bound (at_ : Int) (n : Nat) (h0 : 0 ≤ at_) (hn : 0 < n) : 0 ≤ at_ / n ∧ at_ / n ≤ at_ ∧ 0 ≤ at_ % n ∧ at_ % n < n ∧ 0 ≤ (at_ / n) * (7919 + at_ % n) ∧ (at_ / n) * (7919 + at_ % n) ≤ at_ * 7920 := by
  have h1 := Int.ediv_nonneg h0 (show (0 : Int) ≤ n by omega)
  have h2 := Int.ediv_le_self (n : Int) h0
  have h3 := Int.emod_nonneg at_ (show (n : Int) ≠ 0 by omega)
  have h4 := Int.emod_lt_of_pos at_ (show (0 : Int) < n by omega)
  have h5 := Int.mul_ediv_add_emod at_ n
  refine ⟨h1, h2, h3, h4, Int.mul_nonneg h1 (by omega), ?_⟩
  have h6 : (at_ / n) * (at_ % n) ≤ (at_ / n) * n := Int.mul_le_mul_of_nonneg_left (by omega) h1
  rw [Int.mul_add]
  rw [Int.mul_comm (n : Int)] at h5
  omega

set_option maxHeartbeats 400000 in
theorem next_full (b : Nat) (A : Option Addr) (cap : Nat) (l : List Int) (at_ n : Int) (w : World) (h : Str w b A cap l at_) (hl : l ≠ []) (h1 : 1 ≤ n) (hn : n ≤ 9223372036854775807) :
    Calls Tryz.prog 32 #[.pointer (some ⟨b, 0, none⟩), .int .i64 n] w fun e w' => e = .returned (.int .i64 (drawOf l at_ n)) ∧ ∃ k, w' = (w.setCell ⟨b, 1, none⟩ (.int .i64 (at_ + 1))).drewN k := by
  have c0 : w.cell? ⟨b, 0, none⟩ = some (.slice A l.length cap) := by simp [World.cell?, h.cell]
  have c1 : w.cell? ⟨b, 1, none⟩ = some (.int .i64 at_) := by simp [World.cell?, h.cell]
  have f1 : w.frozen? ⟨b, 1, none⟩ = false := by simp [World.frozen?, h.cell]
  have l1 := h.low
  have l2 := h.high
  have l3 := h.long
  have hp : 0 < l.length := List.length_pos_iff.2 hl
  obtain ⟨r1, r2, r3, r4, r5, r6⟩ := round_bound at_ l.length l1 hp
  obtain ⟨m, hm⟩ := Int.eq_ofNat_of_zero_le r3
  have hm' : m < l.length := by omega
  obtain ⟨g, off, rfl, hgb, hc⟩ := h.ints m hm'
  have hb := h.fits m
  generalize hx : l.getD m 0 = x at hc hb
  have hfin : drawOf l at_ n = (x % 1073741824 + (at_ / l.length) * (7919 + at_ % l.length)) % n := by
    unfold drawOf
    rw [if_neg hl, hm, Int.toNat_natCast, hx]
  have HF := Lib.hid hfin
  clear hfin
  have b0 := Int.emod_nonneg x (show (1073741824 : Int) ≠ 0 by omega)
  have b1 := Int.emod_lt_of_pos x (show (0 : Int) < 1073741824 by omega)
  have hcx : w.cell? ⟨g, off + (at_ % (l.length : Int)).toNat, none⟩ = some (.int .i64 x) := by rw [hm, Int.toNat_natCast]; exact hc
  clear h hx
  have Hm := Lib.hid hm
  clear hm
  go_enter Tryz.func32, Tryz.ntmps32
  clear hc
  go_wp2_with fail
  go_quiet (fail)
  go_wp2_with fail
  go_quiet (fail)
  go_wp2_with fail
  refine (below_pos _ _ _ hb.1 hb.2 (by omega) (by omega)).mono ?_
  rintro e w' ⟨rfl, rfl⟩
  go_wp2_with fail
  refine (below_pos _ _ _ (by omega) (by omega) h1 hn).mono ?_
  rintro e w' ⟨rfl, rfl⟩
  go_wp2_with fail
  go_ret
  exact ⟨ret_eq HF.out.symm, _, rfl⟩

theorem next_any (b : Nat) (A : Option Addr) (cap : Nat) (l : List Int) (at_ n : Int) (w : World) (h : Str w b A cap l at_) (h1 : 1 ≤ n) (hn : n ≤ 9223372036854775807) (hh : at_ < 1099511627776) :
    Calls Tryz.prog 32 #[.pointer (some ⟨b, 0, none⟩), .int .i64 n] w fun e w' => e = .returned (.int .i64 (drawOf l at_ n)) ∧ Str w' b A cap l (at_ + 1) ∧ w.grownBy w' (some b) := by
  have hs : ∀ k, Str ((w.setCell ⟨b, 1, none⟩ (.int .i64 (at_ + 1))).drewN k) b A cap l (at_ + 1) ∧ w.grownBy ((w.setCell ⟨b, 1, none⟩ (.int .i64 (at_ + 1))).drewN k) (some b) := by
    intro k
    have hh' : ((w.setCell ⟨b, 1, none⟩ (.int .i64 (at_ + 1))).drewN k).heap = (w.setCell ⟨b, 1, none⟩ (.int .i64 (at_ + 1))).heap := rfl
    refine ⟨{ h with cell := ?_, ints := fun i hi => ?_, low := by have := h.low; omega, high := by omega }, ⟨rfl, rfl, rfl, by rw [hh']; simp [World.setCell], fun i _ hi => ?_⟩⟩
    · rw [hh']
      simp [World.setCell, Array.getElem?_modify, h.cell]
    · obtain ⟨g, off, h1, h2, h3⟩ := h.ints i hi
      refine ⟨g, off, h1, h2, ?_⟩
      have : ((w.setCell ⟨b, 1, none⟩ (.int .i64 (at_ + 1))).drewN k).cell? ⟨g, off + i, none⟩ = (w.setCell ⟨b, 1, none⟩ (.int .i64 (at_ + 1))).cell? ⟨g, off + i, none⟩ := rfl
      rw [this, World.cell?_setCell_other _ _ _ _ (by intro e; injection e; omega)]
      exact h3
    · rw [hh']
      exact Below.heap_setCell w _ _ i (fun e => hi (by rw [e]))
  by_cases hl : l = []
  · subst hl
    exact (next_empty b A cap at_ n w h h1 hn).mono fun e w' ⟨he, hw⟩ => ⟨he, by rw [hw]; exact hs 0⟩
  · exact (next_full b A cap l at_ n w h hl h1 hn).mono fun e w' ⟨he, k, hw⟩ => ⟨he, by rw [hw]; exact hs k⟩

theorem grown_alloc_then {w w' : World} {b : Nat} {o : Obj} (h : (w.alloc o).grownBy w' (some b)) : w.grownBy w' (some b) :=
  (World.grownBy_alloc w o (some b)).andThen h (fun _ h => .inr h)
theorem Str.alloc {w : World} {b : Nat} {A : Option Addr} {cap : Nat} {l : List Int} {at_ : Int} (h : Str w b A cap l at_) (o : Obj) : Str (w.alloc o) b A cap l at_ :=
  h.grown (World.grownBy_alloc w o none) (fun k e => by cases e)

end Go.Proofs.YtajifionclpphaaGreatDoor

namespace Go.Proofs.YtajifionclpphaaGreatDoor
open Go.RowKit Go.Hw

theorem flip_any (b : Nat) (A : Option Addr) (cap : Nat) (l : List Int) (at_ n : Int) (w : World) (h : Str w b A cap l at_) (h1 : 1 ≤ n) (hn : n ≤ 9223372036854775807) (hh : at_ < 1099511627776) :
    Calls Tryz.prog 50 #[.pointer (some ⟨b, 0, none⟩), .int .i64 n] w fun e w' => e = .returned (.bool (drawOf l at_ n == 0)) ∧ Str w' b A cap l (at_ + 1) ∧ w.grownBy w' (some b) := by
  go_enter Tryz.func50, Tryz.ntmps50
  go_wp2_with fail
  refine (next_any b A cap l at_ n _ h h1 hn hh).mono ?_
  rintro e w' ⟨rfl, hs, hg⟩
  clear h
  go_wp2_with fail
  go_ret
  exact ⟨rfl, hs, hg⟩

end Go.Proofs.YtajifionclpphaaGreatDoor

namespace Go.Proofs.YtajifionclpphaaGreatDoor
open Go.RowKit Go.Hw

/-- The cells of a literal slice lie in a block of their own. -/
theorem pick_any (b : Nat) (A : Option Addr) (cap : Nat) (l : List Int) (at_ : Int) (w : World) (h : Str w b A cap l at_) (hh : at_ < 1099511627776)
    (g : Nat) (vs : List Int) (hg : w.heap[g]? = some (.cells (vs.map (Value.int .i64)).toArray 3 (0, 0))) (hgb : g ≠ b) (hv : vs ≠ []) (hl : vs.length ≤ 1000000) (n c : Nat) (hn : n = vs.length) :
    Calls Tryz.prog 49 #[.pointer (some ⟨b, 0, none⟩), .slice (some ⟨g, 0, none⟩) n c] w fun e w' => e = .returned (.int .i64 (vs.getD (drawOf l at_ vs.length).toNat 0)) ∧ Str w' b A cap l (at_ + 1) ∧ w.grownBy w' (some b) := by
  subst hn
  have hp : 0 < vs.length := List.length_pos_iff.2 hv
  have d1 := draw_low l at_ vs.length (by omega)
  have d2 := draw_high l at_ vs.length (by omega)
  go_enter Tryz.func49, Tryz.ntmps49
  go_wp2_with fail
  refine (next_any b A cap l at_ _ _ h (by omega) (by omega) hh).mono ?_
  rintro e w' ⟨rfl, hs, hgr⟩
  have hc : w'.cell? ⟨g, (drawOf l at_ vs.length).toNat, none⟩ = some (.int .i64 (vs.getD (drawOf l at_ vs.length).toNat 0)) := by
    have hb : w'.heap[g]? = w.heap[g]? := hgr.block g (Array.getElem?_eq_some_iff.1 hg).1 (by intro e; injection e with e; exact hgb e)
    rw [World.cell?_of_block (w := w) hb]
    have hk : (drawOf l at_ vs.length).toNat < vs.length := by omega
    simp [World.cell?, hg, List.getElem?_eq_getElem hk]
  generalize hx : vs.getD (drawOf l at_ vs.length).toNat 0 = x at *
  have HX := Lib.hid hx
  generalize drawOf l at_ vs.length = d at hc d1 d2 ⊢
  clear h hg hx
  go_wp2_with fail
  go_ret
  exact ⟨ret_eq HX.out.symm, hs, hgr⟩
end Go.Proofs.YtajifionclpphaaGreatDoor
