/- Records in memory. -/
import Derived.Test.YtedpjecbfcogcaaGreatDoorRwB
import Derived.Test.YtedpjecbfcogcaaGreatDoorCaA
import Derived.OwnWalk
namespace Go.Proofs.YtedpjecbfcogcaaGreatDoor
open Go.RowKit Go.Hw

def rcC (e : Rec) : List Value := [.string e.name, .int .i64 e.kind, .bool e.six, .int .u64 e.hi, .int .u64 e.lo, .string e.to, .string e.words, .int .i64 e.life]
theorem rcC_len (e : Rec) : (rcC e).length = 8 := rfl
abbrev rcAt (w : World) (A : Option Addr) (L : List Rec) : Prop := RwAt rcC 8 noRec w A L
abbrev rcOwn (w : World) (base : Nat) (v : Value) (L : List Rec) : Prop := w.ownsRow base 50 8 v L.length (rwC rcC L)
theorem rc_cells {w : World} {g o : Nat} {e : Rec} (h : RwCells w g o (rcC e)) : w.cell? ⟨g, o, none⟩ = some (.string e.name) ∧ w.cell? ⟨g, o + 1, none⟩ = some (.int .i64 e.kind) ∧ w.cell? ⟨g, o + 2, none⟩ = some (.bool e.six) ∧ w.cell? ⟨g, o + 3, none⟩ = some (.int .u64 e.hi) ∧ w.cell? ⟨g, o + 4, none⟩ = some (.int .u64 e.lo) ∧ w.cell? ⟨g, o + 5, none⟩ = some (.string e.to) ∧ w.cell? ⟨g, o + 6, none⟩ = some (.string e.words) ∧ w.cell? ⟨g, o + 7, none⟩ = some (.int .i64 e.life) := ⟨h 0 _ rfl, h 1 _ rfl, h 2 _ rfl, h 3 _ rfl, h 4 _ rfl, h 5 _ rfl, h 6 _ rfl, h 7 _ rfl⟩

/-- What is asked of a closure over these structs. -/
def rcPred (g : Nat) (lb : Array Value) (p : Rec → Bool) (L : List Rec) (w : World) : Prop :=
  ∀ (W : World) (e : Rec), e ∈ L → Below w.heap.size w W → Calls Tryz.prog g (#[.agg #[.string e.name, .int .i64 e.kind, .bool e.six, .int .u64 e.hi, .int .u64 e.lo, .string e.to, .string e.words, .int .i64 e.life]] ++ lb) W fun en w' => en = .returned (.bool (p e)) ∧ Below W.heap.size W w'

theorem rc_info : (Tryz.prog.info? 50).map (fun i => (i.zero, i.size, i.bytes)) = some (some (.agg #[.string ⟨#[]⟩, .int .i64 0, .bool false, .int .u64 0, .int .u64 0, .string ⟨#[]⟩, .string ⟨#[]⟩, .int .i64 0]), 8, 88) := by kernel_rfl
theorem rcC_one (e : Rec) : ∀ u ∈ rcC e, u.oneCell' = true := by
  intro u hu
  simp only [rcC, List.mem_cons, List.not_mem_nil, or_false] at hu
  rcases hu with rfl | rfl | rfl | rfl | rfl | rfl | rfl | rfl <;> rfl
theorem rcs_one (L : List Rec) : ∀ u ∈ rwC rcC L, u.oneCell' = true := by
  intro u hu
  obtain ⟨x, _, hx⟩ := List.mem_flatMap.1 hu
  exact rcC_one x u hx
/-- Cells of a row, one after the other. -/
theorem rc_flat {w : World} {b off : Nat} {L : List Rec} (h : rcAt w (some ⟨b, off, none⟩) L) (j : Nat) (u : Value) (hu : (rwC rcC L)[j]? = some u) : w.cell? ⟨b, off + j, none⟩ = some u := by
  have hj := (List.getElem?_eq_some_iff.1 hu).1
  rw [rwC_length rcC_len] at hj
  have hi : j / 8 < L.length := by omega
  obtain ⟨g, off', e, _, hc⟩ := h (j / 8) hi
  injection e with e
  simp only [Addr.mk.injEq, and_true] at e
  obtain ⟨rfl, rfl⟩ := e
  have hm : j = j / 8 * 8 + j % 8 := by omega
  rw [hm, rwC_at (d := noRec) rcC_len L _ _ hi (by omega)] at hu
  have := hc (j % 8) u hu
  rwa [Nat.add_assoc, ← hm] at this

set_option maxHeartbeats 2000000 in
set_option maxRecDepth 100000 in
/-- slices.Clone of a row. -/
theorem rc_clone (A : Option Addr) (cap : Nat) (L : List Rec) (w : World) (h : rcAt w A L) (h0 : A = none → L = []) (hl : L.length ≤ 1000000) :
    Calls Tryz.prog 23 #[.slice A L.length cap] w fun e w' => ∃ v, e = .returned v ∧ rcOwn w' w.heap.size v L ∧ Below w.heap.size w w' := by
  rcases A with _ | ⟨b, off, sp⟩
  · obtain rfl := h0 rfl
    have hq : ∀ (w : World) (n : Nat), (binOp .eql 36 (.slice none n cap) (.slice none 0 0)).run Tryz.prog w = .ok (.bool true) w := fun w n => Lib.run_eql_slice_nil w _ _ none n cap 0 0 Tryz.underlying36
    go_enter Tryz.func23, Tryz.ntmps23
    go_wp2_with fail
    go_ret
    exact ⟨_, rfl, World.ownsRow_nil _ _ _ _, Below.refl _ _⟩
  · obtain ⟨i0, hi, hz0, hz1, hz2⟩ := info_parts rc_info
    have hsp : sp = none ∨ L = [] := by
      rcases Nat.eq_zero_or_pos L.length with h1 | h1
      · exact .inr (List.length_eq_zero_iff.1 h1)
      · obtain ⟨g, off', e, _⟩ := h 0 h1
        injection e with e
        injection e with _ _ e
        exact .inl e
    have hq : ∀ (w : World), (binOp .eql 36 (.slice (some ⟨b, off, sp⟩) L.length cap) (.slice none 0 0)).run Tryz.prog w = .ok (.bool false) w := fun w => Lib.run_eql_slice_nil w _ _ _ _ _ 0 0 Tryz.underlying36
    have hc : ∀ j u, (rwC rcC L)[j]? = some u → w.cell? ((⟨b, off, sp⟩ : Addr).add j) = some u := by
      intro j u hu
      rcases hsp with rfl | rfl
      · rw [Addr.add_lit]
        exact rc_flat h j u hu
      · simp [rwC] at hu
    have H := Lib.hid hc
    have hz : (rwC rcC L).length = L.length * 8 := rwC_length rcC_len L
    have ho := rcs_one L
    clear h hc
    generalize hcs : rwC rcC L = cs at *
    go_enter Tryz.func23, Tryz.ntmps23
    go_wp2_with (at_builtin; refine wpList_append_own _ rfl _ _ 36 rfl w.heap.size 50 i0 (.agg #[.string ⟨#[]⟩, .int .i64 0, .bool false, .int .u64 0, .int .u64 0, .string ⟨#[]⟩, .string ⟨#[]⟩, .int .i64 0]) 8 88 Tryz.underlying36 hi hz0 hz1 hz2 rfl (by decide) _ _ _ rfl (World.ownsRow_made w #[] 0 (Nat.le_refl _) (Nat.zero_le _) rfl) ⟨b, off, sp⟩ L.length cap cs rfl ?qc1 ?qc2 ?qc3 ?qc4 ?qc5 ?qc6 ?_)
    case qc1 => exact hz
    case qc2 => exact fun j u hu => Lib.cell?_alloc_some _ (H.out j u hu)
    case qc3 => exact ho
    case qc4 => unfold maxLen; omega
    case qc5 => omega
    case qc6 => simp
    intro v' w1 hown hgrow hnil
    go_wp2_with fail
    go_ret
    refine ⟨v', rfl, by unfold rcOwn; rw [hcs]; simpa using hown, ?_⟩
    exact ((Below.refl _ w).alloc (Nat.le_refl _) _).grown hgrow (by simp) (by intro k hk; simp [Value.ownBlock] at hk; omega)

end Go.Proofs.YtedpjecbfcogcaaGreatDoor
