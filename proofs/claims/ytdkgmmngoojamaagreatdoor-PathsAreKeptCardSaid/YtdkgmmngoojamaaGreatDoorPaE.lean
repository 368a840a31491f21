/- route.choose. -/
import Derived.Test.YtdkgmmngoojamaaGreatDoorPaA
import Derived.Test.YtdkgmmngoojamaaGreatDoorDistances
namespace Go.Proofs.YtdkgmmngoojamaaGreatDoor
open Go.RowKit Go.Hw Go.Shelf

theorem Tryz.zeroInt (w : World) : (zeroValue 3).run Tryz.prog w = .ok (.int .i64 0) w := by kernel_rfl
theorem run_int {w : World} {b : Nat} {m : List (ByteArray × Int)} (h : MapIs w b (Value.int .i64) m) (u : ByteArray) :
    (Instr.lookup 145 (.map (some b)) (.string u) false).run Tryz.prog w = .ok (.int .i64 ((get m u).getD 0)) w := by
  rw [run_get h (P := Tryz.prog) Tryz.underlying145 Tryz.underlying9 (Tryz.zeroInt _) u]
  cases get m u <;> rfl
theorem run_int_ok {w : World} {b : Nat} {m : List (ByteArray × Int)} (h : MapIs w b (Value.int .i64) m) (u : ByteArray) :
    (Instr.lookup 145 (.map (some b)) (.string u) true).run Tryz.prog w = .ok (.tuple #[.int .i64 ((get m u).getD 0), .bool (get m u).isSome]) w := by
  rw [run_get_ok h (P := Tryz.prog) Tryz.underlying145 Tryz.underlying9 (Tryz.zeroInt _) u]
  cases get m u <;> rfl
/-- What has been picked of what was handed out. -/
def BestOf (m : List (ByteArray × Int)) (seen : List ByteArray) (a : ByteArray) : Prop := (a = ⟨#[]⟩ ∧ seen = []) ∨ (a.size ≠ 0 ∧ ∃ n, get m a = some n)
def ChI (w : World) (b : Nat) (m : List (ByteArray × Int)) (k : Nat) (v7 : Value) (wi : World) : Prop :=
  ∃ seen a, v7 = .string a ∧ IterIs wi w.heap.size b (Value.int .i64) m seen k ∧ Below w.heap.size w wi ∧ BestOf m seen a
theorem str_ne {s : ByteArray} (h : s.size ≠ 0) : ¬ s.toList = [] ∧ s.toList.isEmpty = false := by
  have h1 : ¬ s.toList = [] := fun e => h (size_of_nil e)
  exact ⟨h1, by cases e : s.toList <;> simp_all⟩

set_option maxRecDepth 100000 in
set_option maxHeartbeats 1000000 in
theorem choose_any (b : Nat) (m : List (ByteArray × Int)) (now : ByteArray) (gain : Int) (w : World) (h : MapIs w b (Value.int .i64) m) (hk : ∀ p ∈ m, p.1.size ≠ 0 ∧ (0 ≤ p.2 ∧ p.2 ≤ 1000000)) (hg : 0 ≤ gain ∧ gain ≤ 1000000) :
    Calls Tryz.prog 80 #[.map (some b), .string now, .int .i64 gain] w fun e w' => ∃ r, e = .returned (.string r) ∧ Chosen (get m) gain now r ∧ Below w.heap.size w w' := by
  have HK := Lib.hid hk
  have hlt := h.lt
  obtain ⟨w2, hrange, hIt, hg2, _⟩ := run_iter h (P := Tryz.prog) Tryz.underlying145
  clear hk h
  go_enter Tryz.func80, Tryz.ntmps80
  go_wp2_with fail
  go_loopg [7] (m.length) (fun k v7 wi => ChI w b m k v7 wi)
  case atStart => exact ⟨[], ⟨#[]⟩, rfl, hIt, (Below.refl _ _).grown hg2 (Nat.le_refl _) (fun j hj => by cases hj), .inl ⟨rfl, rfl⟩⟩
  case round =>
    clear hrange hIt hg2
    obtain ⟨seen, a, rfl, hIt, hb, hB⟩ := hrel
    rcases run_iter_next hIt (P := Tryz.prog) 0 with ⟨h0, hall, hrun⟩ | ⟨u, d, w3, k', hmem, hns, hrun, hIt', hlt', hg3, _, hent⟩
    · have hM := hIt.map_
      have hok := run_int_ok hM now
      have hlk := run_int hM a
      clear hIt h0
      rcases hB with ⟨rfl, rfl⟩ | ⟨ha, n, hn⟩
      · have hm : m = [] := by
          cases m with
          | nil => rfl
          | cons p m => exact absurd (hall p (by simp)) (by simp)
        subst hm
        rw [get_nil] at hok
        have HC : Hid (Chosen (get ([] : List (ByteArray × Int))) gain now ⟨#[]⟩) := Lib.hid (.inl ⟨rfl, fun p => get_nil p⟩)
        simp only [Option.getD_none, Option.isSome_none] at hok
        clear hall
        go_wp2_with fail
        go_ret
        exact ⟨_, rfl, HC.out, hb⟩
      · rw [hn, Option.getD_some] at hlk
        have hnb := (HK.out _ (get_mem hn)).2
        simp only at hnb
        cases ho : get m now with
        | none =>
          rw [ho] at hok
          have HC : Hid (Chosen (get m) gain now a) := Lib.hid (.inr ⟨ha, n, hn, fun old h => by rw [ho] at h; cases h⟩)
          simp only [Option.getD_none, Option.isSome_none] at hok
          clear hall hn ho
          go_wp2_with fail
          go_ret
          exact ⟨_, rfl, HC.out, hb⟩
        | some old =>
          rw [ho] at hok
          have hob := HK.out _ (get_mem ho)
          simp only at hob
          obtain ⟨hnz, hob⟩ := hob
          by_cases hgn : old - n < gain
          · have HC : Hid (Chosen (get m) gain now now) := Lib.hid (.inr ⟨hnz, old, ho, fun _ _ hne => absurd rfl hne⟩)
            simp only [Option.getD_some, Option.isSome_some] at hok
            clear hall hn ho
            go_wp2_with fail
            go_ret
            exact ⟨_, rfl, HC.out, hb⟩
          · have HC : Hid (Chosen (get m) gain now a) := Lib.hid (.inr ⟨ha, n, hn, fun o2 h _ => by rw [ho] at h; injection h with h; omega⟩)
            simp only [Option.getD_some, Option.isSome_some] at hok
            clear hall hn ho
            go_wp2_with fail
            go_ret
            exact ⟨_, rfl, HC.out, hb⟩
    · have hb3 : Below w.heap.size w w3 := hb.grown hg3 hb.size (fun j hj => by injection hj with hj; omega)
      have hu := HK.out _ hmem
      simp only at hu
      obtain ⟨huz, hub⟩ := hu
      have hgu := get_of_mem hIt'.map_.keys hmem
      have HBU : Hid (BestOf m (u :: seen) u) := Lib.hid (.inr ⟨huz, d, hgu⟩)
      have HIT := Lib.hid hIt'
      have hlk := run_int hIt'.map_ a
      clear hIt hb hg3 hIt' hgu hmem hns
      rcases hB with ⟨rfl, rfl⟩ | ⟨ha, n, hn⟩
      · clear hlk
        go_wp2_with fail
        go_roundg k'
        case measure => exact hlt'
        case rel => exact ⟨_, u, rfl, HIT.out, hb3, HBU.out⟩
      · obtain ⟨a1, a2⟩ := str_ne ha
        rw [hn, Option.getD_some] at hlk
        have HBA : Hid (BestOf m (u :: seen) a) := Lib.hid (.inr ⟨ha, n, hn⟩)
        clear hn
        go_wp2_with fail
        all_goals
          go_roundg k'
          case measure => exact hlt'
          case rel => first | exact ⟨_, u, rfl, HIT.out, hb3, HBU.out⟩ | exact ⟨_, a, rfl, HIT.out, hb3, HBA.out⟩
end Go.Proofs.YtdkgmmngoojamaaGreatDoor
