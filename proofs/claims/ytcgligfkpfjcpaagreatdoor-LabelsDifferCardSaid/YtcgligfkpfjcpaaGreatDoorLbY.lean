/- name.wishesFault; laneref1.WishesFault. PRINTED by gen_lby.py. -/
import Derived.Test.YtcgligfkpfjcpaaGreatDoorLbX
namespace Go.Proofs.YtcgligfkpfjcpaaGreatDoor
open Go.RowKit Go.Hw Go.Shelf

def leB (a b : ByteArray) : Bool := Op.bytesLess a.toList b.toList || a.toList == b.toList
def GoodAt (ws : List Wi) (i : Nat) : Prop := isKey (ws.getD i noWi).node = true ∧ (0 < i → leB (ws.getD i noWi).node (ws.getD (i - 1) noWi).node = false) ∧ (ws.getD i noWi).name.size ≤ 200 ∧ isMom (ws.getD i noWi).joined = true
def GoodW (ws : List Wi) : Prop := ∀ i, i < ws.length → GoodAt ws i
def wiObj (x : Wi) : Obj := .cells #[.string x.node, .string x.name, .int .i64 x.joined] 36 (0, 0)
theorem below_drewN {n : Nat} {w w' : World} (h : Below n w w') (m : Nat) : Below n w (w'.drewN m) := ⟨h.os, h.tape, h.output, h.size, h.block⟩
theorem good_step {ws : List Wi} {k : Nat} (h : ∀ i, i < k → GoodAt ws i) (hk : GoodAt ws k) : ∀ i, i < k + 1 → GoodAt ws i := fun i hi => by
  by_cases e : i = k
  · rw [e]; exact hk
  · exact h i (by omega)
set_option maxRecDepth 100000 in
set_option maxHeartbeats 1000000 in
theorem wishesFault_iff (A : Option Addr) (cap : Nat) (ws : List Wi) (w : World) (h : wsAt w A ws) (hl : ws.length ≤ 500) (hn : ∀ x ∈ ws, x.node.size ≤ maxLen) :
    Calls Tryz.prog 24 #[.slice A ws.length cap] w fun e w' => ∃ c : Int, e = .returned (.int .i64 c) ∧ (c = 0 ↔ GoodW ws) ∧ Below w.heap.size w w' := by
  go_enter Tryz.func24, Tryz.ntmps24
  have hg5 : decide ((ws.length : Int) > 500) = false := by simp; omega
  go_wp2_with fail
  go_loopw [10] (fun v wr => ∃ k : Nat, k ≤ ws.length ∧ v = .int .i64 k ∧ Below w.heap.size w wr ∧ (∀ i, i < k → GoodAt ws i)) (fun v _ => ws.length - (intOf v).toNat)
  case atStart => exact ⟨0, by omega, rfl, Below.refl _ _, fun i hi => absurd hi (by omega)⟩
  case round =>
    obtain ⟨k, hk, rfl, hb, hf⟩ := hrel
    have HF := Lib.hid hf
    clear hf
    by_cases hlt : k < ws.length
    · have hlr := h.below hb
      obtain ⟨g5, off, rfl, hgB, hcc⟩ := hlr k hlt
      obtain ⟨c0, c1, c2⟩ := ws_cells hcc
      have hnx := hn _ (rw_mem (d := noWi) hlt)
      generalize hx : ws.getD k noWi = x at *
      have HX := Lib.hid hx
      have HB := Lib.hid hb
      clear hx
      have hd : decide ((k : Int) < (ws.length : Int)) = true := by simp; omega
      clear hcc
      have q0 : (wr.alloc (wiObj x)).cell? ⟨wr.heap.size, 0, none⟩ = some (.string x.node) := by unfold wiObj; go_simp
      have q1 : (wr.alloc (wiObj x)).cell? ⟨wr.heap.size, 1, none⟩ = some (.string x.name) := by unfold wiObj; go_simp
      have q2 : (wr.alloc (wiObj x)).cell? ⟨wr.heap.size, 2, none⟩ = some (.int .i64 x.joined) := by unfold wiObj; go_simp
      have HBA : Hid (Below w.heap.size w (wr.alloc (wiObj x))) := Lib.hid (hb.alloc hb.size (wiObj x))
      have hkk := isKey_any x.node (wr.alloc (wiObj x)) hnx
      unfold wiObj at hkk q0 q1 q2
      by_cases h0 : k = 0
      · have z0 : decide (0 < k) = false := by simp [h0]
        have HG : Hid (GoodAt ws k ↔ (isKey x.node = true ∧ x.name.size ≤ 200 ∧ isMom x.joined = true)) := Lib.hid (by unfold GoodAt; rw [HX.out]; simp [h0])
        clear hb hlr h h0
        go_wp2_with fail
        refine hkk.mono ?_
        rintro e w1 ⟨rfl, rfl⟩
        have HBB := HBA
        cases h1 : isKey x.node
        · go_wp2_with fail
          go_ret
          exact ⟨_, rfl, ⟨fun hc => absurd hc (by decide), fun hg => absurd (HG.out.1 (hg k hlt)).1 (by rw [h1]; decide)⟩, HBB.out⟩
        · skip
          by_cases hs : x.name.size ≤ 200
          · have hs' : decide (200 < (x.name.size : Int)) = false := by simp; omega
            have HS : Hid (x.name.size ≤ 200) := Lib.hid hs
            clear hs
            go_wp2_with fail
            go_quiet (fail)
            go_wp2_with fail
            refine (isMom_any _ _).mono ?_
            rintro e w2 ⟨rfl, rfl⟩
            cases h4 : isMom x.joined
            · go_wp2_with fail
              go_ret
              exact ⟨_, rfl, ⟨fun hc => absurd hc (by decide), fun hg => absurd (HG.out.1 (hg k hlt)).2.2 (by rw [h4]; decide)⟩, below_drewN HBB.out _⟩
            · go_wp2_with fail
              go_roundw
              case rel => exact ⟨k + 1, by omega, by go_num, below_drewN HBB.out _, good_step HF.out (HG.out.2 ⟨h1, HS.out, h4⟩)⟩
              case measure => simp [intOf]; omega
          · have hs' : decide (200 < (x.name.size : Int)) = true := by simp; omega
            have HS : Hid (¬ x.name.size ≤ 200) := Lib.hid hs
            clear hs
            go_wp2_with fail
            go_quiet (fail)
            go_wp2_with fail
            go_ret
            exact ⟨_, rfl, ⟨fun hc => absurd hc (by decide), fun hg => absurd (HG.out.1 (hg k hlt)).2.1 HS.out⟩, below_drewN HBB.out _⟩
      · have hk1 : k - 1 < ws.length := by omega
        obtain ⟨g6, off6, e6, -, hcc6⟩ := hlr (k - 1) hk1
        injection e6 with e6
        injection e6 with e61 e62
        subst e61 e62
        obtain ⟨p0, -, -⟩ := ws_cells hcc6
        clear hcc6
        have z0 : decide (0 < k) = true := by simp; omega
        have s1 : (1 : Int) ≤ (k : Int) := by omega
        have s0 : IntKind.i64.wrap ((k : Int) - 1) = (k : Int) - 1 := IntWalk.i64_in _ (by omega)
        have s2 : ((k : Int) - 1).toNat = k - 1 := by omega
        have s3 : (k : Int) - 1 < (ws.length : Int) := by omega
        generalize hy : ws.getD (k - 1) noWi = y at *
        have HG : Hid (GoodAt ws k ↔ (isKey x.node = true ∧ leB x.node y.node = false ∧ x.name.size ≤ 200 ∧ isMom x.joined = true)) := Lib.hid (by unfold GoodAt; rw [HX.out, hy]; simp; omega)
        clear hb hlr h h0 hy
        replace p0 : (wr.alloc (.cells #[.string x.node, .string x.name, .int .i64 x.joined] 36 (0, 0))).cell? ⟨g5, off + (k - 1) * 3, none⟩ = some (.string y.node) := by go_simp
        go_wp2_with fail
        refine hkk.mono ?_
        rintro e w1 ⟨rfl, rfl⟩
        have HBB := HBA
        cases h1 : isKey x.node
        · go_wp2_with fail
          go_ret
          exact ⟨_, rfl, ⟨fun hc => absurd hc (by decide), fun hg => absurd (HG.out.1 (hg k hlt)).1 (by rw [h1]; decide)⟩, HBB.out⟩
        · cases h5 : leB x.node y.node
          · replace HG : Hid (GoodAt ws k ↔ (isKey x.node = true ∧ x.name.size ≤ 200 ∧ isMom x.joined = true)) := Lib.hid (by rw [HG.out, h5]; simp)
            unfold leB at h5
            rw [Bool.or_eq_false_iff] at h5
            obtain ⟨h5a, h5b⟩ := h5
            by_cases hs : x.name.size ≤ 200
            · have hs' : decide (200 < (x.name.size : Int)) = false := by simp; omega
              have HS : Hid (x.name.size ≤ 200) := Lib.hid hs
              clear hs
              go_wp2_with fail
              go_quiet (fail)
              go_wp2_with fail
              refine (isMom_any _ _).mono ?_
              rintro e w2 ⟨rfl, rfl⟩
              cases h4 : isMom x.joined
              · go_wp2_with fail
                go_ret
                exact ⟨_, rfl, ⟨fun hc => absurd hc (by decide), fun hg => absurd (HG.out.1 (hg k hlt)).2.2 (by rw [h4]; decide)⟩, below_drewN HBB.out _⟩
              · go_wp2_with fail
                go_roundw
                case rel => exact ⟨k + 1, by omega, by go_num, below_drewN HBB.out _, good_step HF.out (HG.out.2 ⟨h1, HS.out, h4⟩)⟩
                case measure => simp [intOf]; omega
            · have hs' : decide (200 < (x.name.size : Int)) = true := by simp; omega
              have HS : Hid (¬ x.name.size ≤ 200) := Lib.hid hs
              clear hs
              go_wp2_with fail
              go_quiet (fail)
              go_wp2_with fail
              go_ret
              exact ⟨_, rfl, ⟨fun hc => absurd hc (by decide), fun hg => absurd (HG.out.1 (hg k hlt)).2.1 HS.out⟩, below_drewN HBB.out _⟩
          · have HNG : Hid (¬ GoodAt ws k) := Lib.hid (fun hg => absurd (HG.out.1 hg).2.1 (by rw [h5]; decide))
            unfold leB at h5
            rw [Bool.or_eq_true] at h5
            rcases h5 with h5 | h5
            all_goals go_wp2_with fail
            all_goals go_quiet (fail)
            all_goals go_wp2_with fail
            all_goals go_ret
            all_goals exact ⟨_, rfl, ⟨fun hc => absurd hc (by decide), fun hg => absurd (hg k hlt) HNG.out⟩, below_drewN HBB.out _⟩
    · have : k = ws.length := by omega
      subst this
      go_wp2_with fail
      go_ret
      exact ⟨_, rfl, ⟨fun _ => HF.out, fun _ => rfl⟩, hb⟩
set_option maxRecDepth 100000 in
set_option maxHeartbeats 1000000 in
theorem WishesFault_iff (A : Option Addr) (cap : Nat) (ws : List Wi) (w : World) (h : wsAt w A ws) (hl : ws.length ≤ 500) (hn : ∀ x ∈ ws, x.node.size ≤ maxLen) :
    Calls Tryz.prog 5 #[.slice A ws.length cap] w fun e w' => ∃ c : Int, e = .returned (.int .i64 c) ∧ (c = 0 ↔ GoodW ws) ∧ Below w.heap.size w w' := by
  go_enter Tryz.func5, Tryz.ntmps5
  have hg5 : decide ((ws.length : Int) > 500) = false := by simp; omega
  go_wp2_with fail
  go_loopw [10] (fun v wr => ∃ k : Nat, k ≤ ws.length ∧ v = .int .i64 k ∧ Below w.heap.size w wr ∧ (∀ i, i < k → GoodAt ws i)) (fun v _ => ws.length - (intOf v).toNat)
  case atStart => exact ⟨0, by omega, rfl, Below.refl _ _, fun i hi => absurd hi (by omega)⟩
  case round =>
    obtain ⟨k, hk, rfl, hb, hf⟩ := hrel
    have HF := Lib.hid hf
    clear hf
    by_cases hlt : k < ws.length
    · have hlr := h.below hb
      obtain ⟨g5, off, rfl, hgB, hcc⟩ := hlr k hlt
      obtain ⟨c0, c1, c2⟩ := ws_cells hcc
      have hnx := hn _ (rw_mem (d := noWi) hlt)
      generalize hx : ws.getD k noWi = x at *
      have HX := Lib.hid hx
      have HB := Lib.hid hb
      clear hx
      have hd : decide ((k : Int) < (ws.length : Int)) = true := by simp; omega
      clear hcc
      have q0 : (wr.alloc (wiObj x)).cell? ⟨wr.heap.size, 0, none⟩ = some (.string x.node) := by unfold wiObj; go_simp
      have q1 : (wr.alloc (wiObj x)).cell? ⟨wr.heap.size, 1, none⟩ = some (.string x.name) := by unfold wiObj; go_simp
      have q2 : (wr.alloc (wiObj x)).cell? ⟨wr.heap.size, 2, none⟩ = some (.int .i64 x.joined) := by unfold wiObj; go_simp
      have HBA : Hid (Below w.heap.size w (wr.alloc (wiObj x))) := Lib.hid (hb.alloc hb.size (wiObj x))
      have hkk := key_any x.node (wr.alloc (wiObj x)) hnx
      unfold wiObj at hkk q0 q1 q2
      by_cases h0 : k = 0
      · have z0 : decide (0 < k) = false := by simp [h0]
        have HG : Hid (GoodAt ws k ↔ (isKey x.node = true ∧ x.name.size ≤ 200 ∧ isMom x.joined = true)) := Lib.hid (by unfold GoodAt; rw [HX.out]; simp [h0])
        clear hb hlr h h0
        go_wp2_with fail
        refine hkk.mono ?_
        rintro e w1 ⟨rfl, hb1⟩
        have HBB : Hid (Below w.heap.size w w1) := Lib.hid (HBA.out.trans (hb1.mono HBA.out.size))
        replace q0 := (hb1.cell (p := ⟨wr.heap.size, 0, none⟩) (by simp)).trans q0
        replace q1 := (hb1.cell (p := ⟨wr.heap.size, 1, none⟩) (by simp)).trans q1
        replace q2 := (hb1.cell (p := ⟨wr.heap.size, 2, none⟩) (by simp)).trans q2
        clear hb1
        cases h1 : isKey x.node
        · go_wp2_with fail
          go_ret
          exact ⟨_, rfl, ⟨fun hc => absurd hc (by decide), fun hg => absurd (HG.out.1 (hg k hlt)).1 (by rw [h1]; decide)⟩, HBB.out⟩
        · skip
          by_cases hs : x.name.size ≤ 200
          · have hs' : decide (200 < (x.name.size : Int)) = false := by simp; omega
            have HS : Hid (x.name.size ≤ 200) := Lib.hid hs
            clear hs
            go_wp2_with fail
            go_quiet (fail)
            go_wp2_with fail
            refine (moment_any _ _).mono ?_
            rintro e w2 ⟨rfl, rfl⟩
            cases h4 : isMom x.joined
            · go_wp2_with fail
              go_ret
              exact ⟨_, rfl, ⟨fun hc => absurd hc (by decide), fun hg => absurd (HG.out.1 (hg k hlt)).2.2 (by rw [h4]; decide)⟩, below_drewN HBB.out _⟩
            · go_wp2_with fail
              go_roundw
              case rel => exact ⟨k + 1, by omega, by go_num, below_drewN HBB.out _, good_step HF.out (HG.out.2 ⟨h1, HS.out, h4⟩)⟩
              case measure => simp [intOf]; omega
          · have hs' : decide (200 < (x.name.size : Int)) = true := by simp; omega
            have HS : Hid (¬ x.name.size ≤ 200) := Lib.hid hs
            clear hs
            go_wp2_with fail
            go_quiet (fail)
            go_wp2_with fail
            go_ret
            exact ⟨_, rfl, ⟨fun hc => absurd hc (by decide), fun hg => absurd (HG.out.1 (hg k hlt)).2.1 HS.out⟩, below_drewN HBB.out _⟩
      · have hk1 : k - 1 < ws.length := by omega
        obtain ⟨g6, off6, e6, -, hcc6⟩ := hlr (k - 1) hk1
        injection e6 with e6
        injection e6 with e61 e62
        subst e61 e62
        obtain ⟨p0, -, -⟩ := ws_cells hcc6
        clear hcc6
        have z0 : decide (0 < k) = true := by simp; omega
        have s1 : (1 : Int) ≤ (k : Int) := by omega
        have s0 : IntKind.i64.wrap ((k : Int) - 1) = (k : Int) - 1 := IntWalk.i64_in _ (by omega)
        have s2 : ((k : Int) - 1).toNat = k - 1 := by omega
        have s3 : (k : Int) - 1 < (ws.length : Int) := by omega
        generalize hy : ws.getD (k - 1) noWi = y at *
        have HG : Hid (GoodAt ws k ↔ (isKey x.node = true ∧ leB x.node y.node = false ∧ x.name.size ≤ 200 ∧ isMom x.joined = true)) := Lib.hid (by unfold GoodAt; rw [HX.out, hy]; simp; omega)
        clear hb hlr h h0 hy
        replace p0 : (wr.alloc (.cells #[.string x.node, .string x.name, .int .i64 x.joined] 36 (0, 0))).cell? ⟨g5, off + (k - 1) * 3, none⟩ = some (.string y.node) := by go_simp
        go_wp2_with fail
        refine hkk.mono ?_
        rintro e w1 ⟨rfl, hb1⟩
        have HBB : Hid (Below w.heap.size w w1) := Lib.hid (HBA.out.trans (hb1.mono HBA.out.size))
        replace q0 := (hb1.cell (p := ⟨wr.heap.size, 0, none⟩) (by simp)).trans q0
        replace q1 := (hb1.cell (p := ⟨wr.heap.size, 1, none⟩) (by simp)).trans q1
        replace q2 := (hb1.cell (p := ⟨wr.heap.size, 2, none⟩) (by simp)).trans q2
        replace p0 := (hb1.cell (p := ⟨g5, off + (k - 1) * 3, none⟩) (by simp; omega)).trans p0
        clear hb1
        cases h1 : isKey x.node
        · go_wp2_with fail
          go_ret
          exact ⟨_, rfl, ⟨fun hc => absurd hc (by decide), fun hg => absurd (HG.out.1 (hg k hlt)).1 (by rw [h1]; decide)⟩, HBB.out⟩
        · cases h5 : leB x.node y.node
          · replace HG : Hid (GoodAt ws k ↔ (isKey x.node = true ∧ x.name.size ≤ 200 ∧ isMom x.joined = true)) := Lib.hid (by rw [HG.out, h5]; simp)
            unfold leB at h5
            rw [Bool.or_eq_false_iff] at h5
            obtain ⟨h5a, h5b⟩ := h5
            by_cases hs : x.name.size ≤ 200
            · have hs' : decide (200 < (x.name.size : Int)) = false := by simp; omega
              have HS : Hid (x.name.size ≤ 200) := Lib.hid hs
              clear hs
              go_wp2_with fail
              go_quiet (fail)
              go_wp2_with fail
              refine (moment_any _ _).mono ?_
              rintro e w2 ⟨rfl, rfl⟩
              cases h4 : isMom x.joined
              · go_wp2_with fail
                go_ret
                exact ⟨_, rfl, ⟨fun hc => absurd hc (by decide), fun hg => absurd (HG.out.1 (hg k hlt)).2.2 (by rw [h4]; decide)⟩, below_drewN HBB.out _⟩
              · go_wp2_with fail
                go_roundw
                case rel => exact ⟨k + 1, by omega, by go_num, below_drewN HBB.out _, good_step HF.out (HG.out.2 ⟨h1, HS.out, h4⟩)⟩
                case measure => simp [intOf]; omega
            · have hs' : decide (200 < (x.name.size : Int)) = true := by simp; omega
              have HS : Hid (¬ x.name.size ≤ 200) := Lib.hid hs
              clear hs
              go_wp2_with fail
              go_quiet (fail)
              go_wp2_with fail
              go_ret
              exact ⟨_, rfl, ⟨fun hc => absurd hc (by decide), fun hg => absurd (HG.out.1 (hg k hlt)).2.1 HS.out⟩, below_drewN HBB.out _⟩
          · have HNG : Hid (¬ GoodAt ws k) := Lib.hid (fun hg => absurd (HG.out.1 hg).2.1 (by rw [h5]; decide))
            unfold leB at h5
            rw [Bool.or_eq_true] at h5
            rcases h5 with h5 | h5
            all_goals go_wp2_with fail
            all_goals go_quiet (fail)
            all_goals go_wp2_with fail
            all_goals go_ret
            all_goals exact ⟨_, rfl, ⟨fun hc => absurd hc (by decide), fun hg => absurd (hg k hlt) HNG.out⟩, below_drewN HBB.out _⟩
    · have : k = ws.length := by omega
      subst this
      go_wp2_with fail
      go_ret
      exact ⟨_, rfl, ⟨fun _ => HF.out, fun _ => rfl⟩, hb⟩
end Go.Proofs.YtcgligfkpfjcpaaGreatDoor
