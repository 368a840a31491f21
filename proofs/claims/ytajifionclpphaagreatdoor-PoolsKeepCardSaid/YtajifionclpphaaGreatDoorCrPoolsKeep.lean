/- The law PoolsKeep holds: for every list of integers that is handed in, the call returns true and leaves the list as it was.
Conditions: those of the given row and card alone (the listed package-level variables start as the program's text lays them). -/
import Derived.Test.YtajifionclpphaaGreatDoorPoQ
import Derived.Test.YtajifionclpphaaGreatDoorHbo
import Derived.Test.YtajifionclpphaaGreatDoorTie
import Derived.Test.YtajifionclpphaaGreatDoorCards
import Derived.ProofKit
import Derived.SizedLaws
import Derived.Stop.Joined
import Derived.LaidMore
import Derived.OpenShut
import Derived.Lay
import Derived.Carry
import Derived.SevenTiedAt
namespace Go.Proofs.YtajifionclpphaaGreatDoor
open Go.ChangeShapes Go.WideShapes Go.ChangeAt Go.RowKit

theorem ownPoolsKeep : ownKnob Tryz.prog.godebug = none := by kernel_rfl
theorem laidOutPoolsKeep : laidOutB Tryz.prog = true := by kernel_rfl
theorem cellsIntPoolsKeep : Tryz.prog.cellsOf 3 = 1 := by kernel_rfl
theorem bytesIntPoolsKeep : Tryz.prog.bytesOf 3 = 8 := by kernel_rfl

/-- The law's walk at a list that has been opened. -/
def GoesPoolsKeep (W : World) (A : Option Addr) (n cap : Nat) : Prop :=
  Calls Tryz.prog 4 #[.slice A n cap] W fun e w' => e = .returned (.bool true) ∧ Below W.heap.size W w'

set_option maxRecDepth 100000 in
set_option maxHeartbeats 800000 in
theorem liftedPoolsKeep (os : Os) (started : os.Started) (H : Type) (enc : TypeId × Value → H) :
    ReturnsInHanded {} Tryz.checked os 4 .any (fun w args => (Rows.poolsKeepSpec.pre enc Tryz.prog Tryz.f4 [] false w args ∧ laidMetH Tryz.prog Rows.poolsKeepRow.laid w) ∧ sizedMet enc Tryz.prog Tryz.f4 (OpenSpec.ofChange Rows.poolsKeepSpec) false w args)
      (Rows.poolsKeepSpec.post enc Tryz.prog Tryz.f4 false true false false) := by
  refine handed_both (C := Tryz.checked) (X := fun w _ => laidMetH Tryz.prog Rows.poolsKeepRow.laid w) (fun _ _ _ hh h => h.of_heap hh) ownPoolsKeep started (by kernel_rfl) Tryz.func4
    (ChangeSpec.witness_shaped (enc := enc) (C := Tryz.checked) (os := os) (X := fun w _ => laidMetH Tryz.prog Rows.poolsKeepRow.laid w) false (World.laidAll Tryz.prog os Rows.poolsKeepRow.laid) #[.slice none 0 0] 8 (World.laidAll_os _ _ _)
      (World.shaped_of_ZipB (by kernel_rfl) (by kernel_rfl)) (by kernel_rfl) (by kernel_rfl) (by kernel_rfl)
      (by rw [MakeChecks.laidMetH_plain _ _ _ (by kernel_rfl)]; exact laidMet_laidAll _ (by kernel_rfl) (by kernel_rfl))) ?_
  intro W base args ds gs before hval0 hW _ hsz0 hL hS _
  have hsz : (DataW.weightsEach Tryz.prog (Tryz.f4.params.toList ++ Rows.poolsKeepSpec.plain.varTypes Tryz.prog) (ds ++ gs)).all (· ≤ reachBytes) = true := hsz0
  clear hsz0
  have hval : ∀ (j : Nat) t v, Tryz.f4.params[j]? = some t → args[j]? = some v → Value.okWide Tryz.prog W .any base t v := hval0
  have hW' := hW
  obtain ⟨p, q, hA0, hV, rfl, _, _⟩ := hW
  have hA : DataW.TrodAll enc Tryz.prog W 0 (fun _ => true) true Tryz.f4.params.toList args.toList ds p := hA0
  rw [Tryz.params4] at hA hval hsz
  obtain ⟨v0, d0, rfl, rfl, h0⟩ := trodAll_one hA
  obtain ⟨rfl, rfl⟩ := trodVars_none hV
  obtain ⟨a0, len, cap, rfl⟩ := okWide_slice Tryz.underlying22 (hval 0 22 v0 rfl rfl)
  have h0k := h0
  obtain ⟨fuel, hf⟩ := h0
  clear hA0 hval0
  simp only [List.append_nil] at hW'
  have hlt : ∀ y ∈ p, y.block < W.heap.size := fun y hy => by simpa using hW'.lt y (by simp [hy])
  have harg0 : ∀ W' : World, Below W.heap.size W W' → DataW.Trod enc Tryz.prog W' 0 (fun b => decide (b < W.heap.size)) true 22 (.slice a0 len cap) d0 p :=
    fun W' hn => Below.trod laidOutPoolsKeep (by kernel_rfl) (of_decide_eq_true (by kernel_rfl)) h0k hn hlt
  have hgo : GoesPoolsKeep W a0 len cap := by
    rcases open_ints Tryz.underlying22 Tryz.underlying3 cellsIntPoolsKeep hf with ⟨hcs, hx⟩ | ⟨a, len', cap', zs, hcs, _, hl, hmx, hz, hx, hcell, hwz⟩
    · simp [Value.cells] at hcs
      obtain ⟨rfl, rfl, rfl⟩ := hcs
      exact poolsKeep_any none 0 [] W (fun i hi => absurd hi (by simp)) (fun i => by simp) (by simp) (mx_of_row hL hS)
    · simp [Value.cells] at hcs
      obtain ⟨rfl, rfl, rfl⟩ := hcs
      simp only [Prod.mk.injEq] at hx
      obtain ⟨rfl, rfl⟩ := hx
      simp only [if_true] at hz
      have hlz : len ≤ zs.length := by omega
      have hreach : zs.length ≤ 17592186044416 := by
        have := sized_slice hsz (j := 0) (t := 22) (e := 3) rfl rfl Tryz.underlying22
        rw [bytesIntPoolsKeep] at this
        simp only [lits, List.length_map, List.length_take, List.length_drop, reachBytes] at this
        omega
      have hlen : (zs.take len).length = len := by rw [List.length_take]; omega
      have hfit : ∀ i, -9223372036854775808 ≤ (zs.take len).getD i 0 ∧ (zs.take len).getD i 0 ≤ 9223372036854775807 := by
        intro i
        by_cases hi : i < (zs.take len).length
        · have hm : (zs.take len).getD i 0 ∈ zs := by
            rw [List.getD_eq_getElem?_getD, List.getElem?_eq_getElem hi]
            exact List.mem_of_mem_take (List.getElem_mem hi)
          have := hwz _ hm
          simpa [Lit.wf, IntKind.min, IntKind.max, IntKind.signed, IntKind.bits] using this
        · rw [List.getD_eq_getElem?_getD, List.getElem?_eq_none (by omega)]
          simp
      have hthm := poolsKeep_any (some a) cap (zs.take len) W (fun i hi => by
        rw [hlen] at hi
        obtain ⟨b, off, spot⟩ := a
        have hspot : spot = none := by simpa [Addr.add] using World.cell?_spot (hcell 0 (by omega))
        subst hspot
        have hc := hcell i (by omega)
        rw [add_plain] at hc
        have hb : b < W.heap.size := by
          refine Nat.lt_of_not_le fun hn => ?_
          have e : W.heap[b]? = none := Array.getElem?_eq_none hn
          simp [World.cell?, e] at hc
        refine ⟨b, off, rfl, hb, ?_⟩
        rw [hc]
        have : (zs.take len).getD i 0 = zs.getD i 0 := by
          rw [List.getD_eq_getElem?_getD, List.getD_eq_getElem?_getD, List.getElem?_take, if_pos hi]
        rw [this]) hfit (by rw [hlen]; omega) (mx_of_row hL hS)
      rw [hlen] at hthm
      exact hthm
  unfold GoesPoolsKeep at hgo
  refine hgo.mono fun e W' ⟨he, hn⟩ => ?_
  subst he
  exact ⟨_, rfl, _, _, _, [], _, [], hW', trodAll_mk1 (shut_bool Tryz.underlying4 true), trodAll_mk1 (harg0 _ hn), rfl, hn.frame _, fun h => by cases h⟩

theorem and_tPoolsKeep {a b : Bool} (ha : a = true) (hb : b = true) : (a && b) = true := by rw [ha, hb]; rfl
theorem namedPoolsKeep : Tryz.prog.funcNamed Rows.poolsKeepRow.func = some 4 := by kernel_rfl
set_option maxHeartbeats 4000000 in
theorem joinedPoolsKeep : joinedFacts Tryz.prog 4 Tryz.f4 Rows.poolsKeepSpec Rows.poolsKeepRow = true := by
  unfold joinedFacts
  repeat' with_reducible apply and_tPoolsKeep
  all_goals (as_aux_lemma => kernel_rfl)
theorem instPoolsKeep : Tryz.f4.isInstance Tryz.prog Rows.poolsKeepRow.origin Rows.poolsKeepRow.targs := of_decide_eq_true (by kernel_rfl)
theorem wrapPoolsKeep : Tryz.f4.isWrapper Tryz.prog Rows.poolsKeepRow.wrapper Rows.poolsKeepRow.mainSum := by unfold Func.isWrapper; first | (rw [if_pos (by decide +kernel)]; kernel_rfl) | (rw [if_neg (by decide +kernel)]; exact ⟨rfl, rfl⟩)
theorem rowPoolsKeep : Rows.PoolsKeepSaid :=
  OpenClaim.holds_of_wide 4 Tryz.f4 rfl rfl rfl rfl rfl rfl rfl ⟨rfl, rfl, rfl, rfl, rfl⟩ rfl rfl rfl rfl rfl namedPoolsKeep Tryz.func4 joinedPoolsKeep
    instPoolsKeep wrapPoolsKeep
    (fun os started H enc _ => liftedPoolsKeep os started H enc)

end Go.Proofs.YtajifionclpphaaGreatDoor
