/- CanFault. -/
import Derived.Test.YtphjgjcbolmdiaaGreatDoorMtJ
import Derived.Test.YtphjgjcbolmdiaaGreatDoorFlt
import Derived.Test.YtphjgjcbolmdiaaGreatDoorNtR
import Derived.Deep.RegionHeld3
namespace Go.Proofs.YtphjgjcbolmdiaaGreatDoor
open Go.RowKit Go.Hw

set_option maxHeartbeats 400000 in
theorem orE_any (g : Nat) (vs : List Int) (w : World) (hg : w.heap[g]? = some (.cells (vs.map (Value.int .i64)).toArray 32 (0, 0))) (n c : Nat) (hn : n = vs.length) (hl : vs.length ≤ 1000000) :
    Calls Tryz.prog 41 #[.slice (some ⟨g, 0, none⟩) n c] w fun e w' => e = .returned (.int .i64 (orOf vs)) ∧ w = w' := by
  subst hn
  have hc : ∀ k, k < vs.length → w.cell? ⟨g, k, none⟩ = some (.int .i64 (vs.getD k 0)) := fun k hk => by
    simp [World.cell?, hg, List.getElem?_eq_getElem hk]
  clear hg
  have HC := Lib.hid hc
  clear hc
  go_enter Tryz.func41, Tryz.ntmps41
  go_wp2_with fail
  go_loop [8] (fun i => ∃ k : Nat, k ≤ vs.length ∧ i = .int .i64 k ∧ Hid (∀ j, j < k → vs.getD j 0 = 0)) (fun i => vs.length - (intOf i).toNat)
  case atStart => exact ⟨0, Nat.zero_le _, rfl, Lib.hid (fun j h => absurd h (by omega))⟩
  case round =>
    obtain ⟨k, hk, rfl, hrel⟩ := hrel
    by_cases hlt : k < vs.length
    · have hck := HC.out k hlt
      have HO := Lib.hid (orOf_drop hrel.out)
      have hcons : orOf (vs.drop k) = if vs.getD k 0 = 0 then orOf (vs.drop (k + 1)) else vs.getD k 0 := by
        rw [List.drop_eq_getElem_cons hlt]
        simp [orOf, List.getElem?_eq_getElem hlt]
      have HN := Lib.hid hcons
      have HR : Hid (vs.getD k 0 = 0 → ∀ j, j < k + 1 → vs.getD j 0 = 0) := Lib.hid fun h j hj => by
        by_cases e : j = k
        · rw [e]; exact h
        · exact hrel.out j (by omega)
      clear hrel hcons
      generalize vs.getD k 0 = x at *
      by_cases hx : x = 0
      · have hx1 : (x != 0) = false := by simp [hx]
        have HX := Lib.hid hx
        clear hx
        go_wp2_with fail
        go_round
        case rel => exact ⟨k + 1, by omega, by go_num, Lib.hid (HR.out HX.out)⟩
        case measure => simp [intOf]; omega
      · have hx1 : (x != 0) = true := by simp [hx]
        have HF : Hid (orOf vs = x) := Lib.hid (by rw [HO.out, HN.out, if_neg hx])
        clear hx
        go_wp2_with fail
        go_ret
        exact ⟨ret_eq HF.out.symm, rfl⟩
    · have : k = vs.length := by omega
      subst this
      have HF : Hid (orOf vs = 0) := Lib.hid (by rw [orOf_drop hrel.out, List.drop_length]; rfl)
      clear hrel
      go_wp2_with fail
      go_ret
      exact ⟨ret_eq HF.out.symm, rfl⟩


def sameO (a b : NatC) : Bool := a.six == b.six && (a.hi == b.hi && a.lo == b.lo)
def isServ (a : NatC) : Bool := a.six == false && (a.hi == 0 && a.lo == 16843009)
def CanOut (a b : NatC) (w : World) (e : Ending) (w' : World) : Prop :=
  ∃ c : Int, e = .returned (.int .i64 c) ∧ Below w.heap.size w w' ∧ (c = 0 → natCode a = 0 ∧ natCode b = 0 ∧ sameO a b = false ∧ isServ a = false ∧ isServ b = false)
theorem server_any (w : World) : Calls Tryz.prog 42 #[] w fun e w' => e = .returned (.agg #[.bool false, .int .u64 0, .int .u64 16843009, .int .i64 3478]) ∧ Below w.heap.size w w' := by
  go_enter Tryz.func42, Tryz.ntmps42
  go_wp2_with fail
  exact bodyPost_ret (v := .agg #[.bool false, .int .u64 0, .int .u64 16843009, .int .i64 3478]) (by simp [results, Tryz.results42, go_sem]) rfl ⟨rfl, (Below.refl _ _).alloc (Nat.le_refl _) _⟩
theorem two2 (w : World) (o1 o2 : Obj) : ((w.alloc o1).alloc o2).heap[w.heap.size]? = some o1 ∧ ((w.alloc o1).alloc o2).heap[w.heap.size + 1]? = some o2 ∧ Below w.heap.size w ((w.alloc o1).alloc o2) := two w o1 o2 _ rfl

set_option maxRecDepth 100000 in
set_option maxHeartbeats 4000000 in
theorem canFault_any (a b : NatC) (w : World) (ha0 : 0 ≤ a.hi) (hb0 : 0 ≤ b.hi) :
    Calls Tryz.prog 16 #[.agg #[.int .i64 a.maps, .int .i64 a.lets, .int .i64 a.timeout, .int .i64 a.first, .int .i64 a.ports, .bool a.six, .int .u64 a.hi, .int .u64 a.lo], .agg #[.int .i64 b.maps, .int .i64 b.lets, .int .i64 b.timeout, .int .i64 b.first, .int .i64 b.ports, .bool b.six, .int .u64 b.hi, .int .u64 b.lo], .int .i64 5] w (CanOut a b w) := by
  go_enter Tryz.func16, Tryz.ntmps16
  go_wp2_with fail
  generalize hW : World.alloc _ _ = W1
  have hb1 : Below w.heap.size w W1 := by rw [← hW]; exact (two2 _ _ _).2.2
  have ba := show W1.heap[w.heap.size]? = some (.cells #[.int .i64 a.maps, .int .i64 a.lets, .int .i64 a.timeout, .int .i64 a.first, .int .i64 a.ports, .bool a.six, .int .u64 a.hi, .int .u64 a.lo] 30 (0, 0)) by rw [← hW]; exact (two2 _ _ _).1
  have bb := show W1.heap[w.heap.size + 1]? = some (.cells #[.int .i64 b.maps, .int .i64 b.lets, .int .i64 b.timeout, .int .i64 b.first, .int .i64 b.ports, .bool b.six, .int .u64 b.hi, .int .u64 b.lo] 30 (0, 0)) by rw [← hW]; exact (two2 _ _ _).2.1
  obtain ⟨⟨a0, a1, a2, a3, a4, a5, a6, a7⟩, -⟩ := res8 ba
  obtain ⟨⟨b0, b1, b2, b3, b4, b5, b6, b7⟩, -⟩ := res8 bb
  have lA := lt_of_block ba
  have lB := lt_of_block bb
  have HB1 := Lib.hid hb1
  have BA := Lib.hid ba
  have BB := Lib.hid bb
  clear hW hb1 ba bb
  go_region_held3 (fun w' => w'.cell? ⟨w.heap.size, 0, none⟩ = some (.int .i64 a.maps) ∧ w'.cell? ⟨w.heap.size, 1, none⟩ = some (.int .i64 a.lets) ∧ w'.cell? ⟨w.heap.size, 2, none⟩ = some (.int .i64 a.timeout) ∧ w'.cell? ⟨w.heap.size, 3, none⟩ = some (.int .i64 a.first) ∧ w'.cell? ⟨w.heap.size, 4, none⟩ = some (.int .i64 a.ports) ∧ w'.cell? ⟨w.heap.size, 5, none⟩ = some (.bool a.six) ∧ w'.cell? ⟨w.heap.size, 6, none⟩ = some (.int .u64 a.hi) ∧ w'.cell? ⟨w.heap.size, 7, none⟩ = some (.int .u64 a.lo) ∧ w'.cell? ⟨w.heap.size + 1, 0, none⟩ = some (.int .i64 b.maps) ∧ w'.cell? ⟨w.heap.size + 1, 1, none⟩ = some (.int .i64 b.lets) ∧ w'.cell? ⟨w.heap.size + 1, 2, none⟩ = some (.int .i64 b.timeout) ∧ w'.cell? ⟨w.heap.size + 1, 3, none⟩ = some (.int .i64 b.first) ∧ w'.cell? ⟨w.heap.size + 1, 4, none⟩ = some (.int .i64 b.ports) ∧ w'.cell? ⟨w.heap.size + 1, 5, none⟩ = some (.bool b.six) ∧ w'.cell? ⟨w.heap.size + 1, 6, none⟩ = some (.int .u64 b.hi) ∧ w'.cell? ⟨w.heap.size + 1, 7, none⟩ = some (.int .u64 b.lo))
    ((repeat' apply And.intro) <;> (repeat (first | with_reducible assumption | rw [cell_drew] | rw [World.cell?_alloc_lt _ _ _ (by (try simp); omega)] | rw [Below.cell hz3 (by simp; omega)] | rw [Below.cell hz2 (by simp; omega)] | rw [Below.cell hz1 (by simp; omega)])))
    (first
      | (go_at_call 6; ((with_reducible refine Calls.mono (refNatFault_any a _ ha0) ?_); rintro e w1 ⟨rfl, hz1⟩; have l1 : W1.heap.size ≤ w1.heap.size := hz1.size))
      | (go_at_call 6; ((with_reducible refine Calls.mono (refNatFault_any b _ hb0) ?_); rintro e w2 ⟨rfl, hz2⟩; have l2 : w1.heap.size ≤ w2.heap.size := hz2.size))
      | (go_at_call 41; refine Calls.mono (orE_any w2.heap.size [natCode a, natCode b] _ (heap_alloc_new w2 _) 2 2 rfl (by simp)) ?_; rintro e w3 ⟨rfl, rfl⟩))
  have hB2 := HB1.out.trans (((Below.refl _ _).drew.trans hz1).mono HB1.out.size)
  have hB2 := hB2.trans (hz2.mono hB2.size)
  have HB2 := Lib.hid (hB2.alloc hB2.size (.cells #[.int .i64 (natCode a), .int .i64 (natCode b)] 32))
  have ba := (hz2.block w.heap.size (by omega)).trans ((hz1.block w.heap.size lA).trans BA.out)
  have bb := (hz2.block (w.heap.size + 1) (by omega)).trans ((hz1.block (w.heap.size + 1) lB).trans BB.out)
  have ba := (heap_alloc_old w2 (.cells #[.int .i64 (natCode a), .int .i64 (natCode b)] 32) (lt_of_block ba)).trans ba
  have bb := (heap_alloc_old w2 (.cells #[.int .i64 (natCode a), .int .i64 (natCode b)] 32) (lt_of_block bb)).trans bb
  generalize w2.alloc (.cells #[.int .i64 (natCode a), .int .i64 (natCode b)] 32) = W3 at *
  clear a0 a1 a2 a3 a4 a5 a6 a7 b0 b1 b2 b3 b4 b5 b6 b7 lA lB HB1 BA BB hz1 hz2 l1 l2 hB2
  obtain ⟨⟨-, -, -, -, -, a5, a6, a7⟩, -⟩ := res8 ba
  obtain ⟨⟨-, -, -, -, -, b5, b6, b7⟩, -⟩ := res8 bb
  have lA := lt_of_block ba
  have lB := lt_of_block bb
  clear ba bb
  by_cases hc : orOf [natCode a, natCode b] = 0
  rotate_left
  · have hcc : (orOf [natCode a, natCode b] != 0) = true := by simpa using hc
    have HC := Lib.hid hc
    clear hc
    go_wp2_with fail
    go_ret
    exact ⟨_, rfl, HB2.out, fun h => absurd h HC.out⟩
  have HC := Lib.hid (show natCode a = 0 ∧ natCode b = 0 from by
    unfold orOf at hc
    split at hc
    · rename_i h1
      unfold orOf at hc
      split at hc
      · exact ⟨h1, by assumption⟩
      · contradiction
    · contradiction)
  rw [hc]
  clear hc
  have q1 := fun w => run_eq_addr 9998 a.six b.six a.hi b.hi a.lo b.lo w
  have q2 := fun w => run_eq_addr 9998 a.six false a.hi 0 a.lo 16843009 w
  have q3 := fun w => run_eq_addr 9998 b.six false b.hi 0 b.lo 16843009 w
  have g2 := guard_addr
  have gf : ∀ w : World, (Instr.field 42 (.agg #[.bool false, .int .u64 0, .int .u64 16843009, .int .i64 3478]) 0).run Tryz.prog w = .ok (.agg #[.bool false, .int .u64 0, .int .u64 16843009]) w := fun _ => by kernel_rfl
  have e1 : (a.six == b.six && (a.hi == b.hi && a.lo == b.lo)) = sameO a b := rfl
  have e2 : (a.six == false && (a.hi == 0 && a.lo == 16843009)) = isServ a := rfl
  have e3 : (b.six == false && (b.hi == 0 && b.lo == 16843009)) = isServ b := rfl
  rw [e1] at q1
  rw [e2] at q2
  rw [e3] at q3
  clear e1 e2 e3
  cases h1 : sameO a b
  · rw [h1] at q1
    cases h2 : isServ a
    · rw [h2] at q2
      cases h3 : isServ b
      · rw [h3] at q3
        have HH := Lib.hid (And.intro h1 (And.intro h2 h3))
        clear h1 h2 h3
        go_wp2_with fail
        go_region_held3 (fun w' => w'.cell? ⟨w.heap.size, 5, none⟩ = some (.bool a.six) ∧ w'.cell? ⟨w.heap.size, 6, none⟩ = some (.int .u64 a.hi) ∧ w'.cell? ⟨w.heap.size, 7, none⟩ = some (.int .u64 a.lo) ∧ w'.cell? ⟨w.heap.size + 1, 5, none⟩ = some (.bool b.six) ∧ w'.cell? ⟨w.heap.size + 1, 6, none⟩ = some (.int .u64 b.hi) ∧ w'.cell? ⟨w.heap.size + 1, 7, none⟩ = some (.int .u64 b.lo))
        ((repeat' apply And.intro) <;> (repeat (first | with_reducible assumption | rw [cell_drew] | rw [World.cell?_alloc_lt _ _ _ (by (try simp); omega)] | rw [Below.cell hz2 (by (try simp); omega)] | rw [Below.cell hz1 (by (try simp); omega)])))
        (first | (go_at_call 42; have mk2 := mark1; refine (server_any _).mono ?_; rintro e w5 ⟨rfl, hz2⟩; have l5 := hz2.size) | (go_at_call 42; refine (server_any _).mono ?_; rintro e w4 ⟨rfl, hz1⟩; have l4 : W3.heap.size ≤ w4.heap.size := hz1.size; have mark1 : True := trivial))
        have HB5 := Lib.hid (HB2.out.trans ((((Below.refl _ _).drew.trans hz1).trans (hz2.mono l4)).mono HB2.out.size))
        clear hz1 hz2 a5 a6 a7 b5 b6 b7
        go_wp2_with fail
        refine (in1_any 5 0 50 _).mono ?_
        rintro e w6 ⟨rfl, rfl⟩
        go_wp2_with fail
        go_ret
        exact ⟨_, rfl, HB5.out, fun _ => ⟨HC.out.1, HC.out.2, HH.out⟩⟩
      · rw [h3] at q3
        clear h1 h2 h3
        go_wp2_with fail
        go_region_held3 (fun w' => w'.cell? ⟨w.heap.size, 5, none⟩ = some (.bool a.six) ∧ w'.cell? ⟨w.heap.size, 6, none⟩ = some (.int .u64 a.hi) ∧ w'.cell? ⟨w.heap.size, 7, none⟩ = some (.int .u64 a.lo) ∧ w'.cell? ⟨w.heap.size + 1, 5, none⟩ = some (.bool b.six) ∧ w'.cell? ⟨w.heap.size + 1, 6, none⟩ = some (.int .u64 b.hi) ∧ w'.cell? ⟨w.heap.size + 1, 7, none⟩ = some (.int .u64 b.lo))
        ((repeat' apply And.intro) <;> (repeat (first | with_reducible assumption | rw [cell_drew] | rw [World.cell?_alloc_lt _ _ _ (by (try simp); omega)] | rw [Below.cell hz2 (by (try simp); omega)] | rw [Below.cell hz1 (by (try simp); omega)])))
        (first | (go_at_call 42; have mk2 := mark1; refine (server_any _).mono ?_; rintro e w5 ⟨rfl, hz2⟩; have l5 := hz2.size) | (go_at_call 42; refine (server_any _).mono ?_; rintro e w4 ⟨rfl, hz1⟩; have l4 : W3.heap.size ≤ w4.heap.size := hz1.size; have mark1 : True := trivial))
        have HB5 := Lib.hid (HB2.out.trans ((((Below.refl _ _).drew.trans hz1).trans (hz2.mono l4)).mono HB2.out.size))
        clear hz1 hz2 a5 a6 a7 b5 b6 b7
        go_wp2_with fail
        go_ret
        exact ⟨_, rfl, HB5.out, fun h => absurd h (by decide)⟩
    · rw [h2] at q2
      clear h1 h2
      go_wp2_with fail
      first | (go_region_with ((go_at_call 42; refine (server_any _).mono ?_; rintro e w4 ⟨rfl, hz1⟩; have l4 : W3.heap.size ≤ w4.heap.size := hz1.size; have y5 : w4.cell? ⟨w.heap.size, 5, none⟩ = some (.bool a.six) := (hz1.cell (p := ⟨w.heap.size, 5, none⟩) lA).trans a5; have y6 : w4.cell? ⟨w.heap.size, 6, none⟩ = some (.int .u64 a.hi) := (hz1.cell (p := ⟨w.heap.size, 6, none⟩) lA).trans a6; have y7 : w4.cell? ⟨w.heap.size, 7, none⟩ = some (.int .u64 a.lo) := (hz1.cell (p := ⟨w.heap.size, 7, none⟩) lA).trans a7))) | done
      all_goals
        have HB5 := Lib.hid (HB2.out.trans (((Below.refl _ _).drew.trans hz1).mono HB2.out.size))
        clear hz1 a5 a6 a7 b5 b6 b7 y5 y6 y7
        go_wp2_with fail
        go_ret
        exact ⟨_, rfl, HB5.out, fun h => absurd h (by decide)⟩
  · rw [h1] at q1
    clear h1
    go_wp2_with fail
    first | (go_region_with (fail)) | done
    all_goals
      clear a5 a6 a7 b5 b6 b7
      go_wp2_with fail
      go_ret
      exact ⟨_, rfl, HB2.out.trans ((Below.refl _ _).drew.mono HB2.out.size), fun h => absurd h (by decide)⟩
end Go.Proofs.YtphjgjcbolmdiaaGreatDoor
