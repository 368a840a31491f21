/- Numbers in memory: slices.IndexFunc, ContainsFunc, Clone; kit.Gcd, Lowest; flow.numbersFault. -/
import Derived.Test.YtgmeblgfcmkcgaaGreatDoorSrt
import Derived.Test.YtgmeblgfcmkcgaaGreatDoorMdA
import Derived.Test.YtgmeblgfcmkcgaaGreatDoorRwB
import Derived.Test.YtgmeblgfcmkcgaaGreatDoorKey
namespace Go.Proofs.YtgmeblgfcmkcgaaGreatDoor
open Go.RowKit Go.Hw Go.Shelf

def IsAt (w : World) (A : Option Addr) (L : List Int) : Prop := ∀ i, i < L.length → ∃ g off, A = some ⟨g, off, none⟩ ∧ g < w.heap.size ∧ w.cell? ⟨g, off + i, none⟩ = some (.int .i64 (L.getD i 0))
theorem IsAt.below {w w' : World} {A : Option Addr} {L : List Int} (h : IsAt w A L) (hb : Below w.heap.size w w') : IsAt w' A L := fun i hi =>
  let ⟨g, off, h1, h2, h3⟩ := h i hi
  ⟨g, off, h1, Nat.lt_of_lt_of_le h2 hb.size, (hb.cell (p := ⟨g, _, none⟩) h2).trans h3⟩
theorem is_of {w : World} {base : Nat} {v : Value} {zs : List Int} (h : IntsOwn w base v zs) : ∃ A cap, v = .slice A zs.length cap ∧ IsAt w A zs := by
  obtain ⟨A, cap, rfl, h1, -⟩ := ints_at h
  refine ⟨A, cap, rfl, fun i hi => ?_⟩
  obtain ⟨g, h2, h3, h4⟩ := h1 i hi
  exact ⟨g, 0, h2, h3, by rw [Nat.zero_add]; exact h4⟩

/-- What is asked of a closure over numbers. -/
def isPred (g : Nat) (lb : Array Value) (p : Int → Bool) (L : List Int) (w : World) : Prop :=
  ∀ (W : World) (e : Int), e ∈ L → Below w.heap.size w W → Calls Tryz.prog g (#[.int .i64 e] ++ lb) W fun en w' => en = .returned (.bool (p e)) ∧ Below W.heap.size W w'
set_option maxRecDepth 100000 in
set_option maxHeartbeats 1000000 in
theorem is_idx (A : Option Addr) (cap : Nat) (L : List Int) (g : Nat) (lb : Array Value) (p : Int → Bool) (w : World) (eg : ∀ args w, (callFunc g args).run Tryz.prog w = .ok (.enter g args) w)
    (h : IsAt w A L) (hl : L.length ≤ 1000000) (hp : isPred g lb p L w) :
    Calls Tryz.prog 170 #[.slice A L.length cap, .func (.func g) #[] lb] w fun e w' => e = .returned (.int .i64 (rwIdx p L)) ∧ Below w.heap.size w w' := by
  go_enter Tryz.func170, Tryz.ntmps170
  go_wp2_with fail
  go_loopw [8] (fun v wr => ∃ k : Nat, k ≤ L.length ∧ v = .int .i64 k ∧ (∀ j, j < k → p (L.getD j 0) = false) ∧ Below w.heap.size w wr) (fun v _ => L.length - (intOf v).toNat)
  case atStart => exact ⟨0, Nat.zero_le _, rfl, fun j hj => by omega, Below.refl _ _⟩
  case round =>
    obtain ⟨k, hk, rfl, hf, hb⟩ := hrel
    have hlr := h.below hb
    by_cases hlt : k < L.length
    · obtain ⟨g5, off, rfl, hgB, c0⟩ := hlr k hlt
      have HCALL := hp wr (L.getD k 0) (rw_mem hlt) hb
      generalize hx : L.getD k 0 = x at *
      have HF := Lib.hid hf
      have HX := Lib.hid hx
      have HB := Lib.hid hb
      clear hf hx hp hb hlr h
      have hd : decide ((k : Int) < (L.length : Int)) = true := by simp; omega
      cases hq : p x
      · rw [hq] at HCALL
        go_wp2_with (go_at_fn g; refine HCALL.mono ?_; rintro e w1 ⟨rfl, hb1⟩)
        go_roundw
        case rel => exact ⟨k + 1, by omega, by go_num, fun j hj => (by
          by_cases e : j = k
          · rw [e, HX.out]; exact hq
          · exact HF.out j (by omega)), HB.out.trans (hb1.mono HB.out.size)⟩
        case measure => simp [intOf]; omega
      · rw [hq] at HCALL
        go_wp2_with (go_at_fn g; refine HCALL.mono ?_; rintro e w1 ⟨rfl, hb1⟩)
        go_ret
        exact ⟨ret_eq (rwIdx_at hlt HF.out (by rw [HX.out]; exact hq)).symm, HB.out.trans (hb1.mono HB.out.size)⟩
    · have : k = L.length := by omega
      subst this
      have HE := Lib.hid (rwIdx_none (p := p) (xs := L) (d := 0) hf)
      clear hf
      go_wp2_with fail
      go_ret
      exact ⟨ret_eq HE.out.symm, hb⟩
set_option maxRecDepth 100000 in
theorem is_any (A : Option Addr) (cap : Nat) (L : List Int) (g : Nat) (lb : Array Value) (p : Int → Bool) (w : World) (eg : ∀ args w, (callFunc g args).run Tryz.prog w = .ok (.enter g args) w)
    (h : IsAt w A L) (hl : L.length ≤ 1000000) (hp : isPred g lb p L w) (hn : ∀ e ∈ L, p e = false) :
    Calls Tryz.prog 117 #[.slice A L.length cap, .func (.func g) #[] lb] w fun e w' => e = .returned (.bool false) ∧ Below w.heap.size w w' := by
  have hi := is_idx A cap L g lb p w eg h hl hp
  have hm : rwIdx p L = -1 := rwIdx_none (d := 0) (fun j hj => hn _ (rw_mem hj))
  rw [hm] at hi
  clear h hp hn hm
  go_enter Tryz.func117, Tryz.ntmps117
  go_wp2_with fail
  refine hi.mono ?_
  rintro e w1 ⟨rfl, hb⟩
  have HB := Lib.hid hb
  clear hi hb
  go_wp2_with fail
  go_ret
  exact ⟨rfl, HB.out⟩

/-! ### numbersFault -/
theorem enters_nums : ∀ args w, (callFunc 118 args).run Tryz.prog w = .ok (.enter 118 args) w := enters_of Tryz.func118 (by kernel_rfl) rfl
set_option maxRecDepth 100000 in
theorem nums_clos (n : Int) (W : World) (hn : 0 ≤ n ∧ n ≤ 2000000000000) :
    Calls Tryz.prog 118 #[.int .i64 n] W fun en w' => en = .returned (.bool false) ∧ Below W.heap.size W w' := by
  have hin : (decide (n < (0 : Int)) || decide (2000000000000 < n)) = false := by simp; omega
  go_enter Tryz.func118, Tryz.ntmps118
  go_wp2_with fail
  refine (outside_any _ _ _ _).mono ?_
  rintro e w3 ⟨rfl, rfl⟩
  rw [hin]
  go_wp2_with fail
  go_ret
  exact ⟨rfl, Below.refl _ _⟩
set_option maxRecDepth 100000 in
theorem numbersFault_any (A : Option Addr) (cap : Nat) (L : List Int) (w : World) (h : IsAt w A L) (h0 : 0 < L.length) (hl : L.length ≤ 1000) (hr : ∀ e ∈ L, 0 ≤ e ∧ e ≤ 2000000000000) :
    Calls Tryz.prog 71 #[.slice A L.length cap] w fun e w' => e = .returned (.int .i64 0) ∧ Below w.heap.size w w' := by
  have hc := is_any A cap L 118 #[] (fun _ => false) w enters_nums h (by omega) (fun W e he _ => nums_clos e W (hr e he)) (fun _ _ => rfl)
  clear h hr
  have hd0 : ((L.length : Int) == 0) = false := by rw [beq_eq_false_iff_ne]; omega
  go_enter Tryz.func71, Tryz.ntmps71
  go_wp2_with fail
  refine hc.mono ?_
  rintro e w1 ⟨rfl, hb⟩
  have HB := Lib.hid hb
  clear hc hb
  go_wp2_with fail
  go_ret
  exact ⟨rfl, HB.out⟩
end Go.Proofs.YtgmeblgfcmkcgaaGreatDoor
