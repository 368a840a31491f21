/- Translators: rows of spots; slices.Contains, ContainsFunc over spots; what a translator lets in. -/
import Derived.Test.YtphjgjcbolmdiaaGreatDoorNtI
namespace Go.Proofs.YtphjgjcbolmdiaaGreatDoor
open Go.RowKit Go.Hw

def spotsC (L : List Spot) : List Value := L.flatMap spotC
theorem spotsC_length (L : List Spot) : (spotsC L).length = L.length * 4 := by
  induction L with
  | nil => rfl
  | cons x L ih => simp only [spotsC, List.flatMap_cons, List.length_append, List.length_cons] at ih ⊢; rw [ih]; simp [spotC]; omega
theorem spotsC_at : ∀ (L : List Spot) (i j : Nat), i < L.length → j < 4 → (spotsC L)[i * 4 + j]? = (spotC (L.getD i noSpot))[j]?
  | [], i, _, h, _ => by simp at h
  | x :: L, 0, j, _, hj => by
    have e : spotsC (x :: L) = spotC x ++ spotsC L := rfl
    rw [e, List.getElem?_append_left (by simp [spotC]; omega)]
    simp
  | x :: L, i + 1, j, h, hj => by
    have e : spotsC (x :: L) = spotC x ++ spotsC L := rfl
    have := spotsC_at L i j (by simpa using h) hj
    rw [e, List.getElem?_append_right (by simp [spotC]; omega)]
    have hl : (spotC x).length = 4 := rfl
    rw [hl, show (i + 1) * 4 + j - 4 = i * 4 + j by omega, this]
    simp
def SpotsAt (w : World) (A : Option Addr) (L : List Spot) : Prop := ∀ i, i < L.length → ∃ g off, A = some ⟨g, off, none⟩ ∧ g < w.heap.size ∧
  w.cell? ⟨g, off + i * 4, none⟩ = some (.bool (L.getD i noSpot).six) ∧ w.cell? ⟨g, off + i * 4 + 1, none⟩ = some (.int .u64 (L.getD i noSpot).hi) ∧ w.cell? ⟨g, off + i * 4 + 2, none⟩ = some (.int .u64 (L.getD i noSpot).lo) ∧ w.cell? ⟨g, off + i * 4 + 3, none⟩ = some (.int .i64 (L.getD i noSpot).port)
theorem SpotsAt.below {w w' : World} {A : Option Addr} {L : List Spot} (h : SpotsAt w A L) (hb : Below w.heap.size w w') : SpotsAt w' A L := fun i hi =>
  let ⟨g, off, h1, h2, h3, h4, h5, h6⟩ := h i hi
  ⟨g, off, h1, Nat.lt_of_lt_of_le h2 hb.size, (hb.cell h2).trans h3, (hb.cell h2).trans h4, (hb.cell h2).trans h5, (hb.cell h2).trans h6⟩
theorem spots_at {w : World} {base : Nat} {T : TypeId} {A : Option Addr} {cap : Nat} {L : List Spot} (h : w.ownsRow base T 4 (.slice A L.length cap) L.length (spotsC L)) : SpotsAt w A L := by
  have hlt := h.lt
  rcases h.2 with ⟨h1, h2⟩ | ⟨g, cap, cur, h1, _⟩
  · exact fun i hi => by omega
  · injection h1 with h1
    subst h1
    intro i hi
    refine ⟨g, 0, rfl, (hlt g rfl).2, ?_⟩
    have hc := fun j u hu => h.cells (g := g) rfl j u hu
    have hadd : ∀ j, (⟨g, 0, none⟩ : Addr).add j = ⟨g, 0 + j, none⟩ := fun j => by unfold Addr.add; split <;> simp_all
    have hcc : ∀ j u, j < 4 → (spotC (L.getD i noSpot))[j]? = some u → w.cell? ⟨g, 0 + i * 4 + j, none⟩ = some u := by
      intro j u hj hu
      have := hc (i * 4 + j) u ((spotsC_at L i j hi hj).trans hu)
      rwa [hadd, ← Nat.add_assoc] at this
    exact ⟨hcc 0 _ (by omega) rfl, hcc 1 _ (by omega) rfl, hcc 2 _ (by omega) rfl, hcc 3 _ (by omega) rfl⟩

set_option maxRecDepth 100000 in
set_option maxHeartbeats 1000000 in
theorem idxSpot_any (A : Option Addr) (cap : Nat) (L : List Spot) (s : Spot) (w : World) (h : SpotsAt w A L) (hl : L.length ≤ 1000000) :
    Calls Tryz.prog 69 #[.slice A L.length cap, .agg #[.bool s.six, .int .u64 s.hi, .int .u64 s.lo, .int .i64 s.port]] w fun e w' => e = .returned (.int .i64 (idxP (fun x => s.beq x) L)) ∧ Below w.heap.size w w' := by
  go_enter Tryz.func69, Tryz.ntmps69
  go_wp2_with fail
  go_loopw [8] (fun v wr => ∃ k : Nat, k ≤ L.length ∧ v = .int .i64 k ∧ (∀ j, j < k → s.beq (L.getD j noSpot) = false) ∧ Below w.heap.size w wr ∧ wr.heap[w.heap.size]? = some (.cells #[.bool s.six, .int .u64 s.hi, .int .u64 s.lo, .int .i64 s.port] 42 (0, 0))) (fun v _ => L.length - (intOf v).toNat)
  case atStart => exact ⟨0, Nat.zero_le _, rfl, fun j hj => by omega, (Below.refl _ _).alloc (Nat.le_refl _) _, heap_alloc_new w _⟩
  case round =>
    obtain ⟨k, hk, rfl, hf, hb, hbx⟩ := hrel
    obtain ⟨l5, s0, s1, s2, s3⟩ := spotAt_of hbx
    have hlr := h.below hb
    by_cases hlt : k < L.length
    · obtain ⟨g5, off, rfl, hgB, c0, c1, c2, c3⟩ := hlr k hlt
      have q1 := fun w => run_eq_spot s (L.getD k noSpot) w
      have g1 := guard_spot
      generalize hx : L.getD k noSpot = x at *
      have HF := Lib.hid hf
      have HX := Lib.hid hx
      have HB := Lib.hid hb
      have HBX := Lib.hid hbx
      clear hf hx hb hlr h hbx
      have hd : decide ((k : Int) < (L.length : Int)) = true := by simp; omega
      cases hq : s.beq x
      · go_wp2_with fail
        go_quiet (fail)
        go_wp2_with fail
        go_roundw
        case rel => exact ⟨k + 1, by omega, by go_num, fun j hj => (by
          by_cases e : j = k
          · rw [e, HX.out]; exact hq
          · exact HF.out j (by omega)), belowQ HB.out _, HBX.out⟩
        case measure => simp [intOf]; omega
      · go_wp2_with fail
        go_quiet (fail)
        go_wp2_with fail
        go_ret
        exact ⟨ret_eq (idxP_at hlt HF.out (by rw [HX.out]; exact hq)).symm, belowQ HB.out _⟩
    · have : k = L.length := by omega
      subst this
      have HF := Lib.hid hf
      have HB := Lib.hid hb
      have hd : decide ((L.length : Int) < (L.length : Int)) = false := by simp
      clear hf hb hbx
      go_wp2_with fail
      go_ret
      exact ⟨ret_eq (idxP_none HF.out).symm, HB.out⟩

set_option maxRecDepth 100000 in
set_option maxHeartbeats 400000 in
theorem hasSpot_any (A : Option Addr) (cap : Nat) (L : List Spot) (s : Spot) (w : World) (h : SpotsAt w A L) (hl : L.length ≤ 1000000) :
    Calls Tryz.prog 37 #[.slice A L.length cap, .agg #[.bool s.six, .int .u64 s.hi, .int .u64 s.lo, .int .i64 s.port]] w fun e w' => e = .returned (.bool (L.any fun x => s.beq x)) ∧ Below w.heap.size w w' := by
  have hcall := fun W (hb : Below w.heap.size w W) => idxSpot_any A cap L s W (h.below hb) hl
  rcases idxP_any (fun x => s.beq x) L with ⟨h1, h2⟩ | ⟨h1, h2⟩
  · rw [h1]
    generalize idxP (fun x => s.beq x) L = r at *
    go_enter Tryz.func37, Tryz.ntmps37
    go_wp2_with fail
    refine (hcall _ ((Below.refl _ _).alloc (Nat.le_refl _) _)).mono ?_
    rintro e w1 ⟨rfl, hb⟩
    go_wp2_with fail
    go_ret
    exact ⟨rfl, below_box (Below.refl _ w) (Nat.le_refl _) hb⟩
  · rw [h1]
    rw [h2] at hcall
    go_enter Tryz.func37, Tryz.ntmps37
    go_wp2_with fail
    refine (hcall _ ((Below.refl _ _).alloc (Nat.le_refl _) _)).mono ?_
    rintro e w1 ⟨rfl, hb⟩
    go_wp2_with fail
    go_ret
    exact ⟨rfl, below_box (Below.refl _ w) (Nat.le_refl _) hb⟩
end Go.Proofs.YtphjgjcbolmdiaaGreatDoor
