/- Translators: the closure of In; slices.IndexFunc, ContainsFunc over spots. -/
import Derived.Test.YtphjgjcbolmdiaaGreatDoorNtJ
namespace Go.Proofs.YtphjgjcbolmdiaaGreatDoor
open Go.RowKit Go.Hw

/-- Is a packet from s let in where one went out to x? -/
def letsIn (n : NatC) (s x : Spot) : Bool := (seenS x n.lets).beq (seenS s n.lets)

set_option maxRecDepth 100000 in
set_option maxHeartbeats 2000000 in
theorem inClos (T : Nat) (n : NatC) (now next : Int) (lv : Value) (bt bs : Nat) (s x : Spot) (w : World) (h : w.heap[T]? = some (trObj n now next lv)) (hs : SpotAt w bs s) (ht : OneAt w bt (.pointer (some ⟨T, 0, none⟩))) :
    Calls Tryz.prog 40 #[.agg #[.bool x.six, .int .u64 x.hi, .int .u64 x.lo, .int .i64 x.port], .pointer (some ⟨bt, 0, none⟩), .pointer (some ⟨bs, 0, none⟩)] w fun e w' => e = .returned (.bool (letsIn n s x)) ∧ Below w.heap.size w w' := by
  go_enter Tryz.func40, Tryz.ntmps40
  go_wp2_with fail
  generalize hW : World.alloc _ _ = W
  have hb : Below w.heap.size w W := by rw [← hW]; exact (Below.refl _ _).alloc (Nat.le_refl _) _
  have hx : SpotAt W w.heap.size x := by rw [← hW]; exact spotAt_new w x _
  clear hW
  obtain ⟨lx, x0, x1, x2, x3⟩ := hx
  obtain ⟨ls, s0, s1, s2, s3⟩ := hs.below hb
  obtain ⟨lt, t0⟩ := ht.below hb
  have hT := tr_below h hb
  have m1 := tr_cell hT 1
  have lT := tr_lt hT
  simp only [List.getElem?_toArray, List.getElem?_cons_zero, List.getElem?_cons_succ] at m1
  have hs1 := fun W => seen_any x n.lets W
  have hs2 := fun W => seen_any s n.lets W
  unfold spotV at hs1 hs2
  have q1 := fun w => run_eq_spot (seenS x n.lets) (seenS s n.lets) w
  have g1 := guard_spot
  have HF : Hid (letsIn n s x = (seenS x n.lets).beq (seenS s n.lets)) := Lib.hid rfl
  generalize seenS x n.lets = sx at *
  generalize seenS s n.lets = ss at *
  have HB := Lib.hid hb
  clear hb hT h hs ht
  go_region_held3 (fun w' => w'.cell? ⟨w.heap.size, 0, none⟩ = some (.bool x.six) ∧ w'.cell? ⟨w.heap.size, 1, none⟩ = some (.int .u64 x.hi) ∧ w'.cell? ⟨w.heap.size, 2, none⟩ = some (.int .u64 x.lo) ∧ w'.cell? ⟨w.heap.size, 3, none⟩ = some (.int .i64 x.port) ∧
      w'.cell? ⟨bt, 0, none⟩ = some (.pointer (some ⟨T, 0, none⟩)) ∧ w'.cell? ⟨T, 1, none⟩ = some (.int .i64 n.lets) ∧
      w'.cell? ⟨bs, 0, none⟩ = some (.bool s.six) ∧ w'.cell? ⟨bs, 1, none⟩ = some (.int .u64 s.hi) ∧ w'.cell? ⟨bs, 2, none⟩ = some (.int .u64 s.lo) ∧ w'.cell? ⟨bs, 3, none⟩ = some (.int .i64 s.port))
    ((repeat' apply And.intro) <;> (repeat (first | with_reducible assumption | rw [cell_drew] | rw [Below.cell hb2 (by first | (simp; omega) | (have q := hb1.size; simp at q ⊢; omega))] | rw [Below.cell hb1 (by first | (simp; omega) | (have q := hb2.size; simp at q ⊢; omega))])))
    (first | (go_at_call 36; (with_reducible refine (hs1 _).mono ?_); rintro e w1 ⟨rfl, hb1⟩) | (go_at_call 36; (with_reducible refine (hs2 _).mono ?_); rintro e w2 ⟨rfl, hb2⟩))
  have hfin : Below w.heap.size w w2 := HB.out.trans (((drewB hb1).trans (hb2.mono (by have q := hb1.size; simpa using q))).mono HB.out.size)
  have HB2 := Lib.hid hfin
  clear hfin hb1 hb2
  go_wp2_with fail
  go_ret
  exact ⟨ret_bool HF.out.symm, HB2.out⟩

theorem enters40 : ∀ args w, (callFunc 40 args).run Tryz.prog w = .ok (.enter 40 args) w := enters_of Tryz.func40 (by kernel_rfl) rfl

set_option maxRecDepth 100000 in
set_option maxHeartbeats 1000000 in
theorem idxLet_any (A : Option Addr) (cap : Nat) (L : List Spot) (T : Nat) (n : NatC) (now next : Int) (lv : Value) (bt bs : Nat) (s : Spot) (w : World) (hA : SpotsAt w A L) (hl : L.length ≤ 1000000)
    (h : w.heap[T]? = some (trObj n now next lv)) (hs : SpotAt w bs s) (ht : OneAt w bt (.pointer (some ⟨T, 0, none⟩))) :
    Calls Tryz.prog 70 #[.slice A L.length cap, .func (.func 40) #[] #[.pointer (some ⟨bt, 0, none⟩), .pointer (some ⟨bs, 0, none⟩)]] w fun e w' => e = .returned (.int .i64 (idxP (letsIn n s) L)) ∧ Below w.heap.size w w' := by
  go_enter Tryz.func70, Tryz.ntmps70
  go_wp2_with fail
  go_loopw [8] (fun v wr => ∃ k : Nat, k ≤ L.length ∧ v = .int .i64 k ∧ (∀ j, j < k → letsIn n s (L.getD j noSpot) = false) ∧ Below w.heap.size w wr) (fun v _ => L.length - (intOf v).toNat)
  case atStart => exact ⟨0, Nat.zero_le _, rfl, fun j hj => by omega, Below.refl _ _⟩
  case round =>
    obtain ⟨k, hk, rfl, hf, hb⟩ := hrel
    have hlr := hA.below hb
    by_cases hlt : k < L.length
    · obtain ⟨g5, off, rfl, hgB, c0, c1, c2, c3⟩ := hlr k hlt
      have HCALL := inClos T n now next lv bt bs s (L.getD k noSpot) wr (tr_below h hb) (hs.below hb) (ht.below hb)
      generalize hx : L.getD k noSpot = x at *
      have HFF := Lib.hid hf
      have HX := Lib.hid hx
      have HB := Lib.hid hb
      clear hf hx hb hlr hA h hs ht
      have hd : decide ((k : Int) < (L.length : Int)) = true := by simp; omega
      cases hq : letsIn n s x
      · rw [hq] at HCALL
        go_wp2_with fail
        refine HCALL.mono ?_
        rintro e w1 ⟨rfl, hb1⟩
        go_wp2_with fail
        go_roundw
        case rel => exact ⟨k + 1, by omega, by go_num, fun j hj => (by
          by_cases e : j = k
          · rw [e, HX.out]; exact hq
          · exact HFF.out j (by omega)), HB.out.trans (hb1.mono HB.out.size)⟩
        case measure => simp [intOf]; omega
      · rw [hq] at HCALL
        go_wp2_with fail
        refine HCALL.mono ?_
        rintro e w1 ⟨rfl, hb1⟩
        go_wp2_with fail
        go_ret
        exact ⟨ret_eq (idxP_at hlt HFF.out (by rw [HX.out]; exact hq)).symm, HB.out.trans (hb1.mono HB.out.size)⟩
    · have : k = L.length := by omega
      subst this
      have HF := Lib.hid hf
      clear hf
      have hd : decide ((L.length : Int) < (L.length : Int)) = false := by simp
      go_wp2_with fail
      go_ret
      exact ⟨ret_eq (idxP_none HF.out).symm, hb⟩

set_option maxRecDepth 100000 in
set_option maxHeartbeats 400000 in
theorem anyLet_any (A : Option Addr) (cap : Nat) (L : List Spot) (T : Nat) (n : NatC) (now next : Int) (lv : Value) (bt bs : Nat) (s : Spot) (w : World) (hA : SpotsAt w A L) (hl : L.length ≤ 1000000)
    (h : w.heap[T]? = some (trObj n now next lv)) (hs : SpotAt w bs s) (ht : OneAt w bt (.pointer (some ⟨T, 0, none⟩))) :
    Calls Tryz.prog 39 #[.slice A L.length cap, .func (.func 40) #[] #[.pointer (some ⟨bt, 0, none⟩), .pointer (some ⟨bs, 0, none⟩)]] w fun e w' => e = .returned (.bool (L.any (letsIn n s))) ∧ Below w.heap.size w w' := by
  have hcall := idxLet_any A cap L T n now next lv bt bs s w hA hl h hs ht
  clear hA h hs ht
  rcases idxP_any (letsIn n s) L with ⟨h1, h2⟩ | ⟨h1, h2⟩
  · rw [h1]
    generalize idxP (letsIn n s) L = r at *
    go_enter Tryz.func39, Tryz.ntmps39
    go_wp2_with fail
    refine hcall.mono ?_
    rintro e w1 ⟨rfl, hb⟩
    go_wp2_with fail
    go_ret
    exact ⟨rfl, hb⟩
  · rw [h1]
    rw [h2] at hcall
    go_enter Tryz.func39, Tryz.ntmps39
    go_wp2_with fail
    refine hcall.mono ?_
    rintro e w1 ⟨rfl, hb⟩
    go_wp2_with fail
    go_ret
    exact ⟨rfl, hb⟩
end Go.Proofs.YtphjgjcbolmdiaaGreatDoor
