/- TranslatorsAreApart: the walk. -/
import Derived.Test.YtphjgjcbolmdiaaGreatDoorNtS
import Derived.Test.YtphjgjcbolmdiaaGreatDoorNtT
import Derived.Test.YtphjgjcbolmdiaaGreatDoorReady
import Derived.Carry
namespace Go.Proofs.YtphjgjcbolmdiaaGreatDoor
open Go.RowKit Go.Hw

/-- The translator, the map of ports and what the law holds. -/
structure TrH (w wr : World) (n : NatC) (T M N4 b : Nat) (now next : Int) (A : Option Addr) (cap : Nat) (L : List Ent) (F : Nat → Prop) : Prop where
  tr : TrAt wr F T n now next A cap L
  map : HwI.MapIs wr M spotV (pairsOf L)
  fp : ∀ j, F j → j < wr.heap.size ∧ j ≠ b ∧ j ≠ M ∧ j ≠ N4 ∧ w.heap.size ≤ j
  box : wr.heap[N4]? = some (.cells #[.int .i64 n.maps, .int .i64 n.lets, .int .i64 n.timeout, .int .i64 n.first, .int .i64 n.ports, .bool n.six, .int .u64 n.hi, .int .u64 n.lo] 30 (0, 0))
  below : Below w.heap.size w wr
theorem TrH.grown {w wr w1 : World} {n : NatC} {T M N4 b : Nat} {now next : Int} {A : Option Addr} {cap : Nat} {L : List Ent} {F : Nat → Prop} (h : TrH w wr n T M N4 b now next A cap L F) (hg : wr.grownBy w1 (some b)) (hM : M ≠ b) (hN : N4 ≠ b) (hb : w.heap.size ≤ b) : TrH w w1 n T M N4 b now next A cap L F where
  tr := h.tr.keep (fun k hk hl => hg.block k hl (fun e => (h.fp k hk).2.1 (by injection e))) fun _ h => h
  map := h.map.grown hg (fun e => hM (by injection e))
  fp := fun j hj => ⟨Nat.lt_of_lt_of_le (h.fp j hj).1 hg.size, (h.fp j hj).2⟩
  box := (hg.block N4 (lt_of_block h.box) (fun e => hN (by injection e))).trans h.box
  below := h.below.grown hg h.below.size (fun j e => by injection e with e; omega)
theorem TrH.on {w wr w1 : World} {n : NatC} {T M N4 b : Nat} {now next : Int} {A : Option Addr} {cap : Nat} {L : List Ent} {F : Nat → Prop} (h : TrH w wr n T M N4 b now next A cap L F) (hb : Below wr.heap.size wr w1) : TrH w w1 n T M N4 b now next A cap L F where
  tr := h.tr.below hb
  map := h.map.below hb h.map.lt
  fp := fun j hj => ⟨Nat.lt_of_lt_of_le (h.fp j hj).1 hb.size, (h.fp j hj).2⟩
  box := (hb.block N4 (lt_of_block h.box)).trans h.box
  below := h.below.trans (hb.mono h.below.size)
theorem TrH.stored {w W6 w8 : World} {n : NatC} {T M N4 b : Nat} {now next : Int} {A : Option Addr} {cap : Nat} {L : List Ent} {F : Nat → Prop} (hT : TrAt W6 F T n now next A cap L)
    (hF : ∀ j, F j → j < W6.heap.size ∧ j ≠ b ∧ j ≠ M ∧ j ≠ N4 ∧ w.heap.size ≤ j)
    (hN : W6.heap[N4]? = some (.cells #[.int .i64 n.maps, .int .i64 n.lets, .int .i64 n.timeout, .int .i64 n.first, .int .i64 n.ports, .bool n.six, .int .u64 n.hi, .int .u64 n.lo] 30 (0, 0)))
    (hB : Below w.heap.size w W6) (hM : HwI.MapIs w8 M spotV (pairsOf L)) (hg : W6.grownBy w8 (some M)) (hMw : w.heap.size ≤ M) (hNM : N4 ≠ M) : TrH w w8 n T M N4 b now next A cap L F where
  tr := hT.keep (fun k hk hl => hg.block k hl (fun e => (hF k hk).2.2.1 (by injection e))) fun _ h => h
  map := hM
  fp := fun j hj => ⟨Nat.lt_of_lt_of_le (hF j hj).1 hg.size, (hF j hj).2⟩
  box := (hg.block N4 (lt_of_block hN) (fun e => hNM (by injection e))).trans hN
  below := hB.grown hg hB.size (fun j e => by injection e with e; omega)
theorem TrH.let_in {w w8 w9 : World} {n : NatC} {T M N4 b : Nat} {now next : Int} {A : Option Addr} {cap : Nat} {L : List Ent} {F : Nat → Prop} (h : TrH w w8 n T M N4 b now next A cap L F) (hc : Chg F w8 w9) (ht : TrAt w9 F T n now next A cap L) : TrH w w9 n T M N4 b now next A cap L F where
  tr := ht
  map := h.map.keep (hc.block M h.map.lt fun hf => (h.fp M hf).2.2.1 rfl)
  fp := fun j hj => ⟨Nat.lt_of_lt_of_le (h.fp j hj).1 hc.size, (h.fp j hj).2⟩
  box := (hc.block N4 (lt_of_block h.box) fun hf => (h.fp N4 hf).2.2.2.1 rfl).trans h.box
  below := h.below.trans ⟨hc.os, hc.tape, hc.output, hc.size, fun j hj => hc.block j (by have := h.below.size; omega) fun hf => by have := (h.fp j hf).2.2.2.2; omega⟩
theorem TrH.str_in {w w8 w9 : World} {n : NatC} {T M N4 : Nat} {now next : Int} {A : Option Addr} {cap : Nat} {L : List Ent} {F : Nat → Prop} {Aq : Option Addr} {cq : Nat} {l : List Int} {x : Int} (h : TrH w w8 n T M N4 w.heap.size now next A cap L F) (hc : Chg F w8 w9) (hs : Str w8 w.heap.size Aq cq l x) : Str w9 w.heap.size Aq cq l x :=
  hs.keep (hc.block _ hs.lt fun hf => (h.fp _ hf).2.1 rfl) fun p hp => World.cell?_of_block (w := w8) (hc.block _ (by have := hs.lt; omega) fun hf => by have := (h.fp _ hf).2.2.2.2; omega)
/-- What is known at the head of a round. -/
def TrInv (w : World) (n : NatC) (T M N4 b : Nat) (Aq : Option Addr) (cq : Nat) (l : List Int) (at0 : Int) (k : Nat) (wr : World) : Prop :=
  ∃ at_ now next A cap L F, Str wr b Aq cq l at_ ∧ (at0 ≤ at_ ∧ at_ ≤ at0 + 40 * k) ∧ TrH w wr n T M N4 b now next A cap L F ∧ (0 ≤ now ∧ now ≤ 5) ∧ Apt n next L k
theorem pick17 (x : Int) (h0 : 0 ≤ x) (h1 : x < 2) : ([1, 7] : List Int).getD x.toNat 0 = 1 ∨ ([1, 7] : List Int).getD x.toNat 0 = 7 := by
  have : x.toNat = 0 ∨ x.toNat = 1 := by omega
  rcases this with h | h <;> rw [h] <;> simp
theorem in_code {x p : Int} (hx : 0 ≤ x ∧ x < 2) (hp : p = 1 ∨ p = 7) : spotCode ⟨false, 0, 1 + x, p⟩ = 0 := by
  unfold spotCode addrCode portCode
  rw [if_neg (by simp; omega), if_pos (by simp; omega)]
/-- The code is one of a few. -/
theorem zeroSpot (w : World) : (zeroValue 42).run Tryz.prog w = .ok (spotV noSpot) w := by
  unfold spotV noSpot
  kernel_rfl
theorem nat_fine {n : NatC} (h : natCode n = 0) : Fine n := by
  unfold natCode at h
  unfold Fine
  split at h
  · omega
  split at h
  · omega
  split at h
  · omega
  split at h
  · omega
  split at h
  · omega
  rename_i h1 h2 h3 h4 h5
  simp only [Decidable.not_not] at h1 h2 h3 h4 h5
  exact ⟨h1.1, h1.2, h2.1, h2.2, h3.1, h3.2, h4.1, h4.2, h5.1, h5.2⟩

set_option maxRecDepth 100000 in
set_option maxHeartbeats 4000000 in
theorem translators_any (A : Option Addr) (cap : Nat) (l : List Int) (w : World) (hA : ∀ i, i < l.length → ∃ g off, A = some ⟨g, off, none⟩ ∧ g < w.heap.size ∧ w.cell? ⟨g, off + i, none⟩ = some (.int .i64 (l.getD i 0)))
    (hfits : ∀ i, -9223372036854775808 ≤ l.getD i 0 ∧ l.getD i 0 ≤ 9223372036854775807) (hlong : l.length ≤ 17592186044416) :
    Calls Tryz.prog 3 #[.slice A l.length cap] w fun e w' => e = .returned (.bool true) ∧ Below w.heap.size w w' := by
  have hs0 : Str (w.alloc (.cells #[.slice A l.length cap, .int .i64 0] 25)) w.heap.size A cap l 0 := {
    cell := heap_alloc_new w _
    ints := fun i hi => by
      obtain ⟨g, off, h1, h2, h3⟩ := hA i hi
      exact ⟨g, off, h1, h2, by rw [World.cell?_alloc_lt _ _ _ h2]; exact h3⟩
    fits := hfits
    long := hlong
    low := by omega
    high := by omega }
  have hB0 : Below w.heap.size w (w.alloc (.cells #[.slice A l.length cap, .int .i64 0] 25)) := (Below.refl _ _).alloc (Nat.le_refl _) _
  have HS := Lib.hid hs0
  have HB := Lib.hid hB0
  clear hs0 hB0 hA hfits
  go_enter Tryz.func3, Tryz.ntmps3
  go_wp2_with fail
  generalize hW : World.alloc _ _ = W1 at HS HB ⊢
  clear hW
  have hlt1 := HS.out.lt
  refine Calls.mono (nat_any w.heap.size A cap l 0 W1 HS.out (by omega)) ?_
  rintro _ W2 ⟨n, rfl, hn0, at2, ha1, ha2, hs2, hg2⟩
  have HB2 := Lib.hid (HB.out.grown hg2 HB.out.size (fun j e => by injection e with e; omega))
  clear HS HB hg2
  go_wp2_with fail
  generalize hW : World.alloc _ _ = W3
  have hs3 : Str W3 w.heap.size A cap l at2 := by rw [← hW]; exact hs2.alloc _
  have HB3 := Lib.hid (show Below w.heap.size w W3 by rw [← hW]; exact HB2.out.alloc HB2.out.size _)
  have hN3 : W3.heap[W2.heap.size]? = some (.cells #[.int .i64 n.maps, .int .i64 n.lets, .int .i64 n.timeout, .int .i64 n.first, .int .i64 n.ports, .bool n.six, .int .u64 n.hi, .int .u64 n.lo] 30 (0, 0)) := by rw [← hW]; exact heap_alloc_new W2 _
  have hbn : w.heap.size < W2.heap.size := hs2.lt
  clear hW hs2 HB2
  refine Calls.mono (refNatFault_any n W3 hn0) ?_
  rintro _ W4 ⟨rfl, hb4⟩
  have hs4 := hs3.grown (grownB hb4 none) (fun k e => by cases e)
  have HB4 := Lib.hid (HB3.out.trans (hb4.mono HB3.out.size))
  have HN4 := Lib.hid ((hb4.block W2.heap.size (lt_of_block hN3)).trans hN3)
  clear hs3 HB3 hN3 hb4
  by_cases hc : natCode n = 0
  rotate_left
  · have hcc : (natCode n != 0) = true := by simpa using hc
    go_wp2_with fail
    refine Calls.mono (ready_true W4) ?_
    rintro _ W5 ⟨rfl, hb5⟩
    have HB5 := Lib.hid (HB4.out.trans (hb5.mono HB4.out.size))
    clear hb5
    go_wp2_with fail
    go_ret
    exact ⟨rfl, HB5.out⟩
  have HC := Lib.hid hc
  rw [hc]
  clear hc
  obtain ⟨⟨z0, z1, z2, z3, z4, z5, z6, z7⟩, -⟩ := res8 HN4.out
  go_wp2_with fail
  clear z0 z1 z2 z3 z4 z5 z6 z7
  refine Calls.mono (new_any n W4 hn0 HC.out) ?_
  rintro _ W5 ⟨T, rfl, hT5, hb5, hT0, hT1⟩
  have hs5 := hs4.grown (grownB hb5 none) (fun k e => by cases e)
  have HB5 := Lib.hid (HB4.out.trans (hb5.mono HB4.out.size))
  have HN5 := Lib.hid ((hb5.block W2.heap.size (lt_of_block HN4.out)).trans HN4.out)
  have hn5 := lt_of_block HN4.out
  have HT5 := Lib.hid hT5
  clear hT5 hb5 hs4 HB4 HN4
  have hmm := @run_makeMap Tryz.prog
  go_wp2_with fail
  clear hmm
  obtain ⟨W6, hW6⟩ : ∃ W6, W5.alloc (.map #[] 0) = W6 := ⟨_, rfl⟩
  have hs6 : Str W6 w.heap.size A cap l at2 := by rw [← hW6]; exact hs5.alloc _
  have hH6 : W6.heap.size = W5.heap.size + 1 ∧ TrH w W6 n T W5.heap.size W2.heap.size w.heap.size 0 n.first none 0 [] (fun k => k = T) := by
    have hz : W6.heap.size = W5.heap.size + 1 := by rw [← hW6]; simp
    refine ⟨hz, ⟨by rw [← hW6]; exact HT5.out.below ((Below.refl _ _).alloc (Nat.le_refl _) _), by rw [← hW6]; exact HwI.MapIs.made W5 spotV, ?_, ?_, ?_⟩⟩
    · rintro j rfl
      exact ⟨by omega, by omega, by omega, by omega, by omega⟩
    · rw [← hW6]; exact (heap_alloc_old W5 _ (lt_of_block HN5.out)).trans HN5.out
    · rw [← hW6]; exact HB5.out.alloc HB5.out.size _
  have HH6 := Lib.hid hH6
  rw [hW6]
  clear hH6 hW6 hs5
  refine (range_any w.heap.size A cap l at2 1 8 W6 hs6 (by omega) (by omega) (by omega) (by omega) (by omega)).mono ?_
  rintro e W7 ⟨rfl, hs7, hg7⟩
  have p0 := draw_low l at2 8 (by omega)
  have p1 := draw_high l at2 8 (by omega)
  rw [show (8 : Int) - 1 + 1 = 8 by omega]
  generalize drawOf l at2 8 = dm at *
  obtain ⟨m, hm⟩ := Int.eq_ofNat_of_zero_le (show 0 ≤ 1 + dm by omega)
  rw [hm]
  have hm8 : m ≤ 8 := by omega
  have hTb : W5.heap.size ≠ w.heap.size ∧ W2.heap.size ≠ w.heap.size ∧ W5.heap.size ≠ W2.heap.size := by
    have := HB5.out.size
    omega
  have hI7 : TrInv w n T W5.heap.size W2.heap.size w.heap.size A cap l (at2 + 1) 0 W7 :=
    ⟨at2 + 1, 0, n.first, none, 0, [], _, hs7, by simp, HH6.out.2.grown hg7 hTb.1 hTb.2.1 (Nat.le_refl _), by omega, Apt.nil (nat_fine HC.out)⟩
  have HI7 := Lib.hid hI7
  clear hs6 hg7 hI7 HH6 hs7 hm p0 p1 HT5
  generalize W5.heap.size = M at *
  generalize W2.heap.size = N4 at *
  go_wp2_with fail
  go_loopw [42] (fun v wr => ∃ k : Nat, k ≤ m ∧ v = .int .i64 k ∧ TrInv w n T M N4 w.heap.size A cap l (at2 + 1) k wr) (fun v _ => m - (intOf v).toNat)
  case atStart => exact ⟨0, by omega, rfl, HI7.out⟩
  case round =>
    obtain ⟨k, hk, rfl, at_, now, next, A', cap', L, F, hS, hat, hH, hnow, hap⟩ := hrel
    have HH := Lib.hid hH
    have HP := Lib.hid hap
    have l0 := hS.low
    clear hH HI7 hap
    by_cases hkm : k < m
    · have p0 := draw_low l at_ 2 (by omega)
      have p1 := draw_high l at_ 2 (by omega)
      have hda : decide (k < m) = true := by simpa using hkm
      go_wp2_with fail
      refine (range_any w.heap.size A cap l at_ 1 2 wr hS (by omega) (by omega) (by omega) (by omega) (by omega)).mono ?_
      rintro e w1 ⟨rfl, hs1, hg1⟩
      rw [show (2 : Int) - 1 + 1 = 2 by omega]
      generalize drawOf l at_ 2 = d1 at *
      have HH1 := Lib.hid (HH.out.grown hg1 hTb.1 hTb.2.1 (Nat.le_refl _))
      clear HH hg1 hS
      go_wp2_with fail
      refine (pick_any w.heap.size A cap l (at_ + 1) _ (hs1.alloc _) (by omega) w1.heap.size [1, 7] (by rw [heap_alloc_new]; rfl) (by have := hs1.lt; omega) (by simp) (by simp) 2 2 rfl).mono ?_
      rintro e w2 ⟨rfl, hs2, hg2⟩
      have hpp := pick17 _ (draw_low l (at_ + 1) ([1, 7] : List Int).length (by simp)) (draw_high l (at_ + 1) ([1, 7] : List Int).length (by simp))
      generalize ([1, 7] : List Int).getD (drawOf l (at_ + 1) ([1, 7] : List Int).length).toNat 0 = pp at hpp ⊢
      have HIN := Lib.hid (in_code ⟨p0, p1⟩ hpp)
      clear hpp
      have HH2 := Lib.hid (HH1.out.grown (grown_alloc_then hg2) hTb.1 hTb.2.1 (Nat.le_refl _))
      clear HH1 hg2 hs1
      go_wp2_with fail
      refine (spot_any w.heap.size A cap l _ _ hs2 (by omega)).mono ?_
      rintro e w3 ⟨d, rfl, hd0, at3, ha3, ha4, hs3, hg3⟩
      have HH3 := Lib.hid (HH2.out.grown hg3 hTb.1 hTb.2.1 (Nat.le_refl _))
      clear HH2 hg3 hs2
      go_wp2_with fail
      obtain ⟨W4, hW4⟩ : ∃ W4, (w3.alloc (.cells #[.bool false, .int .u64 0, .int .u64 (1 + d1), .int .i64 pp] 42)).alloc (.cells #[.bool d.six, .int .u64 d.hi, .int .u64 d.lo, .int .i64 d.port] 42) = W4 := ⟨_, rfl⟩
      have hb4 : Below w3.heap.size w3 W4 := by rw [← hW4]; exact ((Below.refl _ _).alloc (Nat.le_refl _) _).alloc (by simp) _
      have hi4 : W4.heap[w3.heap.size]? = some (.cells #[.bool false, .int .u64 0, .int .u64 (1 + d1), .int .i64 pp] 42 (0, 0)) := by rw [← hW4]; exact (heap_alloc_old _ _ (by simp)).trans (heap_alloc_new w3 _)
      have ht4 : W4.heap[w3.heap.size + 1]? = some (.cells #[.bool d.six, .int .u64 d.hi, .int .u64 d.lo, .int .i64 d.port] 42 (0, 0)) := by rw [← hW4]; exact (by simpa using heap_alloc_new (w3.alloc (.cells #[.bool false, .int .u64 0, .int .u64 (1 + d1), .int .i64 pp] 42)) _)
      have hs4 := hs3.grown (grownB hb4 none) (fun k e => by cases e)
      have HH4 := Lib.hid (HH3.out.on hb4)
      have HI4 := Lib.hid hi4
      have HT4 := Lib.hid ht4
      have hfar : ∀ j, F j → j ≠ w3.heap.size ∧ j ≠ w3.heap.size + 1 := fun j hj => by have := (HH3.out.fp j hj).1; omega
      have HFAR := Lib.hid hfar
      have hB3 : M < w3.heap.size ∧ N4 < w3.heap.size ∧ w.heap.size < w3.heap.size := ⟨HH3.out.map.lt, lt_of_block HH3.out.box, hs3.lt⟩
      rw [hW4]
      clear HH3 hb4 hi4 ht4 hs3 hW4 hfar
      generalize w3.heap.size = B3 at *
      refine Calls.mono (refSpotFault_any d W4 hd0) ?_
      rintro _ W5' ⟨rfl, hb5⟩
      have hs5 := hs4.grown (grownB hb5 none) (fun k e => by cases e)
      have HH5 := Lib.hid (HH4.out.on hb5)
      have HI5 := Lib.hid ((hb5.block B3 (lt_of_block HI4.out)).trans HI4.out)
      have HT5 := Lib.hid ((hb5.block (B3 + 1) (lt_of_block HT4.out)).trans HT4.out)
      clear hb5 HH4 HI4 HT4 hs4
      by_cases hc : spotCode d = 0
      rotate_left
      · have hcc : (spotCode d != 0) = true := by simpa using hc
        go_wp2_with fail
        go_roundw
        case rel => exact ⟨k + 1, by omega, by go_num, at3, now, next, A', cap', L, F, hs5, by omega, HH5.out, hnow, HP.out.more⟩
        case measure => simp [intOf]; omega
      have HC2 := Lib.hid hc
      rw [hc]
      clear hc
      obtain ⟨⟨y0, y1, y2, y3⟩, -⟩ := res4 HI5.out
      obtain ⟨⟨z0, z1, z2, z3⟩, -⟩ := res4 HT5.out
      go_wp2_with fail
      refine (out_apt T n now next F A' cap' L k ⟨false, 0, 1 + d1, pp⟩ d W5' HH5.out.tr HP.out hnow.2 (by omega) (fun j hj => (HH5.out.fp j hj).1) (by simp) hd0 HIN.out HC2.out).mono ?_
      clear y0 y1 y2 y3 z0 z1 z2 z3
      rintro e W6' (⟨rfl, hb6⟩ | ⟨port, next', A6, cap6, L6, rfl, hc6, ht6, hap6, hin6, hex6, hpr6, hgt6⟩)
      · have hs6 := hs5.grown (grownB hb6 none) (fun k e => by cases e)
        have HH6 := Lib.hid (HH5.out.on hb6)
        clear hb6 HH5 hs5
        go_wp2_with fail
        go_roundw
        case rel => exact ⟨k + 1, by omega, by go_num, at3, now, next, A', cap', L, F, hs6.alloc _, by omega, HH6.out.on ((Below.refl _ _).alloc (Nat.le_refl _) _), hnow, HP.out.more⟩
        case measure => simp [intOf]; omega
      · have HF6 := Lib.hid (show ∀ j, (Plus F W5' j ∧ j < W6'.heap.size) → j < W6'.heap.size ∧ j ≠ w.heap.size ∧ j ≠ M ∧ j ≠ N4 ∧ w.heap.size ≤ j from fun j hj => by
          rcases hj with ⟨hj | hj, hl⟩
          · exact ⟨hl, (HH5.out.fp j hj).2⟩
          · have h1 := HH5.out.map.lt
            have h2 := lt_of_block HH5.out.box
            have h3 := hs5.lt
            exact ⟨hl, by omega, by omega, by omega, by omega⟩)
        have HO6 := Lib.hid (show ∀ j, j < W5'.heap.size → ¬ F j → W6'.heap[j]? = W5'.heap[j]? from fun j h1 h2 => hc6.block j h1 h2)
        have hs6 : Str W6' w.heap.size A cap l at3 := hs5.keep (HO6.out _ hs5.lt fun hf => (HH5.out.fp _ hf).2.1 rfl) fun p hp => World.cell?_of_block (w := W5') (HO6.out _ (by have := hs5.lt; omega) fun hf => by have := (HH5.out.fp _ hf).2.2.2.2; omega)
        have HM6 := Lib.hid (show HwI.MapIs W6' M spotV (pairsOf L) from HH5.out.map.keep (HO6.out _ HH5.out.map.lt fun hf => (HH5.out.fp _ hf).2.2.1 rfl))
        have HN6 := Lib.hid ((HO6.out N4 (lt_of_block HH5.out.box) fun hf => (HH5.out.fp _ hf).2.2.2.1 rfl).trans HH5.out.box)
        have HI6 := Lib.hid ((HO6.out B3 (lt_of_block HI5.out) fun hf => (HFAR.out _ hf).1 rfl).trans HI5.out)
        have HU6 := Lib.hid ((HO6.out (B3 + 1) (lt_of_block HT5.out) fun hf => (HFAR.out _ hf).2 rfl).trans HT5.out)
        have HB6 := Lib.hid (show Below w.heap.size w W6' from HH5.out.below.trans ⟨hc6.os, hc6.tape, hc6.output, hc6.size, fun j hj => hc6.block j (by have := HH5.out.below.size; omega) fun hf => by have := (HH5.out.fp _ hf).2.2.2.2; omega⟩)
        have HT6 := Lib.hid ht6
        have HP6 := Lib.hid hap6
        have HX6 := Lib.hid hex6
        have HR6 := Lib.hid hpr6
        have HG6 := Lib.hid hgt6
        have HIN6 := Lib.hid hin6
        have hz6 : W5'.heap.size ≤ W6'.heap.size := hc6.size
        have hi6 := lt_of_block HU6.out
        have h5' := lt_of_block HT5.out
        clear hc6 HO6 HH5 HI5 HT5 hs5 ht6 hap6 hex6 hpr6 hgt6 hin6
        have hM7 : HwI.MapIs (W6'.alloc (.cells #[.bool n.six, .int .u64 n.hi, .int .u64 n.lo, .int .i64 port] 42)) M spotV (pairsOf L) := HM6.out.alloc _
        have hrun := HwI.run_get_ok hM7 (P := Tryz.prog) Tryz.underlying38 Tryz.underlying3 (zeroSpot _) port
        have HM7 := Lib.hid hM7
        obtain ⟨⟨n0, n1, n2, n3, n4, n5, n6, n7⟩, -⟩ := res8 HN6.out
        obtain ⟨⟨y0, y1, y2, y3⟩, -⟩ := res4 HI6.out
        obtain ⟨⟨z0, z1, z2, z3⟩, -⟩ := res4 HU6.out
        have lN4 : N4 < W6'.heap.size := lt_of_block HN6.out
        have lB3 : B3 < W6'.heap.size := by omega
        have lM : M < W6'.heap.size := HM6.out.lt
        obtain ⟨f1, f2, f3, f4, f5, f6, f7, f8, f9, f10⟩ := nat_fine HC.out
        have i1 : n.first ≤ port := HIN6.out.1
        have i2 : port < n.first + n.ports := HIN6.out.2
        have q1 := fun w => run_eq_spot ⟨false, 0, 1 + d1, pp⟩ ⟨false, 0, 1 + d1, pp⟩ w
        rw [Spot.beq_refl] at q1
        dsimp only at q1
        have q2 := fun w => run_eq_addr 9998 n.six n.six n.hi n.hi n.lo n.lo w
        rw [beq_self_eq_true, beq_self_eq_true, beq_self_eq_true] at q2
        have g1 := guard_spot
        have g2 := guard_addr
        clear hM7
        have hB5 : B3 + 1 < W5'.heap.size := h5'
        have hMw : w.heap.size ≤ M := by omega
        rcases HG6.out with hg | hg
        · rw [hg] at hrun
          unfold spotV noSpot at hrun
          dsimp only [Option.isSome] at hrun
          clear hg
          have hM8 : HwI.MapIs ((W6'.alloc (.cells #[.bool n.six, .int .u64 n.hi, .int .u64 n.lo, .int .i64 port] 42)).alloc (.cells #[.bool false, .int .u64 0, .int .u64 0, .int .i64 0] 42)) M spotV (pairsOf L) := HM7.out.alloc _
          obtain ⟨w8, hput, hM9, hg9, -⟩ := HwI.run_put hM8 (P := Tryz.prog) Tryz.underlying38 Tryz.underlying3 port ⟨false, 0, 1 + d1, pp⟩
          unfold spotV at hput
          dsimp only at hput
          rw [← HR6.out] at hM9
          have hg10 : W6'.grownBy w8 (some M) := grown_alloc_then (grown_alloc_then hg9)
          have HH8 := Lib.hid (TrH.stored (b := w.heap.size) HT6.out HF6.out HN6.out HB6.out hM9 hg10 (by omega) hTb.2.2.symm)
          have hs8 := hs6.grown hg10 (fun k e => by injection e with e; omega)
          have hO8 : w8.heap[W6'.heap.size]? = some (.cells #[.bool n.six, .int .u64 n.hi, .int .u64 n.lo, .int .i64 port] 42 (0, 0)) := (hg9.block _ (by simp; omega) (fun e => by injection e with e; omega)).trans ((heap_alloc_old _ _ (by simp)).trans (heap_alloc_new W6' _))
          have hI8 := (hg10.block B3 lB3 (fun e => by injection e with e; omega)).trans HI6.out
          have hU8 := (hg10.block (B3 + 1) hi6 (fun e => by injection e with e; omega)).trans HU6.out
          obtain ⟨⟨o0, o1, o2, o3⟩, -⟩ := res4 hO8
          obtain ⟨⟨v0, v1, v2, v3⟩, -⟩ := res4 hI8
          obtain ⟨⟨x0, x1, x2, x3⟩, -⟩ := res4 hU8
          have HI8 := Lib.hid hI8
          have hl8 := lt_of_block hI8
          clear hM8 hM9 hg9 hg10 hO8 hI8 hU8
          go_wp2_with fail
          clear hrun hput n0 n1 n2 n3 n4 n5 n6 n7 y0 y1 y2 y3 z0 z1 z2 z3 o0 o1 o2 o3 v0 v1 v2 v3 x0 x1 x2 x3
          refine (in_apt T n next' _ A6 cap6 L6 (k + 1) ⟨false, 0, 1 + d1, pp⟩ d port w8 HH8.out.tr HP6.out (by omega) HIN6.out (fun j hj => (HH8.out.fp j hj).1) hd0 HC2.out HX6.out).mono ?_
          rintro e w9 ⟨rfl, hc9, ht9⟩
          have HH9 := Lib.hid (HH8.out.let_in hc9 ht9)
          have hs9 := HH8.out.str_in hc9 hs8
          have hI9 := (hc9.block B3 hl8 (fun hf => by
            rcases hf with ⟨hf | hf, hl⟩
            · exact (HFAR.out _ hf).1 rfl
            · omega)).trans HI8.out
          obtain ⟨⟨v0, v1, v2, v3⟩, -⟩ := res4 hI9
          have hl9 := lt_of_block hI9
          clear hc9 ht9 HH8 hs8 hI9
          go_wp2_with fail
          go_roundw
          case rel => exact ⟨k + 1, by omega, by go_num, at3, 5, next', A6, cap6, L6, _, hs9.alloc _, by omega, HH9.out.on ((Below.refl _ _).alloc (Nat.le_refl _) _), by omega, HP6.out⟩
          case measure => simp [intOf]; omega
        · rw [hg] at hrun
          unfold spotV at hrun
          dsimp only [Option.isSome] at hrun
          clear hg
          have hM8 : HwI.MapIs ((W6'.alloc (.cells #[.bool n.six, .int .u64 n.hi, .int .u64 n.lo, .int .i64 port] 42)).alloc (.cells #[.bool false, .int .u64 0, .int .u64 (1 + d1), .int .i64 pp] 42)) M spotV (pairsOf L) := HM7.out.alloc _
          obtain ⟨w8, hput, hM9, hg9, -⟩ := HwI.run_put hM8 (P := Tryz.prog) Tryz.underlying38 Tryz.underlying3 port ⟨false, 0, 1 + d1, pp⟩
          unfold spotV at hput
          dsimp only at hput
          rw [← HR6.out] at hM9
          have hg10 : W6'.grownBy w8 (some M) := grown_alloc_then (grown_alloc_then hg9)
          have HH8 := Lib.hid (TrH.stored (b := w.heap.size) HT6.out HF6.out HN6.out HB6.out hM9 hg10 (by omega) hTb.2.2.symm)
          have hs8 := hs6.grown hg10 (fun k e => by injection e with e; omega)
          have hO8 : w8.heap[W6'.heap.size]? = some (.cells #[.bool n.six, .int .u64 n.hi, .int .u64 n.lo, .int .i64 port] 42 (0, 0)) := (hg9.block _ (by simp; omega) (fun e => by injection e with e; omega)).trans ((heap_alloc_old _ _ (by simp)).trans (heap_alloc_new W6' _))
          have hI8 := (hg10.block B3 lB3 (fun e => by injection e with e; omega)).trans HI6.out
          have hU8 := (hg10.block (B3 + 1) hi6 (fun e => by injection e with e; omega)).trans HU6.out
          obtain ⟨⟨o0, o1, o2, o3⟩, -⟩ := res4 hO8
          obtain ⟨⟨v0, v1, v2, v3⟩, -⟩ := res4 hI8
          obtain ⟨⟨x0, x1, x2, x3⟩, -⟩ := res4 hU8
          have HI8 := Lib.hid hI8
          have hl8 := lt_of_block hI8
          clear hM8 hM9 hg9 hg10 hO8 hI8 hU8
          go_wp2_with fail
          clear hrun hput n0 n1 n2 n3 n4 n5 n6 n7 y0 y1 y2 y3 z0 z1 z2 z3 o0 o1 o2 o3 v0 v1 v2 v3 x0 x1 x2 x3
          refine (in_apt T n next' _ A6 cap6 L6 (k + 1) ⟨false, 0, 1 + d1, pp⟩ d port w8 HH8.out.tr HP6.out (by omega) HIN6.out (fun j hj => (HH8.out.fp j hj).1) hd0 HC2.out HX6.out).mono ?_
          rintro e w9 ⟨rfl, hc9, ht9⟩
          have HH9 := Lib.hid (HH8.out.let_in hc9 ht9)
          have hs9 := HH8.out.str_in hc9 hs8
          have hI9 := (hc9.block B3 hl8 (fun hf => by
            rcases hf with ⟨hf | hf, hl⟩
            · exact (HFAR.out _ hf).1 rfl
            · omega)).trans HI8.out
          obtain ⟨⟨v0, v1, v2, v3⟩, -⟩ := res4 hI9
          have hl9 := lt_of_block hI9
          clear hc9 ht9 HH8 hs8 hI9
          go_wp2_with fail
          go_roundw
          case rel => exact ⟨k + 1, by omega, by go_num, at3, 5, next', A6, cap6, L6, _, hs9.alloc _, by omega, HH9.out.on ((Below.refl _ _).alloc (Nat.le_refl _) _), by omega, HP6.out⟩
          case measure => simp [intOf]; omega
    · have hda : decide (k < m) = false := by simpa using hkm
      go_wp2_with fail
      refine (entries_any T n now next F A' cap' L 5 wr HH.out.tr (HP.out.ok hnow.2 (by omega))).mono ?_
      rintro e w1 ⟨rfl, hg1⟩
      have hM1 : HwI.MapIs w1 M spotV (pairsOf L) := HH.out.map.grown hg1 (fun e => (HH.out.fp T HH.out.tr.fT).2.2.1 (by injection e with e; exact e.symm))
      have hlen := fun ty => HwI.run_len hM1 (P := Tryz.prog) Tryz.underlying38 ty
      rw [show (pairsOf L).length = L.length by simp [pairsOf]] at hlen
      have HB1 := Lib.hid (HH.out.below.grown hg1 HH.out.below.size (fun j e => by injection e with e; have := (HH.out.fp T HH.out.tr.fT).2.2.2.2; omega))
      have hself : ((L.length : Int) == (L.length : Int)) = true := by simp
      clear hg1 hM1 HH HP hS
      go_wp2_with fail
      clear hlen
      refine Calls.mono (ready_true w1) ?_
      rintro _ w2 ⟨rfl, hb2⟩
      have HB2 := Lib.hid (HB1.out.trans (hb2.mono HB1.out.size))
      clear hb2
      go_wp2_with fail
      go_ret
      exact ⟨rfl, HB2.out⟩
end Go.Proofs.YtphjgjcbolmdiaaGreatDoor
