/- MediansMeet: the walk. -/
import Derived.Test.YthfponfhmdbbpaaGreatDoorMdC
import Derived.Test.YthfponfhmdbbpaaGreatDoorRyF
import Derived.Test.YthfponfhmdbbpaaGreatDoorRange
import Derived.Maps.AppendAt
namespace Go.Proofs.YthfponfhmdbbpaaGreatDoor
open Go.RowKit Go.Hw Go.Shelf

theorem own_other {w w' : World} {base : Nat} {e : TypeId} {size : Nat} {v : Value} {n : Nat} {xs : List Value} {row : Option Nat} (h : w.ownsRow base e size v n xs) (hg : w.grownBy w' row) (hne : ∀ k, v.ownBlock = some k → row ≠ some k) : w'.ownsRow base e size v n xs :=
  rw_same h (fun k hk => hg.block k (h.lt k hk).2 (fun e => hne k hk e.symm))
/-- Ahead of round k. -/
structure MdS (w0 : World) (b : Nat) (A : Option Addr) (cap : Nat) (l : List Int) (c : Nat) (by_ : Int) (v4 v5 : Value) (k : Nat) (L : List Int) (at_ : Int) (wr : World) : Prop where
  le : k ≤ c
  len : L.length = k
  low : ∀ x ∈ L, 0 ≤ x ∧ x ≤ 50
  str : Str wr b A cap l at_
  at_ : at_ ≤ 2 + k
  own4 : IntsOwn wr (b + 1) v4 L
  own5 : IntsOwn wr (b + 1) v5 (L.map (· + by_))
  apart : ∀ g, v4.ownBlock = some g → v5.ownBlock ≠ some g
  below : Below b w0 wr
def MdI (w0 : World) (b : Nat) (A : Option Addr) (cap : Nat) (l : List Int) (c : Nat) (by_ : Int) (v4 v5 v27 : Value) (wr : World) : Prop :=
  ∃ (k : Nat) (L : List Int) (at_ : Int) (u4 u5 : Value), v27 = .int .i64 k ∧ u4 = v4 ∧ u5 = v5 ∧ MdS w0 b A cap l c by_ u4 u5 k L at_ wr
variable {w0 wr w1 w3 w4 : World} {b : Nat} {A : Option Addr} {cap : Nat} {l : List Int} {c : Nat} {by_ : Int} {v4 v5 v4' v5' : Value} {k : Nat} {L : List Int} {at_ x : Int} {o1 o2 : Obj}
theorem MdS.drawn (h : MdS w0 b A cap l c by_ v4 v5 k L at_ wr) (hg : wr.grownBy w1 (some b)) : MdS w0 b A cap l c by_ v4 v5 k L at_ wr ∧ IntsOwn w1 (b + 1) v4 L ∧ IntsOwn w1 (b + 1) v5 (L.map (· + by_)) ∧ Below b w0 w1 ∧ b < w1.heap.size := by
  have hb : b ≤ wr.heap.size := Nat.le_of_lt h.str.lt
  refine ⟨h, own_other h.own4 hg (fun j hj e => ?_), own_other h.own5 hg (fun j hj e => ?_), h.below.grown hg hb (fun j e => by injection e with e; omega), Nat.lt_of_lt_of_le h.str.lt hg.size⟩
  · have := (h.own4.lt j hj).1
    injection e with e
    omega
  · have := (h.own5.lt j hj).1
    injection e with e
    omega
/-- Behind the first append. -/
theorem md_mid (h4 : IntsOwn w1 (b + 1) v4 L) (h5 : IntsOwn w1 (b + 1) v5 (L.map (· + by_))) (hap : ∀ g, v4.ownBlock = some g → v5.ownBlock ≠ some g) (hs : Str w1 b A cap l at_) (hb : Below b w0 w1)
    (hg3 : (w1.alloc o1).grownBy w3 v4.ownBlock) : IntsOwn w3 (b + 1) v5 (L.map (· + by_)) ∧ Str w3 b A cap l at_ ∧ Below b w0 w3 ∧ w1.heap.size < w3.heap.size := by
  have hz : (w1.alloc o1).heap.size = w1.heap.size + 1 := by simp
  refine ⟨own_other (World.ownsRow.alloc h5 o1) hg3 (fun j hj e => hap j e hj), (hs.alloc o1).grown hg3 (fun j hj => (h4.lt j hj).1), (hb.alloc (Nat.le_of_lt hs.lt) o1).grown hg3 (by have := hs.lt; omega) (fun j hj => by have := (h4.lt j hj).1; omega), by have := hg3.size; omega⟩
theorem md_end (h : MdS w0 b A cap l c by_ v4 v5 k L at_ wr) (hk : k < c) (hx : 0 ≤ x ∧ x ≤ 50) (h5 : IntsOwn w1 (b + 1) v5 (L.map (· + by_)))
    (ho3 : IntsOwn w3 (b + 1) v4' (L ++ [x])) (hd3 : v4'.ownBlock = v4.ownBlock ∨ v4'.ownBlock = some (w1.heap.size + 1))
    (hs3 : Str w3 b A cap l (at_ + 1)) (hb3 : Below b w0 w3) (h53 : IntsOwn w3 (b + 1) v5 (L.map (· + by_)))
    (ho4 : IntsOwn w4 (b + 1) v5' ((L ++ [x]).map (· + by_))) (hg4 : (w3.alloc o2).grownBy w4 v5.ownBlock) (hd4 : v5'.ownBlock = v5.ownBlock ∨ v5'.ownBlock = some (w3.heap.size + 1)) :
    MdS w0 b A cap l c by_ v4' v5' (k + 1) (L ++ [x]) (at_ + 1) w4 := by
  have hz3 : (w3.alloc o2).heap.size = w3.heap.size + 1 := by simp
  have hap : ∀ j, v4'.ownBlock = some j → v5.ownBlock ≠ some j := by
    intro j hj e
    rcases hd3 with q | q
    · exact h.apart j (q ▸ hj) e
    · rw [hj] at q
      injection q with q
      have := (h5.lt j e).2
      omega
  refine ⟨hk, by simp [h.len], ?_, (hs3.alloc o2).grown hg4 (fun j hj => (h53.lt j hj).1), by have := h.at_; omega, own_other (World.ownsRow.alloc ho3 o2) hg4 (fun j hj e => hap j hj e), ho4, ?_, (hb3.alloc (Nat.le_of_lt hs3.lt) o2).grown hg4 (by have := hs3.lt; omega) (fun j hj => by have := (h53.lt j hj).1; omega)⟩
  · intro y hy
    rcases List.mem_append.1 hy with hy | hy
    · exact h.low y hy
    · rw [List.mem_singleton.1 hy]; exact hx
  · intro j hj e
    rcases hd4 with q | q
    · exact hap j hj (q ▸ e)
    · rw [e] at q
      injection q with q
      have := (ho3.lt j hj).2
      omega
theorem int_snoc {w : World} {base : Nat} {v : Value} {L : List Int} {x : Int} (h : w.ownsRow base 3 1 v (L.length + 1) (L.map (Value.int .i64) ++ [.int .i64 x])) : IntsOwn w base v (L ++ [x]) := by
  unfold IntsOwn
  rw [List.map_append, List.length_append]
  exact h

/-- What the fraction m / 2 tells. -/
theorem frac_facts (m : Nat) : ∃ n0 d0 : Nat, fracV m 2 = .agg #[.int .i64 n0, .int .i64 d0] ∧ 1 ≤ d0 ∧ d0 ≤ 2 ∧ n0 ≤ m ∧ (∀ q : Nat, fracV (m + 2 * q) 2 = .agg #[.int .i64 (n0 + q * d0 : Nat), .int .i64 d0]) ∧
    (∀ n : Int, n * (d0 : Int) < n0 ↔ 2 * n < m) ∧ (∀ n : Int, (n0 : Int) < n * d0 ↔ (m : Int) < 2 * n) := by
  have hg : ∀ j : Nat, Nat.gcd j 2 = if j % 2 = 0 then 2 else 1 := by
    intro j
    rw [Nat.gcd_comm, Nat.gcd_rec]
    rcases Nat.mod_two_eq_zero_or_one j with h | h <;> rw [h] <;> rfl
  rcases Nat.mod_two_eq_zero_or_one m with h | h
  · refine ⟨m / 2, 1, ?_, by omega, by omega, by omega, fun q => ?_, fun n => by omega, fun n => by omega⟩
    · unfold fracV; rw [hg, if_pos h]
    · unfold fracV; rw [hg, if_pos (by omega)]
      rw [show (m + 2 * q) / 2 = m / 2 + q * 1 from by omega]
  · refine ⟨m, 2, ?_, by omega, by omega, by omega, fun q => ?_, fun n => by omega, fun n => by omega⟩
    · unfold fracV; rw [hg, if_neg (by omega)]; simp
    · unfold fracV; rw [hg, if_neg (by omega)]
      rw [show (m + 2 * q) / 1 = m + q * 2 from by omega]
theorem run_eq_frac (d : Nat) (x y u v : Int) (w : World) : (Op.equalIn (d + 2) 28 (.agg #[.int .i64 x, .int .i64 u]) (.agg #[.int .i64 y, .int .i64 v])).run Tryz.prog w = .ok (x == y && u == v) w := by
  have u2 := Tryz.underlying3
  have hA : Tryz.prog.underlying 28 = some (.struct (Tryz.prog.fieldsOf 28)) := by kernel_rfl
  have pA : Tryz.prog.stoodInHeld 28 = false := by kernel_rfl
  rw [run_equalIn_agg w (d + 1) 28 _ _ hA pA]
  simp only [Program.fieldsOf, Tryz.underlying28]
  go_simp
  by_cases h1 : x = y <;> by_cases h2 : u = v <;> simp [h1, h2]
theorem ca2 {w : World} {b : Nat} {a0 a1 : Value} (h : CA w b [a0, a1]) : w.cell? ⟨b, 0, none⟩ = some a0 ∧ w.cell? ⟨b, 1, none⟩ = some a1 := ⟨h.2 0 _ rfl, h.2 1 _ rfl⟩
theorem guard_frac : Tryz.prog.eqGuardType Tryz.prog.depth 28 = false := by kernel_rfl

set_option maxRecDepth 100000 in
set_option maxHeartbeats 4000000 in
theorem mediansMeet_any (A : Option Addr) (cap : Nat) (l : List Int) (w : World) (hA : ∀ i, i < l.length → ∃ g off, A = some ⟨g, off, none⟩ ∧ g < w.heap.size ∧ w.cell? ⟨g, off + i, none⟩ = some (.int .i64 (l.getD i 0)))
    (hfits : ∀ i, -9223372036854775808 ≤ l.getD i 0 ∧ l.getD i 0 ≤ 9223372036854775807) (hlong : l.length ≤ 17592186044416) (hmx : MxW w) :
    Calls Tryz.prog 3 #[.slice A l.length cap] w fun e w' => e = .returned (.bool true) ∧ Below w.heap.size w w' := by
  obtain ⟨i0, hi, hz0, hz1, hz2⟩ := info_parts Tryz.infoInt
  have hs0 : Str (w.alloc (.cells #[.slice A l.length cap, .int .i64 0] 25)) w.heap.size A cap l 0 := {
    cell := heap_alloc_new w _
    ints := fun i hi => by
      obtain ⟨g, off, h1, h2, h3⟩ := hA i hi
      exact ⟨g, off, h1, h2, by rw [World.cell?_alloc_lt _ _ _ h2]; exact h3⟩
    fits := hfits
    long := hlong
    low := by omega
    high := by omega }
  have hB0 : Below w.heap.size w (w.alloc (.cells #[.slice A l.length cap, .int .i64 0] 25)) := (Below.refl _ _).alloc (Nat.le_refl _) _
  have HS := Lib.hid hs0
  have HB := Lib.hid hB0
  have HM := Lib.hid hmx
  clear hs0 hB0 hA hfits hmx
  go_enter Tryz.func3, Tryz.ntmps3
  go_wp2_with fail
  generalize hW : World.alloc _ _ = W1 at HS HB ⊢
  clear hW
  have d1 := draw_low l 0 (1000 - 0 + 1) (by omega)
  have d2 := draw_high l 0 (1000 - 0 + 1) (by omega)
  refine (range_any w.heap.size A cap l 0 0 1000 W1 HS.out (by omega) (by omega) (by omega) (by omega) (by omega)).mono ?_
  rintro e W2 ⟨rfl, hs2, hg2⟩
  have hlt2 : w.heap.size ≤ W1.heap.size := HB.out.size
  have HB := Lib.hid (HB.out.grown hg2 HB.out.size (fun j e => by injection e with e; omega))
  have HS := Lib.hid hs2
  clear hs2 hg2
  generalize hby : 0 + drawOf l 0 (1000 - 0 + 1) = q at *
  have q1 : 0 ≤ q := by omega
  have q2 : q ≤ 1000 := by omega
  clear hby d1 d2
  go_wp2_with fail
  have d1 := draw_low l (0 + 1) (9 - 1 + 1) (by omega)
  have d2 := draw_high l (0 + 1) (9 - 1 + 1) (by omega)
  refine (range_any w.heap.size A cap l (0 + 1) 1 9 W2 HS.out (by omega) (by omega) (by omega) (by omega) (by omega)).mono ?_
  rintro e W3 ⟨rfl, hs3, hg3⟩
  have HB := Lib.hid (HB.out.grown hg3 HB.out.size (fun j e => by injection e with e; omega))
  have HS := Lib.hid hs3
  clear hs3 hg3
  obtain ⟨c, hc⟩ : ∃ c : Nat, 1 + drawOf l (0 + 1) (9 - 1 + 1) = c := ⟨(1 + drawOf l (0 + 1) (9 - 1 + 1)).toNat, by omega⟩
  rw [hc]
  have c1 : 1 ≤ c := by omega
  have c2 : c ≤ 9 := by omega
  clear hc d1 d2 hlt2
  go_wp2_with fail
  go_loopw [4, 5, 27] (fun v4 v5 v27 wr => MdI w w.heap.size A cap l c q v4 v5 v27 wr) (fun _ _ v27 _ => c - (intOf v27).toNat)
  case atStart => exact ⟨0, [], 0 + 1 + 1, _, _, rfl, rfl, rfl, ⟨by omega, rfl, by simp, HS.out, by omega, World.ownsRow_nil _ _ _ _, World.ownsRow_nil _ _ _ _, (fun g hg => by simp [Value.ownBlock] at hg), HB.out⟩⟩
  case round =>
    obtain ⟨k, L, at_, u4, u5, rfl, rfl, rfl, h⟩ := hrel
    by_cases hlt : k < c
    · have hd : decide ((k : Int) < (c : Int)) = true := by simp; omega
      have hat := h.at_
      have hlen := h.len
      have d1 := draw_low l at_ (50 - 0 + 1) (by omega)
      have d2 := draw_high l at_ (50 - 0 + 1) (by omega)
      have H := Lib.hid h
      clear h HS HB
      go_wp2_with fail
      refine (range_any w.heap.size A cap l at_ 0 50 wr H.out.str (by omega) (by omega) (by omega) (by omega) (by omega)).mono ?_
      rintro e w1 ⟨rfl, hs1, hg1⟩
      obtain ⟨-, h4, h5, hb1, hbl⟩ := H.out.drawn hg1
      have HH4 := Lib.hid h4
      have HH5 := Lib.hid h5
      have HS1 := Lib.hid hs1
      have HB1 := Lib.hid hb1
      have x1 : 0 ≤ 0 + drawOf l at_ (50 - 0 + 1) ∧ 0 + drawOf l at_ (50 - 0 + 1) ≤ 50 := by omega
      generalize 0 + drawOf l at_ (50 - 0 + 1) = x at *
      have s0 : IntKind.i64.wrap (x + q) = x + q := IntWalk.i64_in _ (by omega)
      have HL := Lib.hid hlen
      clear h4 h5 hs1 hg1 hb1 d1 d2 hlen
      go_wp2_with (at_builtin; refine wpList_append_own_at _ rfl (.tmp 31) (.tmp 33) 22 rfl (w.heap.size + 1) 3 i0 (.int .i64 0) 1 8 Tryz.underlying22 hi hz0 hz1 hz2 rfl (by decide) _ _ _ rfl (World.ownsRow.alloc HH4.out _) ⟨w1.heap.size, 0, none⟩ 1 1 [.int .i64 x] rfl rfl ?a1 ?a2 ?a3 ?a4 ?a5 ?_)
      case a1 => exact cell_one_new _ _ _
      case a2 => simp [Value.oneCell']
      case a3 => rw [HL.out]; unfold maxLen; omega
      case a4 => rw [HL.out]; omega
      case a5 => simp; omega
      intro v4 w3 ho3 hg3 _ hd3
      have ho3' := int_snoc ho3
      obtain ⟨h53, hs3, hb3, -⟩ := md_mid HH4.out HH5.out H.out.apart HS1.out HB1.out hg3
      have HO3 := Lib.hid ho3'
      have H53 := Lib.hid h53
      have HS3 := Lib.hid hs3
      have HB3 := Lib.hid hb3
      have HD3 := Lib.hid hd3
      have hbl3 : w.heap.size + 1 ≤ w3.heap.size := hs3.lt
      clear ho3 ho3' hg3 h53 hs3 hb3 hd3
      go_wp2_with (at_builtin; refine wpList_append_own_at _ rfl (.tmp 35) (.tmp 39) 22 rfl (w.heap.size + 1) 3 i0 (.int .i64 0) 1 8 Tryz.underlying22 hi hz0 hz1 hz2 rfl (by decide) _ _ _ rfl (World.ownsRow.alloc H53.out _) ⟨w3.heap.size, 0, none⟩ 1 1 [.int .i64 (x + q)] rfl rfl ?a1 ?a2 ?a3 ?a4 ?a5 ?_)
      case a1 => exact cell_one_new _ _ _
      case a2 => simp [Value.oneCell']
      case a3 => rw [List.length_map, HL.out]; unfold maxLen; omega
      case a4 => rw [List.length_map, HL.out]; omega
      case a5 => simp; omega
      intro v5 w4 ho4 hg4 _ hd4
      have ho4' : IntsOwn w4 (w.heap.size + 1) v5 ((L ++ [x]).map (· + q)) := by
        unfold IntsOwn
        simpa [List.map_append, List.map_map] using ho4
      have HN := Lib.hid (show MdI w w.heap.size A cap l c q v4 v5 (.int .i64 ((k + 1 : Nat) : Int)) w4 from ⟨k + 1, L ++ [x], at_ + 1, v4, v5, rfl, rfl, rfl, md_end H.out hlt x1 HH5.out HO3.out HD3.out HS3.out HB3.out H53.out ho4' hg4 hd4⟩)
      clear ho4 ho4' hg4 hd4 H HH4 HH5 HO3 HD3 HS3 HB3 H53
      go_wp2_with fail
      go_roundw
      case rel => exact HN.out
      case measure => simp [intOf]; omega
    · have : k = c := by have := h.le; omega
      subst this
      obtain ⟨A4, p4, rfl, hat4⟩ := is_of h.own4
      obtain ⟨A5, p5, rfl, hat5⟩ := is_of h.own5
      have hlen := h.len
      have hd : decide ((k : Int) < (k : Int)) = false := by simp
      have hlow := h.low
      have HBL := Lib.hid h.below
      have hl0 : 0 < L.length := by omega
      have h4 := fun W (hb : Below wr.heap.size wr W) => Median_any A4 p4 L W (hat4.below hb) hl0 (by omega) (fun x hx => by have := hlow x hx; omega)
      have h5 := fun W (hb : Below wr.heap.size wr W) => Median_any A5 p5 (L.map (· + q)) W (hat5.below hb) (by simpa using hl0) (by simp; omega) (fun x hx => by
        obtain ⟨y, hy, rfl⟩ := List.mem_map.1 hx
        have := hlow y hy
        omega)
      have h6 := fun W (hb : Below wr.heap.size wr W) => Spread_any A4 p4 L W (hat4.below hb) hl0 (by omega) (fun x hx => by have := hlow x hx; omega)
      have h7 := fun W (hb : Below wr.heap.size wr W) => Spread_any A5 p5 (L.map (· + q)) W (hat5.below hb) (by simpa using hl0) (by simp; omega) (fun x hx => by
        obtain ⟨y, hy, rfl⟩ := List.mem_map.1 hx
        have := hlow y hy
        omega)
      have hmr := med_range hl0 hlow
      obtain ⟨m, hm⟩ : ∃ m : Nat, med L = m := ⟨(med L).toNat, by omega⟩
      obtain ⟨q', rfl⟩ : ∃ q' : Nat, q = q' := ⟨q.toNat, by omega⟩
      obtain ⟨n0, d0, hf, hd1, hd2, hn0, hfm, hlt1, hlt2⟩ := frac_facts m
      rw [med_move L q' hl0, hm, show ((m : Int) + 2 * (q' : Int)).toNat = m + 2 * q' from by omega, hfm q'] at h5
      obtain ⟨n2, hn2⟩ : ∃ n2 : Nat, n0 + q' * d0 = n2 := ⟨_, rfl⟩
      rw [hn2] at h5
      have HN2 := Lib.hid hn2
      clear hn2
      rw [hm, show ((m : Nat) : Int).toNat = m from by omega, hf] at h4
      rw [offs_move L q' hl0] at h7
      have HLT1 := Lib.hid hlt1
      have HLT2 := Lib.hid hlt2
      have HA := Lib.hid hat4
      have HLOW := Lib.hid hlow
      have HMB := Lib.hid (med_below L hl0)
      have HMA := Lib.hid (med_above L hl0)
      rw [hm] at HMB HMA
      have HLEN := Lib.hid hlen
      rw [List.length_map] at *
      have HX : ∃ n1 e1 : Nat, fracV (med (offs L)).toNat 4 = .agg #[.int .i64 n1, .int .i64 e1] := ⟨_, _, rfl⟩
      obtain ⟨n1, e1, hne⟩ := HX
      rw [hne] at h6 h7
      have hm' : (m : Int) ≤ 100 := by omega
      clear h hat4 hat5 hlow hmr hm hf hfm hlt1 hlt2 hne HS HB hlen
      go_wp2_with fail
      have HW := Lib.hid (Below.refl wr.heap.size wr)
      refine (h4 wr HW.out).mono ?_
      rintro e X1 ⟨rfl, hb⟩
      have hb' := HW.out.trans (hb.mono HW.out.size)
      have hbn := hb'.alloc hb'.size (.cells #[.int .i64 (n0 : Int), .int .i64 (d0 : Int)] 28)
      have C1 := Lib.hid (CA.made X1 [.int .i64 (n0 : Int), .int .i64 (d0 : Int)] 28)
      have HW := Lib.hid hbn
      clear hb hb' hbn
      go_wp2_with fail
      generalize World.alloc X1 _ = Y1 at *
      generalize X1.heap.size = F1 at *
      refine (h5 Y1 HW.out).mono ?_
      rintro e X2 ⟨rfl, hb⟩
      have hb' := HW.out.trans (hb.mono HW.out.size)
      have hbn := hb'.alloc hb'.size (.cells #[.int .i64 (n2 : Int), .int .i64 (d0 : Int)] 28)
      have C2 := Lib.hid (CA.made X2 [.int .i64 (n2 : Int), .int .i64 (d0 : Int)] 28)
      have C1 := Lib.hid ((C1.out.below hb).alloc (.cells #[.int .i64 (n2 : Int), .int .i64 (d0 : Int)] 28))
      have HW := Lib.hid hbn
      clear hb hb' hbn
      go_wp2_with fail
      generalize World.alloc X2 _ = Y2 at *
      generalize X2.heap.size = F2 at *
      refine (h6 Y2 HW.out).mono ?_
      rintro e X3 ⟨rfl, hb⟩
      have hb' := HW.out.trans (hb.mono HW.out.size)
      have hbn := hb'.alloc hb'.size (.cells #[.int .i64 (n1 : Int), .int .i64 (e1 : Int)] 28)
      have C3 := Lib.hid (CA.made X3 [.int .i64 (n1 : Int), .int .i64 (e1 : Int)] 28)
      have C1 := Lib.hid ((C1.out.below hb).alloc (.cells #[.int .i64 (n1 : Int), .int .i64 (e1 : Int)] 28))
      have C2 := Lib.hid ((C2.out.below hb).alloc (.cells #[.int .i64 (n1 : Int), .int .i64 (e1 : Int)] 28))
      have HW := Lib.hid hbn
      clear hb hb' hbn
      go_wp2_with fail
      generalize World.alloc X3 _ = Y3 at *
      generalize X3.heap.size = F3 at *
      refine (h7 Y3 HW.out).mono ?_
      rintro e X4 ⟨rfl, hb⟩
      have hb' := HW.out.trans (hb.mono HW.out.size)
      have hbn := hb'.alloc hb'.size (.cells #[.int .i64 (n1 : Int), .int .i64 (e1 : Int)] 28)
      have C4 := Lib.hid (CA.made X4 [.int .i64 (n1 : Int), .int .i64 (e1 : Int)] 28)
      have C1 := Lib.hid ((C1.out.below hb).alloc (.cells #[.int .i64 (n1 : Int), .int .i64 (e1 : Int)] 28))
      have C2 := Lib.hid ((C2.out.below hb).alloc (.cells #[.int .i64 (n1 : Int), .int .i64 (e1 : Int)] 28))
      have C3 := Lib.hid ((C3.out.below hb).alloc (.cells #[.int .i64 (n1 : Int), .int .i64 (e1 : Int)] 28))
      have HW := Lib.hid hbn
      clear hb hb' hbn
      have a0 := C1.out.2 0 _ rfl
      have a1 := C1.out.2 1 _ rfl
      have l1 := C1.out.1
      have hden : decide ((d0 : Int) < 1) = false := by simp; omega
      go_wp2_with fail
      generalize World.alloc X4 _ = Y4 at *
      generalize X4.heap.size = F4 at *
      clear h4 h5 h6 h7
      have hs5 : ∀ j : Nat, j ≤ L.length → (L.take j).countP (fun n => decide (2 * n < (m : Int))) ≤ 9 ∧ (L.take j).countP (fun n => decide ((m : Int) < 2 * n)) ≤ 9 := fun j hj => by
        have h1 := List.countP_le_length (p := fun n => decide (2 * n < (m : Int))) (l := L.take j)
        have h2 := List.countP_le_length (p := fun n => decide ((m : Int) < 2 * n)) (l := L.take j)
        have := HLEN.out
        rw [List.length_take] at h1 h2
        omega
      have HS5 := Lib.hid hs5
      clear hs5
      go_loopw [16, 17, 83] (fun v16 v17 v83 wz => ∃ j x y : Nat, v16 = .int .i64 x ∧ v17 = .int .i64 y ∧ v83 = .int .i64 j ∧ j ≤ L.length ∧ Hid (x = (L.take j).countP (fun n => decide (2 * n < (m : Int)))) ∧ Hid (y = (L.take j).countP (fun n => decide ((m : Int) < 2 * n))) ∧ wz = Y4) (fun _ _ v83 _ => L.length - (intOf v83).toNat)
      case atStart => exact ⟨0, 0, 0, rfl, rfl, rfl, by omega, Lib.hid rfl, Lib.hid rfl, rfl⟩
      case round =>
        obtain ⟨j, x, y, rfl, rfl, rfl, hj, hx, hy, rfl⟩ := hrel
        have hx9 : x ≤ 9 := by rw [hx.out]; exact (HS5.out j hj).1
        have hy9 : y ≤ 9 := by rw [hy.out]; exact (HS5.out j hj).2
        by_cases hlt : j < L.length
        · obtain ⟨g, off, rfl, hgB, g0⟩ := (HA.out.below HW.out) j hlt
          have hz := HLOW.out _ (rw_mem (d := (0 : Int)) hlt)
          have hdj : decide ((j : Int) < (L.length : Int)) = true := by simp; omega
          have hj9 : j < 9 := by have := HLEN.out; omega
          have HT := Lib.hid (List.take_succ_eq_append_getElem hlt)
          have HG := Lib.hid (show L[j] = L.getD j 0 from by rw [List.getD_eq_getElem?_getD, List.getElem?_eq_getElem hlt]; rfl)
          have hl1 := HLT1.out (L.getD j 0)
          have hl2 := HLT2.out (L.getD j 0)
          generalize L.getD j 0 = z at *
          have hzz : 0 ≤ z * (d0 : Int) ∧ z * (d0 : Int) ≤ 100 := by
            obtain rfl | rfl : d0 = 1 ∨ d0 = 2 := by omega
            · omega
            · omega
          obtain ⟨t, ht⟩ : ∃ t, z * (d0 : Int) = t := ⟨_, rfl⟩
          have s0 : IntKind.i64.wrap (z * (d0 : Int)) = t := (IntWalk.i64_in _ (by omega)).trans ht
          rw [ht] at hl1 hl2 hzz
          have s1 : IntKind.i64.wrap ((x : Int) + 1) = ((x + 1 : Nat) : Int) := IntWalk.i64_in _ (by omega)
          have s2 : IntKind.i64.wrap ((y : Int) + 1) = ((y + 1 : Nat) : Int) := IntWalk.i64_in _ (by omega)
          have HX := hx
          have HY := hy
          clear hx hy ht
          by_cases p1 : 2 * z < (m : Int)
          · skip
            have b1 : decide (t < (n0 : Int)) = true := decide_eq_true (hl1.2 p1)
            have b2 : decide ((n0 : Int) < t) = false := decide_eq_false (fun c => by have := hl2.1 c; omega)
            have HX' : Hid (x + 1 = (L.take (j + 1)).countP (fun n => decide (2 * n < (m : Int)))) := Lib.hid (by rw [HT.out, HG.out, List.countP_append, ← HX.out]; simp; omega)
            have HY' : Hid (y = (L.take (j + 1)).countP (fun n => decide ((m : Int) < 2 * n))) := Lib.hid (by rw [HT.out, HG.out, List.countP_append, ← HY.out]; simp; omega)
            clear hl1 hl2 p1 HX HY
            go_wp2_with fail
            go_roundw
            case rel => exact ⟨j + 1, x + 1, y, rfl, rfl, rfl, hlt, HX', HY', trivial⟩
            case measure => simp [intOf]; omega
          · by_cases p2 : (m : Int) < 2 * z
            · skip
              have b1 : decide (t < (n0 : Int)) = false := decide_eq_false (fun c => by have := hl1.1 c; omega)
              have b2 : decide ((n0 : Int) < t) = true := decide_eq_true (hl2.2 p2)
              have HX' : Hid (x = (L.take (j + 1)).countP (fun n => decide (2 * n < (m : Int)))) := Lib.hid (by rw [HT.out, HG.out, List.countP_append, ← HX.out]; simp; omega)
              have HY' : Hid (y + 1 = (L.take (j + 1)).countP (fun n => decide ((m : Int) < 2 * n))) := Lib.hid (by rw [HT.out, HG.out, List.countP_append, ← HY.out]; simp; omega)
              clear hl1 hl2 p1 p2 HX HY
              go_wp2_with fail
              go_roundw
              case rel => exact ⟨j + 1, x, y + 1, rfl, rfl, rfl, hlt, HX', HY', trivial⟩
              case measure => simp [intOf]; omega
            · skip
              have b1 : decide (t < (n0 : Int)) = false := decide_eq_false (fun c => by have := hl1.1 c; omega)
              have b2 : decide ((n0 : Int) < t) = false := decide_eq_false (fun c => by have := hl2.1 c; omega)
              have HX' : Hid (x = (L.take (j + 1)).countP (fun n => decide (2 * n < (m : Int)))) := Lib.hid (by rw [HT.out, HG.out, List.countP_append, ← HX.out]; simp; omega)
              have HY' : Hid (y = (L.take (j + 1)).countP (fun n => decide ((m : Int) < 2 * n))) := Lib.hid (by rw [HT.out, HG.out, List.countP_append, ← HY.out]; simp; omega)
              clear hl1 hl2 p1 p2 HX HY
              go_wp2_with fail
              go_roundw
              case rel => exact ⟨j + 1, x, y, rfl, rfl, rfl, hlt, HX', HY', trivial⟩
              case measure => simp [intOf]; omega
        · obtain rfl : j = L.length := by omega
          rw [List.take_length] at hx hy
          have q1' : 2 * x ≤ L.length := by rw [hx.out]; exact HMB.out
          have q2' : 2 * y ≤ L.length := by rw [hy.out]; exact HMA.out
          have b1 : decide (2 * (x : Int) ≤ (L.length : Int)) = true := by simp; omega
          have b2 : decide (2 * (y : Int) ≤ (L.length : Int)) = true := by simp; omega
          have b0 : decide ((L.length : Int) < (L.length : Int)) = false := by simp
          have s1 : IntKind.i64.wrap (2 * (x : Int)) = 2 * (x : Int) := IntWalk.i64_in _ (by omega)
          have s2 : IntKind.i64.wrap (2 * (y : Int)) = 2 * (y : Int) := IntWalk.i64_in _ (by omega)
          have hzz : 0 ≤ (q' : Int) * (d0 : Int) ∧ (q' : Int) * (d0 : Int) ≤ 2000 := by
            obtain rfl | rfl : d0 = 1 ∨ d0 = 2 := by omega
            · omega
            · omega
          obtain ⟨t, ht⟩ : ∃ t, (q' : Int) * (d0 : Int) = t := ⟨_, rfl⟩
          have s3 : IntKind.i64.wrap ((q' : Int) * (d0 : Int)) = t := (IntWalk.i64_in _ (by omega)).trans ht
          have hsum : (n0 : Int) + t = (n2 : Int) := by have := HN2.out; rw [← ht]; omega
          rw [ht] at hzz
          have s4 : IntKind.i64.wrap ((n0 : Int) + t) = (n2 : Int) := by rw [← hsum]; exact IntWalk.i64_in _ (by omega)
          have hq := fun W => (run_eq_frac 9998 n1 n1 e1 e1 W).trans (show _ = Result.ok true W from by simp)
          have hgd := guard_frac
          have HB := Lib.hid (HBL.out.trans (HW.out.mono HBL.out.size))
          have hrd := ready2 wr (HM.out.below HB.out)
          obtain ⟨y0, y1⟩ := ca2 C2.out
          obtain ⟨w0, w1⟩ := ca2 C3.out
          obtain ⟨v0, v1⟩ := ca2 C4.out
          clear hx hy hsum ht hzz q1' q2' HA HW HBL C1 C2 C3 C4 HM
          go_wp2_with fail
          refine hrd.mono ?_
          rintro e w9 ⟨rfl, hb⟩
          have HBF := Lib.hid (HB.out.trans (hb.mono HB.out.size))
          clear hrd hb
          go_wp2_with fail
          go_ret
          exact ⟨rfl, HBF.out⟩
end Go.Proofs.YthfponfhmdbbpaaGreatDoor
