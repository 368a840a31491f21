/- addr.groupsOf, addr.zeros. -/
import Derived.Test.YtcicednopgpjfaaGreatDoorAxB
import Derived.Test.YtcicednopgpjfaaGreatDoorDsA
import Derived.Test.YtcicednopgpjfaaGreatDoorChA
import Derived.Test.YtcicednopgpjfaaGreatDoorRgS
import Derived.Deep.LoopGhost
import Derived.Deep.Cut
namespace Go.Proofs.YtcicednopgpjfaaGreatDoor
open Go.RowKit Go.Hw Go.Shelf

/-- The groups of an address. -/
def gN (hi lo i : Nat) : Nat := if i < 4 then hi / 2 ^ (48 - 16 * i) % 65536 else lo / 2 ^ (112 - 16 * i) % 65536
def gArr (hi lo : Nat) : Array Value := #[.int .u64 (gN hi lo 0), .int .u64 (gN hi lo 1), .int .u64 (gN hi lo 2), .int .u64 (gN hi lo 3), .int .u64 (gN hi lo 4), .int .u64 (gN hi lo 5), .int .u64 (gN hi lo 6), .int .u64 (gN hi lo 7)]
def gZero : Array Value := #[.int .u64 0, .int .u64 0, .int .u64 0, .int .u64 0, .int .u64 0, .int .u64 0, .int .u64 0, .int .u64 0]
theorem mask16 {N : Nat} (hN : N < 18446744073709551616) (s : Nat) : bits .and .u64 ((N : Int) / ((2 ^ s : Nat) : Int)) 65535 = ((N / 2 ^ s % 65536 : Nat) : Int) := by
  have h3 : N / 2 ^ s ≤ N := Nat.div_le_self _ _
  have e1 : (N : Int) / ((2 ^ s : Nat) : Int) = ((N / 2 ^ s : Nat) : Int) := by simp
  rw [e1]
  generalize N / 2 ^ s = q at *
  have := u64_and_nat q 65535 (by omega) (by omega)
  rw [show q &&& 65535 = q % 65536 from Nat.and_two_pow_sub_one_eq_mod q 16] at this
  exact this
theorem mask16_0 {N : Nat} (hN : N < 18446744073709551616) : bits .and .u64 (N : Int) 65535 = ((N % 65536 : Nat) : Int) := by
  have := mask16 hN 0
  simpa using this
set_option maxRecDepth 100000 in
set_option maxHeartbeats 4000000 in
theorem groupsOf_any (six : Bool) (hi lo : Nat) (hh : hi < 18446744073709551616) (hl : lo < 18446744073709551616) (w : World) :
    Calls Tryz.prog 39 #[.agg #[.bool six, .int .u64 hi, .int .u64 lo]] w fun e w' => e = .returned (.agg (gArr hi lo)) ∧ Below w.heap.size w w' := by
  have m0 : bits .and .u64 ((hi : Int) / 281474976710656) 65535 = ((gN hi lo 0 : Nat) : Int) := mask16 hh 48
  have m1 : bits .and .u64 ((hi : Int) / 4294967296) 65535 = ((gN hi lo 1 : Nat) : Int) := mask16 hh 32
  have m2 : bits .and .u64 ((hi : Int) / 65536) 65535 = ((gN hi lo 2 : Nat) : Int) := mask16 hh 16
  have m3 : bits .and .u64 (hi : Int) 65535 = ((gN hi lo 3 : Nat) : Int) := by rw [mask16_0 hh]; simp [gN]
  have m4 : bits .and .u64 ((lo : Int) / 281474976710656) 65535 = ((gN hi lo 4 : Nat) : Int) := mask16 hl 48
  have m5 : bits .and .u64 ((lo : Int) / 4294967296) 65535 = ((gN hi lo 5 : Nat) : Int) := mask16 hl 32
  have m6 : bits .and .u64 ((lo : Int) / 65536) 65535 = ((gN hi lo 6 : Nat) : Int) := mask16 hl 16
  have m7 : bits .and .u64 (lo : Int) 65535 = ((gN hi lo 7 : Nat) : Int) := by rw [mask16_0 hl]; simp [gN]
  have h0 := al31 w (.cells #[.bool six, .int .u64 hi, .int .u64 lo] 28) (.cells gZero 58) (.cells gZero 58)
  have h1 := al32 w (.cells #[.bool six, .int .u64 hi, .int .u64 lo] 28) (.cells gZero 58) (.cells gZero 58)
  have h2 := al33 w (.cells #[.bool six, .int .u64 hi, .int .u64 lo] 28) (.cells gZero 58) (.cells gZero 58)
  have hB : Below w.heap.size w (((w.alloc (.cells #[.bool six, .int .u64 hi, .int .u64 lo] 28)).alloc (.cells gZero 58)).alloc (.cells gZero 58)) := (((Below.refl _ _).alloc (Nat.le_refl _) _).alloc (by simp) _).alloc (by simp; omega) _
  go_enter Tryz.func39, Tryz.ntmps39
  go_upto_region 2 with (fail)
  unfold gZero at h0 h1 h2 hB
  generalize World.alloc _ _ = W at h0 h1 h2 hB ⊢
  have c1 : W.cell? ⟨w.heap.size, 1, none⟩ = some (.int .u64 hi) := cell_of h0 1
  have c2 : W.cell? ⟨w.heap.size, 2, none⟩ = some (.int .u64 lo) := cell_of h0 2
  obtain ⟨⟨a0, a1, a2, a3, a4, a5, a6, a7⟩, f0, f1, f2, f3, f4, f5, f6, f7⟩ := res8 h2
  have HB := Lib.hid hB
  have HR := Lib.hid h1
  have HZ := Lib.hid h2
  have lZ := lt_of_block h2
  clear h0 h1 h2 hB
  go_wp2_with fail
  refine wp_loop_rounds 5 ?_
  rw [rounds_succ]
  go_wp2_with fail
  rw [rounds_succ]
  go_wp2_with fail
  rw [rounds_succ]
  go_wp2_with fail
  rw [rounds_succ]
  go_wp2_with fail
  rw [rounds_succ]
  go_upto_region 8 with (fail)
  generalize hX : World.setCell _ _ _ = X
  have hre := ((((((((Re.refl HZ.out).set 0 (.int .u64 (gN hi lo 0))).set 4 (.int .u64 (gN hi lo 4))).set 1 (.int .u64 (gN hi lo 1))).set 5 (.int .u64 (gN hi lo 5))).set 2 (.int .u64 (gN hi lo 2))).set 6 (.int .u64 (gN hi lo 6))).set 3 (.int .u64 (gN hi lo 3))).set 7 (.int .u64 (gN hi lo 7))
  rw [hX] at hre
  have hbX : X.heap[w.heap.size + 1 + 1]? = some (.cells (gArr hi lo) 58 (0, 0)) := hre.blk
  have hrX := (hre.oth (w.heap.size + 1) (by omega)).trans HR.out
  have HBX := Lib.hid (hre.below HB.out (by omega))
  clear hX hre c1 c2 a0 a1 a2 a3 a4 a5 a6 a7 f0 f1 f2 f3 f4 f5 f6 f7
  first | refine load_step rfl hbX (by kernel_rfl) (by kernel_rfl) ?_ | (go_step; first | refine load_step rfl hbX (by kernel_rfl) (by kernel_rfl) ?_ | (go_step; first | refine load_step rfl hbX (by kernel_rfl) (by kernel_rfl) ?_ | (go_step; first | refine load_step rfl hbX (by kernel_rfl) (by kernel_rfl) ?_ | (go_step; first | refine load_step rfl hbX (by kernel_rfl) (by kernel_rfl) ?_ | (go_step; first | refine load_step rfl hbX (by kernel_rfl) (by kernel_rfl) ?_ | (go_step; first | refine load_step rfl hbX (by kernel_rfl) (by kernel_rfl) ?_ | (go_step; first | refine load_step rfl hbX (by kernel_rfl) (by kernel_rfl) ?_ | (go_step; refine load_step rfl hbX (by kernel_rfl) (by kernel_rfl) ?_))))))))
  first | refine store_step (vs := gArr hi lo) rfl rfl hrX (by rfl) (by kernel_rfl) (by simp [Value.oneCell', gArr]) (fun W3 hr => ?_) | (go_step; first | refine store_step (vs := gArr hi lo) rfl rfl hrX (by rfl) (by kernel_rfl) (by simp [Value.oneCell', gArr]) (fun W3 hr => ?_) | (go_step; first | refine store_step (vs := gArr hi lo) rfl rfl hrX (by rfl) (by kernel_rfl) (by simp [Value.oneCell', gArr]) (fun W3 hr => ?_) | (go_step; first | refine store_step (vs := gArr hi lo) rfl rfl hrX (by rfl) (by kernel_rfl) (by simp [Value.oneCell', gArr]) (fun W3 hr => ?_) | (go_step; first | refine store_step (vs := gArr hi lo) rfl rfl hrX (by rfl) (by kernel_rfl) (by simp [Value.oneCell', gArr]) (fun W3 hr => ?_) | (go_step; first | refine store_step (vs := gArr hi lo) rfl rfl hrX (by rfl) (by kernel_rfl) (by simp [Value.oneCell', gArr]) (fun W3 hr => ?_) | (go_step; first | refine store_step (vs := gArr hi lo) rfl rfl hrX (by rfl) (by kernel_rfl) (by simp [Value.oneCell', gArr]) (fun W3 hr => ?_) | (go_step; first | refine store_step (vs := gArr hi lo) rfl rfl hrX (by rfl) (by kernel_rfl) (by simp [Value.oneCell', gArr]) (fun W3 hr => ?_) | (go_step; refine store_step (vs := gArr hi lo) rfl rfl hrX (by rfl) (by kernel_rfl) (by simp [Value.oneCell', gArr]) (fun W3 hr => ?_)))))))))
  have HBW := Lib.hid (hr.below HBX.out (by omega))
  have hrb := hr.blk
  clear hr hbX hrX
  go_wp2_with fail
  exact bodyPost_ret (v := .agg (gArr hi lo)) (results_cell Tryz.results39 rfl hrb (by kernel_rfl) (by kernel_rfl)) rfl ⟨rfl, HBW.out⟩
/-- zeros' answer. -/
theorem zrun_lt : ∀ (l : List Nat) (n : Nat), n ≤ zrun l → ((n < l.length ∧ l.getD n 1 = 0) ↔ n < zrun l)
  | [], n, h => by simp [zrun] at h ⊢
  | x :: l, 0, _ => by
    by_cases hx : x = 0
    · simp [zrun, hx]
    · simp [zrun, hx]
  | x :: l, n + 1, h => by
    by_cases hx : x = 0
    · have ih := zrun_lt l n (by simp [zrun, hx] at h; exact h)
      simp only [zrun, hx, if_true, List.length_cons, List.getD_cons_succ]
      rw [Nat.add_lt_add_iff_right, ih]
      omega
    · simp [zrun, hx] at h
theorem zrun_len : ∀ l : List Nat, zrun l ≤ l.length
  | [] => by simp [zrun]
  | x :: l => by
    have := zrun_len l
    by_cases hx : x = 0 <;> simp [zrun, hx]
    omega
theorem zgo_end (g : List Nat) (k i f m : Nat) (h : g.length ≤ i) : zgo g k i f m = (f, m) := by
  cases k
  · rfl
  · unfold zgo
    rw [if_neg (by omega)]
def g8 (g : List Nat) : Array Value := (g.map (fun n : Nat => Value.int .u64 (n : Int))).toArray
theorem drop_len {g : List Nat} {i : Nat} : (g.drop i).length = g.length - i := List.length_drop
theorem drop_at {g : List Nat} {i n : Nat} : (g.drop i).getD n 1 = g.getD (i + n) 1 := by simp [List.getD_eq_getElem?_getD]
set_option maxRecDepth 100000 in
set_option maxHeartbeats 4000000 in
theorem zeros_any (g : List Nat) (hg : g.length = 8) (w : World) :
    Calls Tryz.prog 40 #[.agg (g8 g)] w fun e w' => e = .returned (.tuple #[.int .i64 (zeroF g).1, .int .i64 (zeroF g).2]) ∧ Below w.heap.size w w' := by
  have hbl := heap_alloc_new w (.cells (g8 g) 58)
  have hB : Below w.heap.size w (w.alloc (.cells (g8 g) 58)) := (Below.refl _ _).alloc (Nat.le_refl _) _
  have hcell : ∀ j, j < 8 → (w.alloc (.cells (g8 g) 58)).cell? ⟨w.heap.size, j, none⟩ = some (.int .u64 (g.getD j 1 : Nat)) := fun j hj => by
    refine (cell_of hbl j).trans ?_
    simp [g8, List.getD_eq_getElem?_getD, List.getElem?_eq_getElem (show j < g.length by omega)]
  have HC := Lib.hid hcell
  have HB := Lib.hid hB
  have HG := Lib.hid hg
  clear hbl hB hcell hg
  generalize g8 g = cs at HC HB ⊢
  go_enter Tryz.func40, Tryz.ntmps40
  go_wp2_with fail
  generalize World.alloc w _ = W at HC HB ⊢
  go_loopw [2, 3, 4, 5] (fun v2 v3 v4 _ wr => wr = W ∧ ∃ k i f m : Nat, v2 = .int .i64 f ∧ v3 = .int .i64 m ∧ v4 = .int .i64 i ∧ Hid (zeroF g = zgo g k i f m) ∧ 9 ≤ k + i ∧ i ≤ 9 ∧ f ≤ 8 ∧ m ≤ 8) (fun _ _ v4 _ _ => 9 - (intOf v4).toNat)
  case atStart => exact ⟨rfl, 9, 0, 0, 0, rfl, rfl, rfl, Lib.hid rfl, by omega, by omega, by omega, by omega⟩
  case round =>
    obtain ⟨rfl, k, i, f, m, rfl, rfl, rfl, HZ, hk, hi9, hf, hm⟩ := hrel
    by_cases hi8 : i < 8
    · have d1 : decide ((i : Int) < 8) = true := by simp; omega
      obtain ⟨k, rfl⟩ : ∃ k', k = k' + 1 := ⟨k - 1, by omega⟩
      have HZ2 : Hid (zeroF g = zgo g k (i + zrun (g.drop i) + 1) (if m < zrun (g.drop i) then i else f) (if m < zrun (g.drop i) then zrun (g.drop i) else m)) := Lib.hid (by
        rw [HZ.out]
        conv => lhs; unfold zgo
        rw [if_pos (by rw [HG.out]; exact hi8)])
      have hzl : i + zrun (g.drop i) ≤ 8 := by
        have := zrun_len (g.drop i)
        rw [drop_len, HG.out] at this
        omega
      have HRL := Lib.hid (zrun_lt (g.drop i))
      generalize zrun (g.drop i) = zr at HZ2 hzl HRL
      go_wp2_with fail
      obtain ⟨wo, rfl⟩ : ∃ wo : World, wo = wr := ⟨_, rfl⟩
      go_loopw [5] (fun v5 wq => wq = wo ∧ ∃ n : Nat, v5 = .int .i64 n ∧ n ≤ zr) (fun v5 _ => 9 - (intOf v5).toNat)
      case atStart => exact ⟨rfl, 0, rfl, by omega⟩
      case round =>
        obtain ⟨rfl, n, rfl, hn⟩ := hrel
        have s1 : IntKind.i64.wrap ((i : Int) + (n : Int)) = (i : Int) + (n : Int) := IntWalk.i64_in _ (by omega)
        have hrl := HRL.out n hn
        rw [drop_len, drop_at, HG.out] at hrl
        by_cases hn8 : i + n < 8
        · have d2 : decide ((i : Int) + (n : Int) < 8) = true := by simp; omega
          have c0 := HC.out (i + n) hn8
          have t1 : ((i : Int) + (n : Int)).toNat = i + n := by omega
          have t2 : 0 ≤ (i : Int) + (n : Int) := by omega
          have t3 : (i : Int) + (n : Int) < 8 := by omega
          generalize g.getD (i + n) 1 = x at c0 hrl
          by_cases hx : x = 0
          · have e1 : (((x : Nat) : Int) == 0) = true := by simp [hx]
            have hlt : n < zr := hrl.1 ⟨by omega, hx⟩
            clear hrl hx
            go_wp2_with fail
            go_roundw
            case rel => exact ⟨trivial, n + 1, by go_num, hlt⟩
            case measure => simp [intOf]; omega
          · have e1 : (((x : Nat) : Int) == 0) = false := by simp [hx]
            have hge : ¬ n < zr := fun c => hx (hrl.2 c).2
            obtain rfl : n = zr := by omega
            have s2 : IntKind.i64.wrap ((i : Int) + (n : Int) + 1) = (i : Int) + (n : Int) + 1 := IntWalk.i64_in _ (by omega)
            clear hrl HRL
            by_cases hmn : m < n
            · have e3 : decide ((n : Int) > (m : Int)) = true := by simp; omega
              have e4 : decide ((m : Int) < (n : Int)) = true := by simp; omega
              have e5 : decide (m < n) = true := by simp; omega
              rw [if_pos hmn, if_pos hmn] at HZ2
              clear hmn
              go_wp2_with fail
              exact ⟨⟨trivial, k, i + n + 1, i, n, rfl, rfl, by go_num, HZ2, by omega, by omega, by omega, by omega⟩, by simp [intOf]; omega⟩
            · have e3 : decide ((n : Int) > (m : Int)) = false := by simp; omega
              have e4 : decide ((m : Int) < (n : Int)) = false := by simp; omega
              have e5 : decide (m < n) = false := by simp; omega
              rw [if_neg hmn, if_neg hmn] at HZ2
              clear hmn
              go_wp2_with fail
              exact ⟨⟨trivial, k, i + n + 1, f, m, rfl, rfl, by go_num, HZ2, by omega, by omega, by omega, by omega⟩, by simp [intOf]; omega⟩
        · have d2 : decide ((i : Int) + (n : Int) < 8) = false := by simp; omega
          have hge : ¬ n < zr := fun c => hn8 (by have := (hrl.2 c).1; omega)
          obtain rfl : n = zr := by omega
          have s2 : IntKind.i64.wrap ((i : Int) + (n : Int) + 1) = (i : Int) + (n : Int) + 1 := IntWalk.i64_in _ (by omega)
          clear hrl HRL
          by_cases hmn : m < n
          · have e3 : decide ((n : Int) > (m : Int)) = true := by simp; omega
            have e4 : decide ((m : Int) < (n : Int)) = true := by simp; omega
            have e5 : decide (m < n) = true := by simp; omega
            rw [if_pos hmn, if_pos hmn] at HZ2
            clear hmn
            go_wp2_with fail
            exact ⟨⟨trivial, k, i + n + 1, i, n, rfl, rfl, by go_num, HZ2, by omega, by omega, by omega, by omega⟩, by simp [intOf]; omega⟩
          · have e3 : decide ((n : Int) > (m : Int)) = false := by simp; omega
            have e4 : decide ((m : Int) < (n : Int)) = false := by simp; omega
            have e5 : decide (m < n) = false := by simp; omega
            rw [if_neg hmn, if_neg hmn] at HZ2
            clear hmn
            go_wp2_with fail
            exact ⟨⟨trivial, k, i + n + 1, f, m, rfl, rfl, by go_num, HZ2, by omega, by omega, by omega, by omega⟩, by simp [intOf]; omega⟩
    · have d1 : decide ((i : Int) < 8) = false := by simp; omega
      have hz : zeroF g = (f, m) := by rw [HZ.out, zgo_end g k i f m (by rw [HG.out]; omega)]
      have HF := Lib.hid hz
      clear hz HZ
      go_wp2_with fail
      go_ret2
      exact ⟨by rw [HF.out]; rfl, HB.out⟩
end Go.Proofs.YtcicednopgpjfaaGreatDoor
