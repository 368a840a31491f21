/- Stream.Changed and AddrString: some string. -/
import Derived.Test.YtcicednopgpjfaaGreatDoorDsA
import Derived.Test.YtcicednopgpjfaaGreatDoorAdS
import Derived.Test.YtcicednopgpjfaaGreatDoorSome
import Derived.Test.YtcicednopgpjfaaGreatDoorShelf
import Derived.Test.YtcicednopgpjfaaGreatDoorAxN
import Derived.BigQuiet
namespace Go.Proofs.YtcicednopgpjfaaGreatDoor
open Go.RowKit Go.Hw Go.Shelf
/-- A string of at most m bytes, and the stream at most n numbers further. -/
def SomeOut (w : World) (b : Nat) (A : Option Addr) (cap : Nat) (l : List Int) (at_ n : Int) (m : Nat) (e : Ending) (w' : World) : Prop := ∃ t : ByteArray, t.size ≤ m ∧ e = .returned (.string t) ∧ StrTo w w' b A cap l at_ n
theorem str_ne9 {s : ByteArray} (h : s.size ≠ 0) : s.toList.isEmpty = false := by
  rw [ByteArray.toList_eq]
  cases hq : s.data.toList with
  | nil =>
    have := congrArg List.length hq
    rw [Array.length_toList] at this
    exact absurd this h
  | cons a r => rfl
theorem str_e9 {s : ByteArray} (h : s.size = 0) : s.toList.isEmpty = true := by
  rw [ByteArray.toList_eq, List.isEmpty_iff, ← List.length_eq_zero_iff, Array.length_toList]
  exact h
theorem strTo_dn {w w' : World} {b : Nat} {A : Option Addr} {cap : Nat} {l : List Int} {at_ m : Int} (h : StrTo w w' b A cap l at_ m) (n : Nat) : StrTo w (w'.drewN n) b A cap l at_ m :=
  let ⟨x, h1, h2, h3, h4⟩ := h
  ⟨x, h1, h2, h3.keep rfl fun _ _ => rfl, ⟨h4.os, h4.tape, h4.output, h4.size, h4.block⟩⟩
theorem encode_le (n : Int) : (Utf8.encode n).size ≤ 4 := by
  unfold Utf8.encode
  dsimp only
  repeat' split
  all_goals first | (show 1 ≤ 4; omega) | (show 2 ≤ 4; omega) | (show 3 ≤ 4; omega) | (show 4 ≤ 4; omega)
set_option maxRecDepth 100000 in
set_option maxHeartbeats 2000000 in
theorem changed_any (b : Nat) (A : Option Addr) (cap : Nat) (l : List Int) (at_ : Int) (w : World) (h : Str w b A cap l at_) (hh : at_ < 1099511627000) (s t : ByteArray) (hs : s.size ≤ 100000) (ht : t.size ≤ 100000) (ht0 : 0 < t.size) :
    Calls Tryz.prog 29 #[.pointer (some ⟨b, 0, none⟩), .string s, .string t] w (SomeOut w b A cap l at_ 3 (s.size + t.size + 4)) := by
  have D0 := DS.start h
  have te : t.toList.isEmpty = false := str_ne9 (by omega)
  by_cases hs0 : s.size = 0
  · have se : s.toList.isEmpty = true := str_e9 hs0
    have HD := Lib.hid D0.to
    clear hs0 D0
    go_enter Tryz.func29, Tryz.ntmps29
    go_wp2_with fail
    go_ret
    obtain ⟨x, h1, h2, h3, h4⟩ := HD.out
    exact ⟨t, by omega, rfl, x, h1, by omega, h3, h4⟩
  · have se : s.toList.isEmpty = false := str_ne9 hs0
    have q0 : 1 ≤ (s.size : Int) := by omega
    have q1 : 1 ≤ (t.size : Int) := by omega
    go_enter Tryz.func29, Tryz.ntmps29
    go_wp2_with fail
    refine (next_any b A cap l at_ _ _ h q0 (by omega) (by omega)).mono ?_
    rintro e w1 ⟨rfl, hs1, hg1⟩
    have d1 := draw_low l at_ (s.size : Int) (by omega)
    have d2 := draw_high l at_ (s.size : Int) (by omega)
    generalize drawOf l at_ (s.size : Int) = x1 at *
    go_wp2_with fail
    refine (next_any b A cap l _ _ _ hs1 q1 (by omega) (by omega)).mono ?_
    rintro e w2 ⟨rfl, hs2, hg2⟩
    have d3 := draw_low l (at_ + 1) (t.size : Int) (by omega)
    have d4 := draw_high l (at_ + 1) (t.size : Int) (by omega)
    generalize drawOf l (at_ + 1) (t.size : Int) = x2 at *
    obtain ⟨n1, rfl⟩ := Int.eq_ofNat_of_zero_le d1
    obtain ⟨n2, rfl⟩ := Int.eq_ofNat_of_zero_le d3
    have d5 : n2 < t.size := by omega
    have d6 : n1 < s.size := by omega
    go_wp2_with fail
    refine (next_any b A cap l _ 3 _ hs2 (by omega) (by omega) (by omega)).mono ?_
    rintro e w3 ⟨rfl, hs3, hg3⟩
    have HF : Hid (StrTo w w3 b A cap l at_ 3) := Lib.hid ⟨_, by omega, by omega, hs3, (hg1.andThen hg2 (fun _ h => .inr h)).andThen hg3 (fun _ h => .inr h)⟩
    generalize drawOf l (at_ + 1 + 1) 3 = x3 at *
    clear hs1 hs2 hs3 hg1 hg2 hg3 h D0
    have s1 : IntKind.i64.wrap ((n1 : Int) + 1) = (n1 : Int) + 1 := IntWalk.i64_in _ (by omega)
    have s2 : (n1 : Int) ≤ (s.size : Int) := by omega
    have s3 : (n1 : Int) + 1 ≤ (s.size : Int) := by omega
    have hc := encode_le (((t[n2]'d5).toNat : Nat) : Int)
    have s4 : IntKind.i32.wrap (((t[n2]'d5).toNat : Nat) : Int) = (((t[n2]'d5).toNat : Nat) : Int) := by
      have := (t[n2]'d5).toNat_lt
      simp [IntKind.wrap, IntKind.bits, IntKind.signed]
      omega
    have s5 : ((n1 : Int) + 1).toNat = n1 + 1 := by omega
    have e1 : (s.extract 0 n1).size ≤ 100000 := by rw [ByteArray.size_extract]; omega
    have e2 : (s.extract (n1 + 1) s.size).size ≤ 100000 := by rw [ByteArray.size_extract]; omega
    have e3 : (s.extract n1 s.size).size ≤ 100000 := by rw [ByteArray.size_extract]; omega
    generalize (((t[n2]'d5).toNat : Nat) : Int) = cc at *
    -- generalize Utf8.encode cc = uc at *
    -- generalize s.extract 0 n1 = p1 at *
    -- generalize s.extract (n1 + 1) s.size = p2 at *
    -- generalize s.extract n1 s.size = p3 at *
    have l1 : ¬ 9223372036854775807 < (s.extract 0 n1).size + (Utf8.encode cc).size := by omega
    have l2 : ¬ 9223372036854775807 < (s.extract 0 n1).size + (Utf8.encode cc).size + (s.extract (n1 + 1) s.size).size := by omega
    have l3 : ¬ 9223372036854775807 < (s.extract 0 n1).size + (Utf8.encode cc).size + (s.extract n1 s.size).size := by omega
    have l4 : ¬ 9223372036854775807 < (s.extract 0 n1).size + (s.extract (n1 + 1) s.size).size := by omega
    by_cases h0 : x3 = 0
    · have g0 : (x3 == 0) = true := by rw [h0]; rfl
      clear h0
      go_wp2_with fail
      go_quiet (fail)
      go_wp2_with fail
      go_ret
      exact ⟨_, by simp only [ByteArray.size_append, ByteArray.size_extract]; omega, rfl, strTo_dn HF.out _⟩
    · have g0 : (x3 == 0) = false := by simpa using h0
      by_cases h1 : x3 = 1
      · have g1 : (x3 == 1) = true := by rw [h1]; rfl
        clear h0 h1
        go_wp2_with fail
        go_quiet (fail)
        go_wp2_with fail
        go_ret
        exact ⟨_, by simp only [ByteArray.size_append, ByteArray.size_extract]; omega, rfl, strTo_dn HF.out _⟩
      · have g1 : (x3 == 1) = false := by simpa using h1
        clear h0 h1
        go_wp2_with fail
        go_quiet (fail)
        go_wp2_with fail
        go_ret
        exact ⟨_, by simp only [ByteArray.size_append, ByteArray.size_extract]; omega, rfl, strTo_dn HF.out _⟩
/-- The strings that AddrString picks from. -/
def astrs : List ByteArray := [⟨#[50, 48, 48, 49, 58, 68, 66, 56, 58, 58, 49]⟩, ⟨#[48, 58, 48, 58, 48, 58, 48, 58, 48, 58, 48, 58, 48, 58, 48]⟩, ⟨#[58, 58, 102, 102, 102, 102, 58, 49, 48, 46, 48, 46, 48, 46, 49]⟩, ⟨#[49, 58, 50, 58, 51, 58, 52, 58, 53, 58, 54, 58, 49, 46, 50, 46, 51, 46, 52]⟩, ⟨#[49, 58, 58, 50, 58, 58, 51]⟩, ⟨#[58, 58, 58]⟩, ⟨#[49, 58, 50, 58, 51, 58, 52, 58, 53, 58, 54, 58, 55, 58, 56, 58, 57]⟩, ⟨#[58, 58, 49, 46, 50, 46, 51]⟩, ⟨#[49, 48, 46, 48, 46, 48, 46, 50, 53, 54]⟩, ⟨#[48, 49, 48, 46, 48, 46, 48, 46, 49]⟩, ⟨#[49, 46, 50, 46, 51, 46, 52, 46, 53]⟩, ⟨#[49, 58, 50, 58, 51, 58, 52, 58, 53, 58, 54, 58, 55, 58, 58]⟩, ⟨#[58, 58, 50, 58, 51, 58, 52, 58, 53, 58, 54, 58, 55, 58, 56]⟩, ⟨#[49, 58, 48, 58, 48, 58, 50, 58, 48, 58, 48, 58, 48, 58, 51]⟩, ⟨#[103, 58, 58]⟩, ⟨#[49, 50, 51, 52, 53, 58, 58]⟩, ⟨#[]⟩, ⟨#[58, 58]⟩, ⟨#[49, 58, 58, 49, 58, 48, 58, 48, 58, 48]⟩, ⟨#[102, 101, 56, 48, 58, 58, 37, 49]⟩]
theorem astrs_le : ∀ v ∈ astrs, v.size ≤ 100 := by decide +kernel
theorem below_of_g9 {w w0 w1 : World} {K : Nat} (hb : Below w.heap.size w w0) (h : w0.grownBy w1 (some K)) (hK : w.heap.size ≤ K) : Below w.heap.size w w1 :=
  ⟨h.os.trans hb.os, h.tape.trans hb.tape, h.output.trans hb.output, Nat.le_trans hb.size h.size, fun k hk => (h.block k (Nat.lt_of_lt_of_le hk hb.size) (fun e => by injection e with e; omega)).trans (hb.block k hk)⟩
set_option maxRecDepth 100000 in
set_option maxHeartbeats 2000000 in
theorem addrString_any (b : Nat) (A : Option Addr) (cap : Nat) (l : List Int) (at_ : Int) (w : World) (h : Str w b A cap l at_) (hh : at_ < 1099511626000) (w0 : World) (V : NmVars w0) (hB : Below w0.heap.size w0 w) (hwb : w0.heap.size ≤ b) :
    Calls Tryz.prog 11 #[.pointer (some ⟨b, 0, none⟩)] w (SomeOut w b A cap l at_ 20 300) := by
  have l0 := h.low
  have hbl := h.lt
  go_enter Tryz.func11, Tryz.ntmps11
  go_wp2_with fail
  refine (flip_any b A cap l at_ 3 _ h (by omega) (by omega) (by omega)).mono ?_
  rintro e w1 ⟨rfl, hs1, hg1⟩
  have HG1 := Lib.hid hg1
  clear hg1 h
  generalize (drawOf l at_ 3 == 0) = q at *
  cases q
  · go_wp2_with fail
    refine (addr_any b A cap l _ _ hs1 (by omega)).mono ?_
    rintro e w2 ⟨six, hi, lo, rfl, hfine, x2, hx1, hx2, hs2, hg2⟩
    have HG2 := Lib.hid (HG1.out.andThen hg2 (fun _ h => .inr h))
    have HV2 := Lib.hid (V.below (below_of_g9 hB HG2.out hwb) (Nat.le_refl _))
    clear hs1 hg2 HG1
    go_wp2_with fail
    refine (addrText_any six hi lo w2 HV2.out hfine.1 hfine.2.1).mono ?_
    rintro e w3 ⟨t, ht, rfl, hb3⟩
    have HG3 := Lib.hid (HG2.out.andThen (grownB hb3 (some b)) (fun _ h => .inr h))
    have hs3 := hs2.grown (grownB hb3 none) (fun k e => by cases e)
    clear hs2 HG2 HV2 hb3 hfine
    go_wp2_with fail
    refine (pick_any b A cap l x2 _ (hs3.alloc _) (by omega) w3.heap.size [0, 0, 1] (by rw [heap_alloc_new]; rfl) (by have := hs3.lt; omega) (by simp) (by simp) 3 3 rfl).mono ?_
    rintro e w4 ⟨rfl, hs4, hg4⟩
    have hpk : ([0, 0, 1] : List Int).getD (drawOf l x2 (([0, 0, 1] : List Int).length : Int)).toNat 0 = 0 ∨ ([0, 0, 1] : List Int).getD (drawOf l x2 (([0, 0, 1] : List Int).length : Int)).toNat 0 = 1 := by
      have h1 := draw_low l x2 (([0, 0, 1] : List Int).length : Int) (by simp)
      have h2 := draw_high l x2 (([0, 0, 1] : List Int).length : Int) (by simp)
      obtain ⟨j, hj⟩ := Int.eq_ofNat_of_zero_le h1
      rw [hj] at h2 ⊢
      have hj3 : j = 0 ∨ j = 1 ∨ j = 2 := by simp at h2; omega
      rcases hj3 with rfl | rfl | rfl <;> simp
    generalize ([0, 0, 1] : List Int).getD (drawOf l x2 (([0, 0, 1] : List Int).length : Int)).toNat 0 = pk at *
    have HG4 := Lib.hid (HG3.out.andThen (grown_alloc_then hg4) (fun _ h => .inr h))
    clear hs3 hg4 HG3
    rcases hpk with rfl | rfl
    · go_wp2_with fail
      refine wp_loop_rounds 1 ?_
      rw [rounds_succ]
      go_wp2_with fail
      go_ret
      exact ⟨t, by omega, rfl, _, by omega, by omega, hs4, HG4.out⟩
    · go_wp2_with fail
      refine wp_loop_rounds 2 ?_
      rw [rounds_succ]
      go_wp2_with fail
      refine (changed_any b A cap l _ _ hs4 (by omega) t ⟨#[48, 49, 50, 51, 52, 53, 54, 55, 56, 57, 97, 98, 102, 65, 58, 46]⟩ (by omega) (by decide) (by decide)).mono ?_
      rintro e w5 ⟨t', ht', rfl, x5, hx51, hx52, hs5, hg5⟩
      have htt : t'.size ≤ 300 := Nat.le_trans ht' (by show t.size + 16 + 4 ≤ 300; omega)
      have HG5 := Lib.hid (HG4.out.andThen hg5 (fun _ h => .inr h))
      clear hs4 hg5 HG4 ht'
      go_wp2_with fail
      rw [rounds_succ]
      go_wp2_with fail
      go_ret
      exact ⟨t', htt, rfl, x5, by omega, by omega, hs5, HG5.out⟩
  · go_wp2_with fail
    refine (some_any b A cap l _ _ (hs1.alloc _) (by omega) w1.heap.size astrs (by rw [heap_alloc_new]; rfl) (by have := hs1.lt; omega) (by decide) (by decide) 20 20 rfl).mono ?_
    rintro e w2 ⟨rfl, hs2, hg2⟩
    have hle : (astrs.getD (drawOf l (at_ + 1) (astrs.length : Int)).toNat ByteArray.empty).size ≤ 300 := by
      have h1 := draw_low l (at_ + 1) (astrs.length : Int) (by decide)
      have h2 := draw_high l (at_ + 1) (astrs.length : Int) (by decide)
      exact Nat.le_trans (astrs_le _ (getD_mem (by omega))) (by decide)
    generalize astrs.getD (drawOf l (at_ + 1) (astrs.length : Int)).toNat ByteArray.empty = tt at *
    have HG2 := Lib.hid (HG1.out.andThen (grown_alloc_then hg2) (fun _ h => .inr h))
    clear hs1 hg2 HG1
    go_wp2_with fail
    go_ret
    exact ⟨tt, hle, rfl, _, by omega, by omega, hs2, HG2.out⟩
end Go.Proofs.YtcicednopgpjfaaGreatDoor
