/- name.Label at any string. -/
import Derived.Test.YtcgligfkpfjcpaaGreatDoorLet
import Derived.Test.YtcgligfkpfjcpaaGreatDoorBaP
import Derived.Test.YtcgligfkpfjcpaaGreatDoorRwB
import Derived.Test.YtcgligfkpfjcpaaGreatDoorReady
import Derived.Deep.AppendLies
namespace Go.Proofs.YtcgligfkpfjcpaaGreatDoor
open Go.RowKit Go.Hw Go.Shelf

def lowB (c : UInt8) : UInt8 := if 65 ≤ c.toNat ∧ c.toNat ≤ 90 then c + 32 else c
theorem lowB_up {c : UInt8} (h : 65 ≤ c.toNat ∧ c.toNat ≤ 90) : (lowB c).toNat = c.toNat + 32 := by
  unfold lowB
  rw [if_pos h]
  have : (32 : UInt8).toNat = 32 := rfl
  rw [UInt8.toNat_add, this]
  omega
theorem lowB_low {c : UInt8} (h : ¬ (65 ≤ c.toNat ∧ c.toNat ≤ 90)) : lowB c = c := by unfold lowB; rw [if_neg h]
def stepL (out : List UInt8) (c : UInt8) : List UInt8 := if letP (lowB c).toNat then out ++ [lowB c] else if out.getLast? = some 45 then out else out ++ [45]
def rawL (s : List UInt8) : List UInt8 := s.foldl stepL []
/-- The label of a string. -/
def labelL (s : List UInt8) : List UInt8 := if Lib.trimB ((rawL s).take 63) 45 = [] then [110, 111, 100, 101] else Lib.trimB ((rawL s).take 63) 45
theorem rawL_snoc (s : List UInt8) (c : UInt8) : rawL (s ++ [c]) = stepL (rawL s) c := by unfold rawL; rw [List.foldl_append]; rfl
theorem stepL_len (out : List UInt8) (c : UInt8) : out.length ≤ (stepL out c).length ∧ (stepL out c).length ≤ out.length + 1 := by
  unfold stepL
  split
  · simp
  · split <;> simp
theorem rawL_len : ∀ (n : Nat) (s : List UInt8), s.length = n → (rawL s).length ≤ n := by
  intro n
  induction n with
  | zero =>
    intro s h
    rw [List.length_eq_zero_iff.1 h]
    exact Nat.le_refl _
  | succ n ih =>
    intro s h
    have hne : s ≠ [] := fun e => by rw [e] at h; simp at h
    obtain ⟨s', x, rfl⟩ : ∃ s' x, s = s' ++ [x] := ⟨s.dropLast, s.getLast hne, (List.dropLast_concat_getLast hne).symm⟩
    rw [rawL_snoc]
    have h1 := ih s' (by simpa using h)
    have h2 := (stepL_len (rawL s') x).2
    omega

abbrev byC (b : UInt8) : List Value := [.int .u8 (b.toNat : Int)]
theorem byC_len (b : UInt8) : (byC b).length = 1 := rfl
abbrev byOwn (w : World) (base : Nat) (v : Value) (L : List UInt8) : Prop := w.ownsRow base 5 1 v L.length (rwC byC L)
/-- Some bytes have been written. -/
def LbI (w : World) (v : Value) (L : List UInt8) (wr : World) : Prop := Below w.heap.size w wr ∧ byOwn wr w.heap.size v L
theorem by_cell {w : World} {base : Nat} {A : Option Addr} {cap : Nat} {L : List UInt8} (h : byOwn w base (.slice A L.length cap) L) {i : Nat} (hi : i < L.length) : ∃ g, A = some ⟨g, 0, none⟩ ∧ g < w.heap.size ∧ w.cell? ⟨g, i, none⟩ = some (.int .u8 ((L.getD i 0).toNat : Int)) := by
  rcases h.2 with ⟨h1, h2⟩ | ⟨g, cap', cur, h1, _⟩
  · omega
  · injection h1 with h1
    subst h1
    obtain ⟨g5, off, e1, hg, hc⟩ := rw_at' (d := (0 : UInt8)) byC_len h i hi
    injection e1 with e1
    simp only [Addr.mk.injEq, and_true] at e1
    obtain ⟨rfl, rfl⟩ := e1
    refine ⟨g, rfl, hg, ?_⟩
    have := hc 0 _ rfl
    simpa using this
theorem by_snoc (L : List UInt8) (b : UInt8) : rwC byC (L ++ [b]) = rwC byC L ++ [.int .u8 (b.toNat : Int)] := by simp [rwC]

set_option maxRecDepth 100000 in
set_option maxHeartbeats 2000000 in
theorem label_any (s : ByteArray) (w : World) (hs : s.size ≤ 100000) : Calls Tryz.prog 23 #[.string s] w fun e w' => e = .returned (.string (toB (labelL s.data.toList))) ∧ Below w.heap.size w w' := by
  obtain ⟨i0, hi0, hz0, hz1, hz2⟩ := info_parts Tryz.infoByte
  have hsl : s.data.toList.length = s.size := Array.length_toList
  have HSL := Lib.hid hsl
  clear hsl
  go_enter Tryz.func23, Tryz.ntmps23
  go_wp2_with fail
  go_loopw [9, 3] (fun v9 v3 wr => ∃ k : Nat, k ≤ s.size ∧ v9 = .int .i64 k ∧ LbI w v3 (rawL (s.data.toList.take k)) wr) (fun v9 _ _ => s.size - (intOf v9).toNat)
  case atStart => exact ⟨0, by omega, rfl, Below.refl _ _, World.ownsRow_nil _ _ _ _⟩
  case round =>
    obtain ⟨k, hk, rfl, hbw, hown⟩ := hrel
    have hrl : (rawL (s.data.toList.take k)).length ≤ 100000 := Nat.le_trans (rawL_len _ _ rfl) (by rw [List.length_take]; omega)
    have hrk : (rawL (s.data.toList.take k)).length ≤ k := Nat.le_trans (rawL_len _ _ rfl) (by rw [List.length_take]; omega)
    obtain ⟨A, cap, rfl, -⟩ := rw_at (d := (0 : UInt8)) byC_len hown
    by_cases hlt : k < s.size
    · have hnext : rawL (s.data.toList.take (k + 1)) = stepL (rawL (s.data.toList.take k)) s[k] := by
        have h1 := HSL.out
        rw [List.take_succ_eq_append_getElem (by omega), rawL_snoc]
        rfl
      have HNX := Lib.hid hnext
      clear hnext
      generalize rawL (s.data.toList.take k) = out at *
      have hn : s[k].toNat < 256 := s[k].toNat_lt
      generalize hc : s[k] = c at *
      have hidx : (s[k]'hlt).toNat = c.toNat := by rw [hc]
      have hlow : ((lowB c).toNat : Int) = if 65 ≤ c.toNat ∧ c.toNat ≤ 90 then (c.toNat : Int) + 32 else (c.toNat : Int) := by
        by_cases h : 65 ≤ c.toNat ∧ c.toNat ≤ 90
        · rw [if_pos h, lowB_up h]; omega
        · rw [if_neg h, lowB_low h]
      by_cases hup : 65 ≤ c.toNat ∧ c.toNat ≤ 90
      · have g1 : decide ((c.toNat : Int) ≥ 65) = true := decide_eq_true (by omega)
        have g2 : decide ((c.toNat : Int) ≤ 90) = true := decide_eq_true (by omega)
        have s0 : IntKind.u8.wrap ((c.toNat : Int) + 32) = (c.toNat : Int) + 32 := IntWalk.u8_in _ (by omega)
        have hd : ((lowB c).toNat : Int) = (c.toNat : Int) + 32 := by rw [lowB_up hup]; omega
        clear hlow
        have hlet := isLetter_any (lowB c) wr
        rw [hd] at hlet
        go_wp2_with fail
        refine hlet.mono ?_
        rintro e w1 ⟨rfl, rfl⟩
        cases hq : letP (lowB c).toNat
        · by_cases h0 : out.length = 0
          · have e0 : ((out.length : Int) == 0) = true := by simp [h0]
            have hne : out.getLast? ≠ some 45 := by rw [List.length_eq_zero_iff.1 h0]; simp
            have HNE := Lib.hid hne
            clear h0 hne
            go_wp2_with (go_loud (at_builtin; refine wpList_append_own _ rfl (.tmp 43) (.tmp 44) 87 rfl w.heap.size 5 i0 (.int .u8 0) 1 1 Tryz.underlying87 hi0 hz0 hz1 hz2 rfl (by decide) _ _ _ rfl (World.ownsRow.alloc hown _) ⟨wr.heap.size, 0, none⟩ 1 1 [.int .u8 45] rfl rfl ?d1 ?d2 ?d3 ?d4 ?d5 ?_))
            case d1 => exact cell_one_new _ _ _
            case d2 => simp [Value.oneCell']
            case d3 => unfold maxLen; omega
            case d4 => omega
            case d5 => have := hbw.size; simp; omega
            intro v' w5 ho5 hg5 _
            have hnew : LbI w v' (out ++ [45]) w5 := by
              refine ⟨(hbw.alloc hbw.size (.cells #[.int .u8 45] 5)).grown hg5 (by have := hbw.size; simp; omega) (fun j hj => (hown.lt j hj).1), ?_⟩
              unfold byOwn
              rw [List.length_append, by_snoc]
              exact ho5
            have HN := Lib.hid hnew
            clear hnew ho5 hg5 hown hbw
            go_wp2_with fail
            go_roundw
            case rel => exact ⟨k + 1, hlt, by go_num, by rw [HNX.out, show stepL out c = out ++ [45] by unfold stepL; rw [hq, if_neg HNE.out]; rfl]; exact HN.out⟩
            case measure => simp [intOf]; omega
          · have e0 : ((out.length : Int) == 0) = false := by simp [h0]
            obtain ⟨g, rfl, hgl, hcl⟩ := by_cell hown (i := out.length - 1) (by omega)
            have hlast : out.getLast? = some (out.getD (out.length - 1) 0) := by
              rw [List.getLast?_eq_getElem?, List.getD_eq_getElem?_getD, List.getElem?_eq_getElem (by omega)]
              rfl
            generalize out.getD (out.length - 1) 0 = lb at *
            have s1 : IntKind.i64.wrap ((out.length : Int) - 1) = (out.length : Int) - 1 := IntWalk.i64_in _ (by omega)
            have s2 : ((out.length : Int) - 1).toNat = out.length - 1 := by omega
            have s3 : 0 ≤ (out.length : Int) - 1 := by omega
            have s4 : (out.length : Int) - 1 < (out.length : Int) := by omega
            by_cases h45 : lb = 45
            · have e1 : ((lb.toNat : Int) != 45) = false := by rw [h45]; rfl
              have HN := Lib.hid (show LbI w (.slice (some ⟨g, 0, none⟩) out.length cap) out wr from ⟨hbw, hown⟩)
              have HLA := Lib.hid hlast
              clear hown hbw hlast
              go_wp2_with fail
              go_roundw
              case rel => exact ⟨k + 1, hlt, by go_num, by rw [HNX.out, show stepL out c = out by unfold stepL; rw [hq, HLA.out, h45]; rfl]; exact HN.out⟩
              case measure => simp [intOf]; omega
            · have e1 : ((lb.toNat : Int) != 45) = true := by
                have : lb.toNat ≠ 45 := fun e => h45 (UInt8.toNat_inj.1 e)
                simp; omega
              have hne : out.getLast? ≠ some 45 := by rw [hlast]; intro e; exact h45 (Option.some.inj e)
              have HNE := Lib.hid hne
              clear hne hlast
              go_wp2_with (go_loud (at_builtin; refine wpList_append_own _ rfl (.tmp 43) (.tmp 44) 87 rfl w.heap.size 5 i0 (.int .u8 0) 1 1 Tryz.underlying87 hi0 hz0 hz1 hz2 rfl (by decide) _ _ _ rfl (World.ownsRow.alloc hown _) ⟨wr.heap.size, 0, none⟩ 1 1 [.int .u8 45] rfl rfl ?d1 ?d2 ?d3 ?d4 ?d5 ?_))
              case d1 => exact cell_one_new _ _ _
              case d2 => simp [Value.oneCell']
              case d3 => unfold maxLen; omega
              case d4 => omega
              case d5 => have := hbw.size; simp; omega
              intro v' w5 ho5 hg5 _
              have hnew : LbI w v' (out ++ [45]) w5 := by
                refine ⟨(hbw.alloc hbw.size (.cells #[.int .u8 45] 5)).grown hg5 (by have := hbw.size; simp; omega) (fun j hj => (hown.lt j hj).1), ?_⟩
                unfold byOwn
                rw [List.length_append, by_snoc]
                exact ho5
              have HN := Lib.hid hnew
              clear hnew ho5 hg5 hown hbw
              go_wp2_with fail
              go_roundw
              case rel => exact ⟨k + 1, hlt, by go_num, by rw [HNX.out, show stepL out c = out ++ [45] by unfold stepL; rw [hq, if_neg HNE.out]; rfl]; exact HN.out⟩
              case measure => simp [intOf]; omega
        · go_wp2_with (go_loud (at_builtin; refine wpList_append_own _ rfl (.tmp 26) (.tmp 28) 87 rfl w.heap.size 5 i0 (.int .u8 0) 1 1 Tryz.underlying87 hi0 hz0 hz1 hz2 rfl (by decide) _ _ _ rfl (World.ownsRow.alloc hown _) ⟨wr.heap.size, 0, none⟩ 1 1 [.int .u8 ((c.toNat : Int) + 32)] rfl rfl ?d1 ?d2 ?d3 ?d4 ?d5 ?_))
          case d1 => exact cell_one_new _ _ _
          case d2 => simp [Value.oneCell']
          case d3 => unfold maxLen; omega
          case d4 => omega
          case d5 => have := hbw.size; simp; omega
          intro v' w5 ho5 hg5 _
          have hnew : LbI w v' (out ++ [lowB c]) w5 := by
            refine ⟨(hbw.alloc hbw.size (.cells #[.int .u8 ((c.toNat : Int) + 32)] 5)).grown hg5 (by have := hbw.size; simp; omega) (fun j hj => (hown.lt j hj).1), ?_⟩
            unfold byOwn
            rw [List.length_append, by_snoc, hd]
            exact ho5
          have HN := Lib.hid hnew
          clear hnew ho5 hg5 hown hbw
          go_wp2_with fail
          go_roundw
          case rel => exact ⟨k + 1, hlt, by go_num, by rw [HNX.out, show stepL out c = out ++ [lowB c] by unfold stepL; rw [hq]; rfl]; exact HN.out⟩
          case measure => simp [intOf]; omega
      · have hd : ((lowB c).toNat : Int) = (c.toNat : Int) := by rw [lowB_low hup]
        clear hlow
        by_cases h65 : 65 ≤ c.toNat
        · have g1 : decide ((c.toNat : Int) ≥ 65) = true := decide_eq_true (by omega)
          have g2 : decide ((c.toNat : Int) ≤ 90) = false := decide_eq_false (by omega)
          have hlet := isLetter_any (lowB c) wr
          rw [hd] at hlet
          go_wp2_with fail
          refine hlet.mono ?_
          rintro e w1 ⟨rfl, rfl⟩
          cases hq : letP (lowB c).toNat
          · by_cases h0 : out.length = 0
            · have e0 : ((out.length : Int) == 0) = true := by simp [h0]
              have hne : out.getLast? ≠ some 45 := by rw [List.length_eq_zero_iff.1 h0]; simp
              have HNE := Lib.hid hne
              clear h0 hne
              go_wp2_with (go_loud (at_builtin; refine wpList_append_own _ rfl (.tmp 43) (.tmp 44) 87 rfl w.heap.size 5 i0 (.int .u8 0) 1 1 Tryz.underlying87 hi0 hz0 hz1 hz2 rfl (by decide) _ _ _ rfl (World.ownsRow.alloc hown _) ⟨wr.heap.size, 0, none⟩ 1 1 [.int .u8 45] rfl rfl ?d1 ?d2 ?d3 ?d4 ?d5 ?_))
              case d1 => exact cell_one_new _ _ _
              case d2 => simp [Value.oneCell']
              case d3 => unfold maxLen; omega
              case d4 => omega
              case d5 => have := hbw.size; simp; omega
              intro v' w5 ho5 hg5 _
              have hnew : LbI w v' (out ++ [45]) w5 := by
                refine ⟨(hbw.alloc hbw.size (.cells #[.int .u8 45] 5)).grown hg5 (by have := hbw.size; simp; omega) (fun j hj => (hown.lt j hj).1), ?_⟩
                unfold byOwn
                rw [List.length_append, by_snoc]
                exact ho5
              have HN := Lib.hid hnew
              clear hnew ho5 hg5 hown hbw
              go_wp2_with fail
              go_roundw
              case rel => exact ⟨k + 1, hlt, by go_num, by rw [HNX.out, show stepL out c = out ++ [45] by unfold stepL; rw [hq, if_neg HNE.out]; rfl]; exact HN.out⟩
              case measure => simp [intOf]; omega
            · have e0 : ((out.length : Int) == 0) = false := by simp [h0]
              obtain ⟨g, rfl, hgl, hcl⟩ := by_cell hown (i := out.length - 1) (by omega)
              have hlast : out.getLast? = some (out.getD (out.length - 1) 0) := by
                rw [List.getLast?_eq_getElem?, List.getD_eq_getElem?_getD, List.getElem?_eq_getElem (by omega)]
                rfl
              generalize out.getD (out.length - 1) 0 = lb at *
              have s1 : IntKind.i64.wrap ((out.length : Int) - 1) = (out.length : Int) - 1 := IntWalk.i64_in _ (by omega)
              have s2 : ((out.length : Int) - 1).toNat = out.length - 1 := by omega
              have s3 : 0 ≤ (out.length : Int) - 1 := by omega
              have s4 : (out.length : Int) - 1 < (out.length : Int) := by omega
              by_cases h45 : lb = 45
              · have e1 : ((lb.toNat : Int) != 45) = false := by rw [h45]; rfl
                have HN := Lib.hid (show LbI w (.slice (some ⟨g, 0, none⟩) out.length cap) out wr from ⟨hbw, hown⟩)
                have HLA := Lib.hid hlast
                clear hown hbw hlast
                go_wp2_with fail
                go_roundw
                case rel => exact ⟨k + 1, hlt, by go_num, by rw [HNX.out, show stepL out c = out by unfold stepL; rw [hq, HLA.out, h45]; rfl]; exact HN.out⟩
                case measure => simp [intOf]; omega
              · have e1 : ((lb.toNat : Int) != 45) = true := by
                  have : lb.toNat ≠ 45 := fun e => h45 (UInt8.toNat_inj.1 e)
                  simp; omega
                have hne : out.getLast? ≠ some 45 := by rw [hlast]; intro e; exact h45 (Option.some.inj e)
                have HNE := Lib.hid hne
                clear hne hlast
                go_wp2_with (go_loud (at_builtin; refine wpList_append_own _ rfl (.tmp 43) (.tmp 44) 87 rfl w.heap.size 5 i0 (.int .u8 0) 1 1 Tryz.underlying87 hi0 hz0 hz1 hz2 rfl (by decide) _ _ _ rfl (World.ownsRow.alloc hown _) ⟨wr.heap.size, 0, none⟩ 1 1 [.int .u8 45] rfl rfl ?d1 ?d2 ?d3 ?d4 ?d5 ?_))
                case d1 => exact cell_one_new _ _ _
                case d2 => simp [Value.oneCell']
                case d3 => unfold maxLen; omega
                case d4 => omega
                case d5 => have := hbw.size; simp; omega
                intro v' w5 ho5 hg5 _
                have hnew : LbI w v' (out ++ [45]) w5 := by
                  refine ⟨(hbw.alloc hbw.size (.cells #[.int .u8 45] 5)).grown hg5 (by have := hbw.size; simp; omega) (fun j hj => (hown.lt j hj).1), ?_⟩
                  unfold byOwn
                  rw [List.length_append, by_snoc]
                  exact ho5
                have HN := Lib.hid hnew
                clear hnew ho5 hg5 hown hbw
                go_wp2_with fail
                go_roundw
                case rel => exact ⟨k + 1, hlt, by go_num, by rw [HNX.out, show stepL out c = out ++ [45] by unfold stepL; rw [hq, if_neg HNE.out]; rfl]; exact HN.out⟩
                case measure => simp [intOf]; omega
          · go_wp2_with (go_loud (at_builtin; refine wpList_append_own _ rfl (.tmp 26) (.tmp 28) 87 rfl w.heap.size 5 i0 (.int .u8 0) 1 1 Tryz.underlying87 hi0 hz0 hz1 hz2 rfl (by decide) _ _ _ rfl (World.ownsRow.alloc hown _) ⟨wr.heap.size, 0, none⟩ 1 1 [.int .u8 ((c.toNat : Int))] rfl rfl ?d1 ?d2 ?d3 ?d4 ?d5 ?_))
            case d1 => exact cell_one_new _ _ _
            case d2 => simp [Value.oneCell']
            case d3 => unfold maxLen; omega
            case d4 => omega
            case d5 => have := hbw.size; simp; omega
            intro v' w5 ho5 hg5 _
            have hnew : LbI w v' (out ++ [lowB c]) w5 := by
              refine ⟨(hbw.alloc hbw.size (.cells #[.int .u8 ((c.toNat : Int))] 5)).grown hg5 (by have := hbw.size; simp; omega) (fun j hj => (hown.lt j hj).1), ?_⟩
              unfold byOwn
              rw [List.length_append, by_snoc, hd]
              exact ho5
            have HN := Lib.hid hnew
            clear hnew ho5 hg5 hown hbw
            go_wp2_with fail
            go_roundw
            case rel => exact ⟨k + 1, hlt, by go_num, by rw [HNX.out, show stepL out c = out ++ [lowB c] by unfold stepL; rw [hq]; rfl]; exact HN.out⟩
            case measure => simp [intOf]; omega
        · have g1 : decide ((c.toNat : Int) ≥ 65) = false := decide_eq_false (by omega)
          have hlet := isLetter_any (lowB c) wr
          rw [hd] at hlet
          go_wp2_with fail
          refine hlet.mono ?_
          rintro e w1 ⟨rfl, rfl⟩
          cases hq : letP (lowB c).toNat
          · by_cases h0 : out.length = 0
            · have e0 : ((out.length : Int) == 0) = true := by simp [h0]
              have hne : out.getLast? ≠ some 45 := by rw [List.length_eq_zero_iff.1 h0]; simp
              have HNE := Lib.hid hne
              clear h0 hne
              go_wp2_with (go_loud (at_builtin; refine wpList_append_own _ rfl (.tmp 43) (.tmp 44) 87 rfl w.heap.size 5 i0 (.int .u8 0) 1 1 Tryz.underlying87 hi0 hz0 hz1 hz2 rfl (by decide) _ _ _ rfl (World.ownsRow.alloc hown _) ⟨wr.heap.size, 0, none⟩ 1 1 [.int .u8 45] rfl rfl ?d1 ?d2 ?d3 ?d4 ?d5 ?_))
              case d1 => exact cell_one_new _ _ _
              case d2 => simp [Value.oneCell']
              case d3 => unfold maxLen; omega
              case d4 => omega
              case d5 => have := hbw.size; simp; omega
              intro v' w5 ho5 hg5 _
              have hnew : LbI w v' (out ++ [45]) w5 := by
                refine ⟨(hbw.alloc hbw.size (.cells #[.int .u8 45] 5)).grown hg5 (by have := hbw.size; simp; omega) (fun j hj => (hown.lt j hj).1), ?_⟩
                unfold byOwn
                rw [List.length_append, by_snoc]
                exact ho5
              have HN := Lib.hid hnew
              clear hnew ho5 hg5 hown hbw
              go_wp2_with fail
              go_roundw
              case rel => exact ⟨k + 1, hlt, by go_num, by rw [HNX.out, show stepL out c = out ++ [45] by unfold stepL; rw [hq, if_neg HNE.out]; rfl]; exact HN.out⟩
              case measure => simp [intOf]; omega
            · have e0 : ((out.length : Int) == 0) = false := by simp [h0]
              obtain ⟨g, rfl, hgl, hcl⟩ := by_cell hown (i := out.length - 1) (by omega)
              have hlast : out.getLast? = some (out.getD (out.length - 1) 0) := by
                rw [List.getLast?_eq_getElem?, List.getD_eq_getElem?_getD, List.getElem?_eq_getElem (by omega)]
                rfl
              generalize out.getD (out.length - 1) 0 = lb at *
              have s1 : IntKind.i64.wrap ((out.length : Int) - 1) = (out.length : Int) - 1 := IntWalk.i64_in _ (by omega)
              have s2 : ((out.length : Int) - 1).toNat = out.length - 1 := by omega
              have s3 : 0 ≤ (out.length : Int) - 1 := by omega
              have s4 : (out.length : Int) - 1 < (out.length : Int) := by omega
              by_cases h45 : lb = 45
              · have e1 : ((lb.toNat : Int) != 45) = false := by rw [h45]; rfl
                have HN := Lib.hid (show LbI w (.slice (some ⟨g, 0, none⟩) out.length cap) out wr from ⟨hbw, hown⟩)
                have HLA := Lib.hid hlast
                clear hown hbw hlast
                go_wp2_with fail
                go_roundw
                case rel => exact ⟨k + 1, hlt, by go_num, by rw [HNX.out, show stepL out c = out by unfold stepL; rw [hq, HLA.out, h45]; rfl]; exact HN.out⟩
                case measure => simp [intOf]; omega
              · have e1 : ((lb.toNat : Int) != 45) = true := by
                  have : lb.toNat ≠ 45 := fun e => h45 (UInt8.toNat_inj.1 e)
                  simp; omega
                have hne : out.getLast? ≠ some 45 := by rw [hlast]; intro e; exact h45 (Option.some.inj e)
                have HNE := Lib.hid hne
                clear hne hlast
                go_wp2_with (go_loud (at_builtin; refine wpList_append_own _ rfl (.tmp 43) (.tmp 44) 87 rfl w.heap.size 5 i0 (.int .u8 0) 1 1 Tryz.underlying87 hi0 hz0 hz1 hz2 rfl (by decide) _ _ _ rfl (World.ownsRow.alloc hown _) ⟨wr.heap.size, 0, none⟩ 1 1 [.int .u8 45] rfl rfl ?d1 ?d2 ?d3 ?d4 ?d5 ?_))
                case d1 => exact cell_one_new _ _ _
                case d2 => simp [Value.oneCell']
                case d3 => unfold maxLen; omega
                case d4 => omega
                case d5 => have := hbw.size; simp; omega
                intro v' w5 ho5 hg5 _
                have hnew : LbI w v' (out ++ [45]) w5 := by
                  refine ⟨(hbw.alloc hbw.size (.cells #[.int .u8 45] 5)).grown hg5 (by have := hbw.size; simp; omega) (fun j hj => (hown.lt j hj).1), ?_⟩
                  unfold byOwn
                  rw [List.length_append, by_snoc]
                  exact ho5
                have HN := Lib.hid hnew
                clear hnew ho5 hg5 hown hbw
                go_wp2_with fail
                go_roundw
                case rel => exact ⟨k + 1, hlt, by go_num, by rw [HNX.out, show stepL out c = out ++ [45] by unfold stepL; rw [hq, if_neg HNE.out]; rfl]; exact HN.out⟩
                case measure => simp [intOf]; omega
          · go_wp2_with (go_loud (at_builtin; refine wpList_append_own _ rfl (.tmp 26) (.tmp 28) 87 rfl w.heap.size 5 i0 (.int .u8 0) 1 1 Tryz.underlying87 hi0 hz0 hz1 hz2 rfl (by decide) _ _ _ rfl (World.ownsRow.alloc hown _) ⟨wr.heap.size, 0, none⟩ 1 1 [.int .u8 ((c.toNat : Int))] rfl rfl ?d1 ?d2 ?d3 ?d4 ?d5 ?_))
            case d1 => exact cell_one_new _ _ _
            case d2 => simp [Value.oneCell']
            case d3 => unfold maxLen; omega
            case d4 => omega
            case d5 => have := hbw.size; simp; omega
            intro v' w5 ho5 hg5 _
            have hnew : LbI w v' (out ++ [lowB c]) w5 := by
              refine ⟨(hbw.alloc hbw.size (.cells #[.int .u8 ((c.toNat : Int))] 5)).grown hg5 (by have := hbw.size; simp; omega) (fun j hj => (hown.lt j hj).1), ?_⟩
              unfold byOwn
              rw [List.length_append, by_snoc, hd]
              exact ho5
            have HN := Lib.hid hnew
            clear hnew ho5 hg5 hown hbw
            go_wp2_with fail
            go_roundw
            case rel => exact ⟨k + 1, hlt, by go_num, by rw [HNX.out, show stepL out c = out ++ [lowB c] by unfold stepL; rw [hq]; rfl]; exact HN.out⟩
            case measure => simp [intOf]; omega
    · have hkk : k = s.size := by omega
      have htk : s.data.toList.take k = s.data.toList := List.take_of_length_le (by have := HSL.out; omega)
      rw [htk] at hown hrl hrk
      have HLL : Hid (labelL s.data.toList = if Lib.trimB ((rawL s.data.toList).take 63) 45 = [] then [110, 111, 100, 101] else Lib.trimB ((rawL s.data.toList).take 63) 45) := Lib.hid rfl
      subst hkk
      clear htk
      rw [show rawL (s.data.toList.take s.size) = rawL s.data.toList by rw [List.take_of_length_le (by have := HSL.out; omega)]]
      generalize rawL s.data.toList = out at *
      obtain ⟨q, hq⟩ : ∃ q : Nat, q = min out.length 63 := ⟨_, rfl⟩
      have hqm : (min (out.length : Int) 63) = (q : Int) := by omega
      have hq0 : out.take 63 = out.take q := by
        rw [hq]
        rcases Nat.le_total out.length 63 with h | h
        · rw [Nat.min_eq_left h, List.take_of_length_le h, List.take_of_length_le (Nat.le_refl _)]
        · rw [Nat.min_eq_right h]
      have hql : q ≤ out.length := by omega
      have hcap : out.length ≤ cap ∨ A = none := by
        rcases A with _ | a
        · exact .inr rfl
        · rcases hown.2 with ⟨h1, _⟩ | ⟨g', cap', cur, h1, hb, hg, hnc, _⟩
          · injection h1 with h1; cases h1
          · injection h1 with _ _ h1; left; omega
      have HQ := Lib.hid hq0
      clear hq hq0
      have htq : (out.take q).length = q := by rw [List.length_take]; omega
      have hfin : ∀ w2, (w2 = wr ∨ w2 = wr.drew) → Below w.heap.size w w2 := fun w2 h => by
        rcases h with rfl | rfl
        · exact hbw
        · exact hbw.drew
      have HFIN := Lib.hid hfin
      have htrim := Tryz.strings_Trim_one (toB (out.take q)) 45 (by decide) wr (by show (out.take q).length ≤ _; omega)
      rw [toB_data] at htrim
      rw [HQ.out] at HLL
      have hlab : ∀ T, Lib.trimB (out.take q) 45 = T → labelL s.data.toList = if T = [] then [110, 111, 100, 101] else T := fun T hT => by rw [HLL.out, hT]
      have HLAB := Lib.hid hlab
      have hcv : (convert 87 9 (.slice (A.map fun a => a) q cap)).run Tryz.prog wr = .ok (.string (toB (out.take q))) wr := by
        rcases A with _ | ⟨g, off, sp⟩
        · rcases hown.2 with ⟨h1, h2⟩ | ⟨g', cap', cur, h1, _⟩
          · have : q = 0 := by omega
            subst this
            show (convert 87 9 (.slice none 0 cap)).run Tryz.prog wr = _
            rw [run_convert_bytes_string wr 87 9 5 none 0 cap Tryz.underlying87 Tryz.underlying5 Tryz.underlying9]
            simp [Conv.bytesToString, toB]
            rfl
          · injection h1 with h1; cases h1
        · rcases hown.2 with ⟨h1, h2⟩ | ⟨g', cap', cur, h1, _⟩
          · injection h1 with h1; cases h1
          · injection h1 with h1
            injection h1 with h1
            obtain ⟨rfl, rfl, rfl⟩ : g = g' ∧ off = 0 ∧ sp = none := by injection h1 with a b c; exact ⟨a, b, c⟩
            have := run_convert_bytes_back (P := Tryz.prog) wr 87 9 5 ⟨g, 0, none⟩ cap (out.take q) Tryz.underlying87 Tryz.underlying5 Tryz.underlying9 (by
              intro j hj
              obtain ⟨g2, e2, _, hc⟩ := by_cell hown (i := j) (by omega)
              injection e2 with e2
              injection e2 with e2
              subst e2
              rw [Addr.add_lit, Nat.zero_add, hc, List.getD_eq_getElem?_getD, List.getElem?_eq_getElem (by omega)]
              simp)
            rw [htq] at this
            exact this
      have hcv' : (convert 87 9 (.slice A q cap)).run Tryz.prog wr = .ok (.string (toB (out.take q))) wr := by simpa using hcv
      have hAn : A = none → out.length = 0 ∧ cap = 0 ∧ q = 0 := fun e => by
        rcases hown.2 with ⟨h1, h2⟩ | ⟨g', cap', cur, h1, _⟩
        · injection h1 with _ h3 h4; exact ⟨h3, h4, by omega⟩
        · injection h1 with h1; rw [e] at h1; cases h1
      clear hcv HLL hlab hfin hown hbw htq
      generalize Lib.trimB (out.take q) 45 = tr at *
      generalize toB (out.take q) = sq at *
      generalize out.length = n at *
      rcases A with _ | a
      · obtain ⟨rfl, rfl, rfl⟩ := hAn rfl
        clear hAn hcap hql hrl hrk
        have hmn : (min (0 : Int) 63).toNat = 0 := by decide
        go_wp2_with fail
        refine htrim.mono ?_
        rintro e w4 ⟨rfl, hw4⟩
        have hb4 := HFIN.out w4 hw4
        have hlab := HLAB.out tr rfl
        clear htrim hw4 hcv'
        by_cases ht : tr = []
        · have hie : (toB tr).toList.isEmpty = true := by rw [ByteArray.toList_eq, toB_data, ht]; rfl
          rw [if_pos ht] at hlab
          have HLB := Lib.hid hlab
          have hie' : tr.isEmpty = true := by rw [ht]; rfl
          clear hlab ht hie
          go_wp2_with fail
          go_ret
          refine ⟨?_, hb4⟩
          rw [HLB.out]
          exact congrArg (fun x => Ending.returned (.string x)) (show (⟨#[110, 111, 100, 101]⟩ : ByteArray) = toB [110, 111, 100, 101] from rfl)
        · have hie : (toB tr).toList.isEmpty = false := by
            rw [ByteArray.toList_eq, toB_data]
            cases tr with
            | nil => exact absurd rfl ht
            | cons _ _ => rfl
          rw [if_neg ht] at hlab
          have HLB := Lib.hid hlab
          have hie' : tr.isEmpty = false := by cases tr with | nil => exact absurd rfl ht | cons _ _ => rfl
          clear hlab ht hie
          go_wp2_with fail
          go_ret
          rw [HLB.out]
          exact ⟨rfl, hb4⟩
      · have hcap' : n ≤ cap := by rcases hcap with h | h; exact h; cases h
        clear hAn hcap
        have h0 : 0 ≤ (q : Int) := by omega
        have h1 : (q : Int) ≤ (cap : Int) := by omega
        go_wp2_with fail
        refine htrim.mono ?_
        rintro e w4 ⟨rfl, hw4⟩
        have hb4 := HFIN.out w4 hw4
        have hlab := HLAB.out tr rfl
        clear htrim hw4 hcv'
        by_cases ht : tr = []
        · have hie : (toB tr).toList.isEmpty = true := by rw [ByteArray.toList_eq, toB_data, ht]; rfl
          rw [if_pos ht] at hlab
          have HLB := Lib.hid hlab
          have hie' : tr.isEmpty = true := by rw [ht]; rfl
          clear hlab ht hie
          go_wp2_with fail
          go_ret
          refine ⟨?_, hb4⟩
          rw [HLB.out]
          exact congrArg (fun x => Ending.returned (.string x)) (show (⟨#[110, 111, 100, 101]⟩ : ByteArray) = toB [110, 111, 100, 101] from rfl)
        · have hie : (toB tr).toList.isEmpty = false := by
            rw [ByteArray.toList_eq, toB_data]
            cases tr with
            | nil => exact absurd rfl ht
            | cons _ _ => rfl
          rw [if_neg ht] at hlab
          have HLB := Lib.hid hlab
          have hie' : tr.isEmpty = false := by cases tr with | nil => exact absurd rfl ht | cons _ _ => rfl
          clear hlab ht hie
          go_wp2_with fail
          go_ret
          rw [HLB.out]
          exact ⟨rfl, hb4⟩
end Go.Proofs.YtcgligfkpfjcpaaGreatDoor
