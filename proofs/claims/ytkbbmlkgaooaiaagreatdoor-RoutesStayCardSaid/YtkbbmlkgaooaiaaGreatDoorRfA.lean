/- What is wrong with routers: laneref1.RoutersFault. -/
import Derived.Test.YtkbbmlkgaooaiaaGreatDoorWdF
import Derived.Test.YtkbbmlkgaooaiaaGreatDoorFlt
namespace Go.Proofs.YtkbbmlkgaooaiaaGreatDoor
open Go.RowKit Go.Hw Go.Shelf

/-- Routers in memory, below block B. -/
def RtsAt (w : World) (B : Nat) (A : Option Addr) (xs : List Rt) : Prop :=
  ∀ i, i < xs.length → ∃ g off, A = some ⟨g, off, none⟩ ∧ g < B ∧ w.cell? ⟨g, off + i * 6, none⟩ = some (.bool (xs.getD i noRt).six) ∧ w.cell? ⟨g, off + i * 6 + 1, none⟩ = some (.int .u64 (xs.getD i noRt).hi) ∧ w.cell? ⟨g, off + i * 6 + 2, none⟩ = some (.int .u64 (xs.getD i noRt).lo) ∧
    w.cell? ⟨g, off + i * 6 + 3, none⟩ = some (.int .i64 (xs.getD i noRt).bits) ∧ w.cell? ⟨g, off + i * 6 + 4, none⟩ = some (.string (xs.getD i noRt).node) ∧ w.cell? ⟨g, off + i * 6 + 5, none⟩ = some (.int .i64 (xs.getD i noRt).weight)
theorem RtsAt.below {w w' : World} {B : Nat} {A : Option Addr} {xs : List Rt} (h : RtsAt w B A xs) (hb : Below B w w') : RtsAt w' B A xs := fun i hi =>
  let ⟨g, off, h1, h2, h3, h4, h5, h6, h7, h8⟩ := h i hi
  ⟨g, off, h1, h2, (hb.cell (p := ⟨g, _, none⟩) h2).trans h3, (hb.cell (p := ⟨g, _, none⟩) h2).trans h4, (hb.cell (p := ⟨g, _, none⟩) h2).trans h5, (hb.cell (p := ⟨g, _, none⟩) h2).trans h6, (hb.cell (p := ⟨g, _, none⟩) h2).trans h7, (hb.cell (p := ⟨g, _, none⟩) h2).trans h8⟩
theorem RtsAt.more {w : World} {B B' : Nat} {A : Option Addr} {xs : List Rt} (h : RtsAt w B A xs) (hb : B ≤ B') : RtsAt w B' A xs := fun i hi =>
  let ⟨g, off, h1, h2, h3⟩ := h i hi
  ⟨g, off, h1, by omega, h3⟩
def ordP (p x : Rt) : Int := orOf [cmpN (wd p.six p.hi p.lo) (wd x.six x.hi x.lo) 9, cmpI p.bits x.bits]
/-- What is wrong with router i. -/
def rtCode (xs : List Rt) (i : Nat) : Int :=
  if pfCode (xs.getD i noRt).six (xs.getD i noRt).hi (xs.getD i noRt).lo (xs.getD i noRt).bits ≠ 0 then pfCode (xs.getD i noRt).six (xs.getD i noRt).hi (xs.getD i noRt).lo (xs.getD i noRt).bits
  else if isKey (xs.getD i noRt).node = false then 5
  else if ¬ (0 ≤ (xs.getD i noRt).weight ∧ (xs.getD i noRt).weight ≤ 1000) then 1
  else if 0 < i ∧ 0 ≤ orOf [ordP (xs.getD (i - 1) noRt) (xs.getD i noRt), Lib.compareBytes (xs.getD (i - 1) noRt).node.data.toList (xs.getD i noRt).node.data.toList] then 7
  else 0
def rtFault (xs : List Rt) : Int := if 500 < xs.length then 2 else (((List.range xs.length).map (rtCode xs)).find? (fun c => decide (c ≠ 0))).getD 0
theorem rtFault_at {xs : List Rt} {k : Nat} (hl : xs.length ≤ 500) (hk : k < xs.length) (h : ∀ j, j < k → rtCode xs j = 0) (hf : rtCode xs k ≠ 0) : rtFault xs = rtCode xs k := by
  unfold rtFault
  rw [if_neg (by omega)]
  exact find_range hk h hf
theorem rtFault_none {xs : List Rt} (hl : xs.length ≤ 500) (h : ∀ j, j < xs.length → rtCode xs j = 0) : rtFault xs = 0 := by
  unfold rtFault
  rw [if_neg (by omega)]
  exact find_range_none h
theorem rtT_at {xs : List Rt} (h : ∀ y ∈ xs, RtT y) (i : Nat) : RtT (xs.getD i noRt) := by
  by_cases hi : i < xs.length
  · rw [List.getD_eq_getElem?_getD, List.getElem?_eq_getElem hi]; exact h _ (List.getElem_mem hi)
  · rw [List.getD_eq_getElem?_getD, List.getElem?_eq_none (by omega)]; exact ⟨by simp [noRt, U64], by simp [noRt, U64], by simp [noRt]⟩

theorem res6 {W : World} {R : Nat} {a0 a1 a2 a3 a4 a5 : Value} {T : TypeId} (h : W.heap[R]? = some (.cells #[a0, a1, a2, a3, a4, a5] T (0, 0))) : (W.cell? ⟨R, 0, none⟩ = some a0 ∧ W.cell? ⟨R, 1, none⟩ = some a1 ∧ W.cell? ⟨R, 2, none⟩ = some a2 ∧ W.cell? ⟨R, 3, none⟩ = some a3 ∧ W.cell? ⟨R, 4, none⟩ = some a4 ∧ W.cell? ⟨R, 5, none⟩ = some a5) ∧ True := by
  refine ⟨⟨?_, ?_, ?_, ?_, ?_, ?_⟩, trivial⟩ <;> simp [World.cell?, h]
set_option maxRecDepth 100000 in
set_option maxHeartbeats 2000000 in
theorem routersFault_any (A : Option Addr) (cap : Nat) (xs : List Rt) (w : World) (h : RtsAt w w.heap.size A xs) (hl : xs.length ≤ 500) (ht : ∀ y ∈ xs, RtT y) :
    Calls Tryz.prog 9 #[.slice A xs.length cap] w fun e w' => e = .returned (.int .i64 (rtFault xs)) ∧ Below w.heap.size w w' := by
  have H := Lib.hid h
  have HT := Lib.hid (rtT_at ht)
  clear h ht
  go_enter Tryz.func9, Tryz.ntmps9
  go_wp2_with fail
  go_loopw [11] (fun i wr => ∃ k : Nat, k ≤ xs.length ∧ i = .int .i64 k ∧ Hid (∀ j, j < k → rtCode xs j = 0) ∧ Below w.heap.size w wr) (fun i _ => xs.length - (intOf i).toNat)
  case atStart => exact ⟨0, Nat.zero_le _, rfl, Lib.hid (fun j h => absurd h (by omega)), Below.refl _ _⟩
  case round =>
    obtain ⟨k, hk, rfl, hrel, hb⟩ := hrel
    by_cases hlt : k < xs.length
    · obtain ⟨g, off, rfl, hg, c0, c1, c2, c3, c4, c5⟩ := (H.out.below hb) k hlt
      have hcode : rtCode xs k = rtCode xs k := rfl
      conv at hcode => rhs; unfold rtCode
      have HC := Lib.hid hcode
      have HE : Hid (rtCode xs k ≠ 0 → rtFault xs = rtCode xs k) := Lib.hid (rtFault_at hl hlt hrel.out)
      obtain ⟨uh, ul, hn2⟩ := HT.out k
      have hsz := hb.size
      clear hcode
      generalize xs.getD k noRt = x at *
      obtain ⟨xs_, xh, xl, xb, xn, xw⟩ := x
      simp only at c0 c1 c2 c3 c4 c5 uh ul hn2
      have s1 : xn.size ≤ maxLen := by unfold maxLen; omega
      have hbx := heap_alloc_new wr (.cells #[.bool xs_, .int .u64 xh, .int .u64 xl, .int .i64 xb, .string xn, .int .i64 xw] 55)
      have HBX := Lib.hid hbx
      have hlw : wr.heap.size < (wr.alloc (.cells #[.bool xs_, .int .u64 xh, .int .u64 xl, .int .i64 xb, .string xn, .int .i64 xw] 55)).heap.size := by simp
      have HBW := Lib.hid (hb.alloc hb.size (.cells #[.bool xs_, .int .u64 xh, .int .u64 xl, .int .i64 xb, .string xn, .int .i64 xw] 55))
      obtain ⟨⟨x0, x1, x2, x3, x4, x5⟩, -⟩ := res6 hbx
      clear hbx hb
      have HTP := HT.out (k - 1)
      by_cases hc : pfCode xs_ xh xl xb = 0
      rotate_left
      · have hcc : (pfCode xs_ xh xl xb != 0) = true := by simpa using hc
        have HF : Hid (rtFault xs = pfCode xs_ xh xl xb) := Lib.hid (by
          have h5 : rtCode xs k = pfCode xs_ xh xl xb := (by rw [HC.out, if_pos hc])
          rw [HE.out (by rw [h5]; exact hc), h5])
        go_wp2_with fail
        refine (prefixFault_any _ _ _ _ _ uh ul).mono ?_
        rintro e w1 ⟨rfl, hb1⟩
        have HB1 := Lib.hid (HBW.out.trans (hb1.mono HBW.out.size))
        clear x0 x1 x2 x3 x4 x5 hb1 hc
        generalize pfCode xs_ xh xl xb = pc at hcc HF ⊢
        go_wp2_with fail
        go_ret
        exact ⟨ret_eq HF.out.symm, HB1.out⟩
      have HPC := Lib.hid hc
      clear hc
      go_wp2_with fail
      refine (prefixFault_any _ _ _ _ _ uh ul).mono ?_
      rintro e w1 ⟨rfl, hb1⟩
      rw [HPC.out]
      have x0 : w1.cell? ⟨wr.heap.size, 0, none⟩ = some (.bool xs_) := (hb1.cell (p := ⟨wr.heap.size, 0, none⟩) (by first | (simp; done) | (simp; omega) | omega)).trans (by first | assumption | (go_simp; done))
      have x1 : w1.cell? ⟨wr.heap.size, 1, none⟩ = some (.int .u64 xh) := (hb1.cell (p := ⟨wr.heap.size, 1, none⟩) (by first | (simp; done) | (simp; omega) | omega)).trans (by first | assumption | (go_simp; done))
      have x2 : w1.cell? ⟨wr.heap.size, 2, none⟩ = some (.int .u64 xl) := (hb1.cell (p := ⟨wr.heap.size, 2, none⟩) (by first | (simp; done) | (simp; omega) | omega)).trans (by first | assumption | (go_simp; done))
      have x3 : w1.cell? ⟨wr.heap.size, 3, none⟩ = some (.int .i64 xb) := (hb1.cell (p := ⟨wr.heap.size, 3, none⟩) (by first | (simp; done) | (simp; omega) | omega)).trans (by first | assumption | (go_simp; done))
      have x4 : w1.cell? ⟨wr.heap.size, 4, none⟩ = some (.string xn) := (hb1.cell (p := ⟨wr.heap.size, 4, none⟩) (by first | (simp; done) | (simp; omega) | omega)).trans (by first | assumption | (go_simp; done))
      have x5 : w1.cell? ⟨wr.heap.size, 5, none⟩ = some (.int .i64 xw) := (hb1.cell (p := ⟨wr.heap.size, 5, none⟩) (by first | (simp; done) | (simp; omega) | omega)).trans (by first | assumption | (go_simp; done))
      have hlw : wr.heap.size < w1.heap.size := Nat.lt_of_lt_of_le hlw hb1.size
      have HBW := Lib.hid (HBW.out.trans (hb1.mono HBW.out.size))
      clear hb1
      cases ka : isKey xn
      · have HF : Hid (rtFault xs = 5) := Lib.hid (by
          have h5 : rtCode xs k = 5 := (by rw [HC.out, if_neg (by rw [HPC.out]; decide), if_pos ka])
          rw [HE.out (by rw [h5]; decide), h5])
        go_wp2_with fail
        refine (key_any xn _ s1).mono ?_
        rintro e w2 ⟨rfl, hb2⟩
        rw [ka]
        go_wp2_with fail
        go_ret
        exact ⟨ret_eq HF.out.symm, HBW.out.trans (hb2.mono HBW.out.size)⟩
      go_wp2_with fail
      refine (key_any xn _ s1).mono ?_
      rintro e w2 ⟨rfl, hb2⟩
      rw [ka]
      have x0 : w2.cell? ⟨wr.heap.size, 0, none⟩ = some (.bool xs_) := (hb2.cell (p := ⟨wr.heap.size, 0, none⟩) (by first | (simp; done) | (simp; omega) | omega)).trans (by first | assumption | (go_simp; done))
      have x1 : w2.cell? ⟨wr.heap.size, 1, none⟩ = some (.int .u64 xh) := (hb2.cell (p := ⟨wr.heap.size, 1, none⟩) (by first | (simp; done) | (simp; omega) | omega)).trans (by first | assumption | (go_simp; done))
      have x2 : w2.cell? ⟨wr.heap.size, 2, none⟩ = some (.int .u64 xl) := (hb2.cell (p := ⟨wr.heap.size, 2, none⟩) (by first | (simp; done) | (simp; omega) | omega)).trans (by first | assumption | (go_simp; done))
      have x3 : w2.cell? ⟨wr.heap.size, 3, none⟩ = some (.int .i64 xb) := (hb2.cell (p := ⟨wr.heap.size, 3, none⟩) (by first | (simp; done) | (simp; omega) | omega)).trans (by first | assumption | (go_simp; done))
      have x4 : w2.cell? ⟨wr.heap.size, 4, none⟩ = some (.string xn) := (hb2.cell (p := ⟨wr.heap.size, 4, none⟩) (by first | (simp; done) | (simp; omega) | omega)).trans (by first | assumption | (go_simp; done))
      have x5 : w2.cell? ⟨wr.heap.size, 5, none⟩ = some (.int .i64 xw) := (hb2.cell (p := ⟨wr.heap.size, 5, none⟩) (by first | (simp; done) | (simp; omega) | omega)).trans (by first | assumption | (go_simp; done))
      have hlw : wr.heap.size < w2.heap.size := Nat.lt_of_lt_of_le hlw hb2.size
      have HBW := Lib.hid (HBW.out.trans (hb2.mono HBW.out.size))
      clear hb2
      by_cases km : 0 ≤ xw ∧ xw ≤ 1000
      rotate_left
      · have HF : Hid (rtFault xs = 1) := Lib.hid (by
          have h5 : rtCode xs k = 1 := (by rw [HC.out, if_neg (by rw [HPC.out]; decide), if_neg (by rw [ka]; decide), if_pos km])
          rw [HE.out (by rw [h5]; decide), h5])
        have hin : (decide ((0 : Int) ≤ xw) && decide (xw ≤ 1000)) = false := by
          cases hd : (decide ((0 : Int) ≤ xw) && decide (xw ≤ 1000))
          · rfl
          · exact absurd (by simpa using hd) km
        clear km
        go_wp2_with fail
        refine (in1_any _ _ _ _).mono ?_
        rintro e w3 ⟨rfl, rfl⟩
        rw [hin]
        go_wp2_with fail
        go_ret
        exact ⟨ret_eq HF.out.symm, HBW.out⟩
      have hin : (decide ((0 : Int) ≤ xw) && decide (xw ≤ 1000)) = true := by simp [km.1, km.2]
      have HKM := Lib.hid km
      clear km
      by_cases k0 : k = 0
      · have HN : Hid (rtCode xs k = 0) := Lib.hid (by rw [HC.out, if_neg (by rw [HPC.out]; decide), if_neg (by rw [ka]; decide), if_neg (fun e => e HKM.out), if_neg (by omega)])
        have hd : decide (0 < k) = false := by simp; omega
        have HR : Hid (∀ j, j < k + 1 → rtCode xs j = 0) := Lib.hid (fun j hj => by
          by_cases e : j = k
          · rw [e]; exact HN.out
          · exact hrel.out j (by omega))
        clear k0 hrel
        go_wp2_with fail
        refine (in1_any _ _ _ _).mono ?_
        rintro e w3 ⟨rfl, rfl⟩
        rw [hin]
        go_wp2_with fail
        go_quiet (fail)
        go_wp2_with fail
        go_roundw
        case rel => exact ⟨k + 1, by omega, by go_num, HR, ⟨HBW.out.os, HBW.out.tape, HBW.out.output, HBW.out.size, HBW.out.block⟩⟩
        case measure => simp [intOf]; omega
      · obtain ⟨g', off', e', hg', p0, p1, p2, p3, p4, p5⟩ := (H.out.below HBW.out) (k - 1) (by omega)
        injection e' with e'
        injection e' with e1 e2
        subst e1 e2
        have HK0 := Lib.hid k0
        have k0' : 0 < k := by omega
        have hk1 : 0 ≤ (k : Int) - 1 := by omega
        have hk2 : (k : Int) - 1 < (xs.length : Int) := by omega
        clear k0 p5
        generalize hp : xs.getD (k - 1) noRt = p at *
        obtain ⟨ps, ph, pl, pb, pn, pw⟩ := p
        simp only at p0 p1 p2 p3 p4
        obtain ⟨vh, vl, -⟩ := HTP
        simp only at vh vl
        have HP := Lib.hid hp
        have hgw : g < w2.heap.size := by have := HBW.out.size; omega
        clear hp
        go_wp2_with fail
        refine (in1_any _ _ _ _).mono ?_
        rintro e w3 ⟨rfl, rfl⟩
        rw [hin]
        have hd : decide (0 < k) = true := by simp; omega
        go_wp2_with fail
        have s1' : (1 : Int) ≤ (k : Int) := by omega
        have s0 : IntKind.i64.wrap ((k : Int) - 1) = (k : Int) - 1 := IntWalk.i64_in _ (by omega)
        have s2' : ((k : Int) - 1).toNat = k - 1 := by omega
        have hwl := hsz
        go_region_held3 (fun w' => w'.cell? ⟨g, off + (k - 1) * 6, none⟩ = some (.bool ps) ∧ w'.cell? ⟨g, off + (k - 1) * 6 + 1, none⟩ = some (.int .u64 ph) ∧ w'.cell? ⟨g, off + (k - 1) * 6 + 2, none⟩ = some (.int .u64 pl) ∧ w'.cell? ⟨g, off + (k - 1) * 6 + 3, none⟩ = some (.int .i64 pb) ∧ w'.cell? ⟨g, off + (k - 1) * 6 + 4, none⟩ = some (.string pn) ∧ w'.cell? ⟨wr.heap.size, 0, none⟩ = some (.bool xs_) ∧ w'.cell? ⟨wr.heap.size, 1, none⟩ = some (.int .u64 xh) ∧ w'.cell? ⟨wr.heap.size, 2, none⟩ = some (.int .u64 xl) ∧ w'.cell? ⟨wr.heap.size, 3, none⟩ = some (.int .i64 xb) ∧ w'.cell? ⟨wr.heap.size, 4, none⟩ = some (.string xn))
          (first | exact ⟨p0, p1, p2, p3, p4, x0, x1, x2, x3, x4⟩ | ((repeat' apply And.intro) <;> (first | (go_simp; done) | with_reducible assumption)))
          (first
            | (go_at_call 30; refine (prefixOrder_any _ _ _ _ _ _ _ _ _ vh vl uh ul).mono ?_; rintro e W1 ⟨rfl, hb1⟩; have p0 : W1.cell? ⟨g, off + (k - 1) * 6, none⟩ = some (.bool ps) := (hb1.cell (p := ⟨g, off + (k - 1) * 6, none⟩) (by first | (simp; done) | (simp; omega) | omega)).trans (by first | assumption | (go_simp; done)); have p1 : W1.cell? ⟨g, off + (k - 1) * 6 + 1, none⟩ = some (.int .u64 ph) := (hb1.cell (p := ⟨g, off + (k - 1) * 6 + 1, none⟩) (by first | (simp; done) | (simp; omega) | omega)).trans (by first | assumption | (go_simp; done)); have p2 : W1.cell? ⟨g, off + (k - 1) * 6 + 2, none⟩ = some (.int .u64 pl) := (hb1.cell (p := ⟨g, off + (k - 1) * 6 + 2, none⟩) (by first | (simp; done) | (simp; omega) | omega)).trans (by first | assumption | (go_simp; done)); have p3 : W1.cell? ⟨g, off + (k - 1) * 6 + 3, none⟩ = some (.int .i64 pb) := (hb1.cell (p := ⟨g, off + (k - 1) * 6 + 3, none⟩) (by first | (simp; done) | (simp; omega) | omega)).trans (by first | assumption | (go_simp; done)); have p4 : W1.cell? ⟨g, off + (k - 1) * 6 + 4, none⟩ = some (.string pn) := (hb1.cell (p := ⟨g, off + (k - 1) * 6 + 4, none⟩) (by first | (simp; done) | (simp; omega) | omega)).trans (by first | assumption | (go_simp; done)); have x0 : W1.cell? ⟨wr.heap.size, 0, none⟩ = some (.bool xs_) := (hb1.cell (p := ⟨wr.heap.size, 0, none⟩) (by first | (simp; done) | (simp; omega) | omega)).trans (by first | assumption | (go_simp; done)); have x1 : W1.cell? ⟨wr.heap.size, 1, none⟩ = some (.int .u64 xh) := (hb1.cell (p := ⟨wr.heap.size, 1, none⟩) (by first | (simp; done) | (simp; omega) | omega)).trans (by first | assumption | (go_simp; done)); have x2 : W1.cell? ⟨wr.heap.size, 2, none⟩ = some (.int .u64 xl) := (hb1.cell (p := ⟨wr.heap.size, 2, none⟩) (by first | (simp; done) | (simp; omega) | omega)).trans (by first | assumption | (go_simp; done)); have x3 : W1.cell? ⟨wr.heap.size, 3, none⟩ = some (.int .i64 xb) := (hb1.cell (p := ⟨wr.heap.size, 3, none⟩) (by first | (simp; done) | (simp; omega) | omega)).trans (by first | assumption | (go_simp; done)); have x4 : W1.cell? ⟨wr.heap.size, 4, none⟩ = some (.string xn) := (hb1.cell (p := ⟨wr.heap.size, 4, none⟩) (by first | (simp; done) | (simp; omega) | omega)).trans (by first | assumption | (go_simp; done)); have hl0 : wr.heap.size < W1.heap.size := (by have := hb1.size; (try simp at this); omega); have hl1 : g < W1.heap.size := (by have := hb1.size; (try simp at this); omega); have HBW : Hid (Below w.heap.size w W1) := (by first | exact Lib.hid (HBW.out.drew.trans (hb1.mono (show w.heap.size ≤ w2.heap.size by omega))) | exact Lib.hid (HBW.out.trans (hb1.mono (by omega)))))
            | (go_at_call 31; refine (cmp_any _ _ _).mono ?_; rintro e w' ⟨rfl, rfl⟩)
            | (go_at_call 29; refine (or_any W1.heap.size [orOf [cmpN (wd ps ph pl) (wd xs_ xh xl) 9, cmpI pb xb], Lib.compareBytes pn.data.toList xn.data.toList] _ (by exact heap_alloc_new W1 _) 2 2 rfl (by simp)).mono ?_; rintro e w' ⟨rfl, rfl⟩))
        clear s1' s0 s2' hd k0' hk1 hk2
        have hw := HBW.out.alloc HBW.out.size (.cells #[.int .i64 (orOf [cmpN (wd ps ph pl) (wd xs_ xh xl) 9, cmpI pb xb]), .int .i64 (Lib.compareBytes pn.data.toList xn.data.toList)] 3)
        by_cases ho : 0 ≤ orOf [orOf [cmpN (wd ps ph pl) (wd xs_ xh xl) 9, cmpI pb xb], Lib.compareBytes pn.data.toList xn.data.toList]
        · have h7 : rtCode xs k = 7 := by rw [HC.out, if_neg (by rw [HPC.out]; decide), if_neg (by rw [ka]; decide), if_neg (fun e => e HKM.out), if_pos ⟨by have := HK0.out; omega, ho⟩]
          have HF : Hid (rtFault xs = 7) := Lib.hid (by rw [HE.out (by rw [h7]; decide), h7])
          have HW := Lib.hid hw
          clear h7 hw
          generalize orOf [orOf [cmpN (wd ps ph pl) (wd xs_ xh xl) 9, cmpI pb xb], Lib.compareBytes pn.data.toList xn.data.toList] = o at *
          go_wp2_with fail
          go_ret
          exact ⟨ret_eq HF.out.symm, HW.out⟩
        · have h7 : rtCode xs k = 0 := by rw [HC.out, if_neg (by rw [HPC.out]; decide), if_neg (by rw [ka]; decide), if_neg (fun e => e HKM.out), if_neg (fun h => ho h.2)]
          have HR : Hid (∀ j, j < k + 1 → rtCode xs j = 0) := Lib.hid (fun j hj => by
            by_cases e : j = k
            · rw [e]; exact h7
            · exact hrel.out j (by omega))
          have HW := Lib.hid hw
          clear h7 hrel hw
          generalize orOf [orOf [cmpN (wd ps ph pl) (wd xs_ xh xl) 9, cmpI pb xb], Lib.compareBytes pn.data.toList xn.data.toList] = o at *
          go_wp2_with fail
          go_roundw
          case rel => exact ⟨k + 1, by omega, by go_num, HR, HW.out⟩
          case measure => simp [intOf]; omega
    · have : k = xs.length := by omega
      subst this
      have HF : Hid (rtFault xs = 0) := Lib.hid (rtFault_none hl hrel.out)
      clear hrel
      go_wp2_with fail
      go_ret
      exact ⟨ret_eq HF.out.symm, hb⟩
end Go.Proofs.YtkbbmlkgaooaiaaGreatDoor
