/- route.CheckRouters at right routers. -/
import Derived.Test.YtollmagiifkicaaGreatDoorMkD
namespace Go.Proofs.YtollmagiifkicaaGreatDoor
open Go.RowKit Go.Hw Go.Shelf

theorem rt_parts {xs : List Rt} (h : rtFault xs = 0) (hl : xs.length ≤ 500) {i : Nat} (hi : i < xs.length) : rtCode xs i = 0 := by
  by_cases hz : rtCode xs i = 0
  · exact hz
  · exfalso
    have : ∀ n, n ≤ xs.length → ∀ j, j < n → rtCode xs j = 0 := by
      intro n
      induction n with
      | zero => intro _ j hj; omega
      | succ n ih =>
        intro hn j hj
        by_cases e : j = n
        · subst e
          by_cases hc : rtCode xs j = 0
          · exact hc
          · exact absurd (rtFault_at hl (by omega) (ih (by omega)) hc ▸ h) hc
        · exact ih (by omega) j (by omega)
    exact hz (this xs.length (Nat.le_refl _) i hi)
/-- The order of two routers' prefixes. -/
def spanP (p x : Rt) : Int := orOf [spanC p.six p.hi p.lo x.six x.hi x.lo, cmpI p.bits x.bits]
theorem ordP_span {p x : Rt} (hp : RtT p) (hx : RtT x) : ordP p x = spanP p x := by
  unfold ordP spanP
  rw [cmp_span hp.hi hp.lo hx.hi hx.lo]
theorem rt_of {xs : List Rt} {i : Nat} (h : rtCode xs i = 0) : pfCode (xs.getD i noRt).six (xs.getD i noRt).hi (xs.getD i noRt).lo (xs.getD i noRt).bits = 0 ∧ isKey (xs.getD i noRt).node = true ∧ (0 ≤ (xs.getD i noRt).weight ∧ (xs.getD i noRt).weight ≤ 1000) ∧
    (0 < i → ¬ 0 ≤ orOf [ordP (xs.getD (i - 1) noRt) (xs.getD i noRt), Lib.compareBytes (xs.getD (i - 1) noRt).node.data.toList (xs.getD i noRt).node.data.toList]) := by
  unfold rtCode at h
  split at h
  · rename_i h1; exact absurd h h1
  split at h
  · cases h
  split at h
  · cases h
  split at h
  · cases h
  · rename_i h1 h2 h3 h4
    exact ⟨Decidable.not_not.1 h1, by simpa using h2, Decidable.not_not.1 h3, fun hi hn => h4 ⟨hi, hn⟩⟩

set_option maxRecDepth 100000 in
set_option maxHeartbeats 2000000 in
theorem checkRouters_any (A : Option Addr) (cap : Nat) (xs : List Rt) (w : World) (h : RtsAt w w.heap.size A xs) (hl : xs.length ≤ 500) (ht : ∀ y ∈ xs, RtT y) (hf : rtFault xs = 0) :
    Calls Tryz.prog 92 #[.slice A xs.length cap] w fun e w' => e = .returned (.int .i64 0) ∧ Below w.heap.size w w' := by
  have H := Lib.hid h
  have HT := Lib.hid (rtT_at ht)
  have HF := Lib.hid hf
  clear h ht hf
  go_enter Tryz.func92, Tryz.ntmps92
  go_wp2_with fail
  go_loopw [11] (fun i wr => ∃ k : Nat, k ≤ xs.length ∧ i = .int .i64 k ∧ Below w.heap.size w wr) (fun i _ => xs.length - (intOf i).toNat)
  case atStart => exact ⟨0, Nat.zero_le _, rfl, Below.refl _ _⟩
  case round =>
    obtain ⟨k, hk, rfl, hb⟩ := hrel
    by_cases hlt : k < xs.length
    · obtain ⟨g, off, rfl, hg, c0, c1, c2, c3, c4, c5⟩ := (H.out.below hb) k hlt
      obtain ⟨hpc, ka, km, hord⟩ := rt_of (rt_parts HF.out hl hlt)
      have hord' : 0 < k → ¬ 0 ≤ orOf [spanP (xs.getD (k - 1) noRt) (xs.getD k noRt), Lib.compareBytes (xs.getD (k - 1) noRt).node.data.toList (xs.getD k noRt).node.data.toList] := fun hk0 => by
        rw [← ordP_span (HT.out (k - 1)) (HT.out k)]; exact hord hk0
      obtain ⟨uh, ul, hn2⟩ := HT.out k
      have HORD := Lib.hid hord'
      have hsz := hb.size
      clear hord hord'
      generalize xs.getD k noRt = x at *
      obtain ⟨xs_, xh, xl, xb, xn, xw⟩ := x
      simp only at c0 c1 c2 c3 c4 c5 uh ul hn2 hpc ka km
      have s1 : xn.size ≤ maxLen := by unfold maxLen; omega
      have hin : (decide (xw < (0 : Int)) || decide (1000 < xw)) = false := by simp; omega
      have HPC := Lib.hid hpc
      have hbx := heap_alloc_new wr (.cells #[.bool xs_, .int .u64 xh, .int .u64 xl, .int .i64 xb, .string xn, .int .i64 xw] 41)
      have hlw : wr.heap.size < (wr.alloc (.cells #[.bool xs_, .int .u64 xh, .int .u64 xl, .int .i64 xb, .string xn, .int .i64 xw] 41)).heap.size := by simp
      have HBW := Lib.hid (hb.alloc hb.size (.cells #[.bool xs_, .int .u64 xh, .int .u64 xl, .int .i64 xb, .string xn, .int .i64 xw] 41))
      obtain ⟨⟨x0, x1, x2, x3, x4, x5⟩, -⟩ := res6 hbx
      clear hbx hb hpc km
      go_wp2_with fail
      refine (checkPrefix_any _ _ _ _ _ uh ul HPC.out).mono ?_
      rintro e w1 ⟨rfl, hb1⟩
      have x0 : w1.cell? ⟨wr.heap.size, 0, none⟩ = some (.bool xs_) := (hb1.cell (p := ⟨wr.heap.size, 0, none⟩) (by first | (simp; done) | (simp; omega) | omega)).trans (by first | assumption | (go_simp; done))
      have x1 : w1.cell? ⟨wr.heap.size, 1, none⟩ = some (.int .u64 xh) := (hb1.cell (p := ⟨wr.heap.size, 1, none⟩) (by first | (simp; done) | (simp; omega) | omega)).trans (by first | assumption | (go_simp; done))
      have x2 : w1.cell? ⟨wr.heap.size, 2, none⟩ = some (.int .u64 xl) := (hb1.cell (p := ⟨wr.heap.size, 2, none⟩) (by first | (simp; done) | (simp; omega) | omega)).trans (by first | assumption | (go_simp; done))
      have x3 : w1.cell? ⟨wr.heap.size, 3, none⟩ = some (.int .i64 xb) := (hb1.cell (p := ⟨wr.heap.size, 3, none⟩) (by first | (simp; done) | (simp; omega) | omega)).trans (by first | assumption | (go_simp; done))
      have x4 : w1.cell? ⟨wr.heap.size, 4, none⟩ = some (.string xn) := (hb1.cell (p := ⟨wr.heap.size, 4, none⟩) (by first | (simp; done) | (simp; omega) | omega)).trans (by first | assumption | (go_simp; done))
      have x5 : w1.cell? ⟨wr.heap.size, 5, none⟩ = some (.int .i64 xw) := (hb1.cell (p := ⟨wr.heap.size, 5, none⟩) (by first | (simp; done) | (simp; omega) | omega)).trans (by first | assumption | (go_simp; done))
      have hlw : wr.heap.size < w1.heap.size := Nat.lt_of_lt_of_le hlw hb1.size
      have HBW := Lib.hid (HBW.out.trans (hb1.mono HBW.out.size))
      clear hb1
      by_cases k0 : k = 0
      · have hd : decide (0 < k) = false := by simp; omega
        clear k0 HORD
        go_wp2_with fail
        refine (isKey_any xn _ s1).mono ?_
        rintro e w9 ⟨rfl, rfl⟩
        rw [ka]
        go_wp2_with fail
        refine (outside_any _ _ _ _).mono ?_
        rintro e w3 ⟨rfl, rfl⟩
        rw [hin]
        go_wp2_with fail
        go_quiet (fail)
        go_wp2_with fail
        go_roundw
        case rel => exact ⟨k + 1, by omega, by go_num, ⟨HBW.out.os, HBW.out.tape, HBW.out.output, HBW.out.size, HBW.out.block⟩⟩
        case measure => simp [intOf]; omega
      · obtain ⟨g', off', e', hg', p0, p1, p2, p3, p4, p5⟩ := (H.out.below HBW.out) (k - 1) (by omega)
        injection e' with e'
        injection e' with e1 e2
        subst e1 e2
        have HNO := HORD.out (by omega)
        have k0' : 0 < k := by omega
        have hk1 : 0 ≤ (k : Int) - 1 := by omega
        have hk2 : (k : Int) - 1 < (xs.length : Int) := by omega
        clear k0 HORD
        generalize xs.getD (k - 1) noRt = p at *
        obtain ⟨ps, ph, pl, pb, pn, pw⟩ := p
        simp only at p0 p1 p2 p3 p4 p5
        unfold spanP at HNO
        simp only at HNO
        have HNO' := Lib.hid HNO
        have hgw : g < w1.heap.size := by have := HBW.out.size; omega
        clear HNO
        go_wp2_with fail
        refine (isKey_any xn _ s1).mono ?_
        rintro e w9 ⟨rfl, rfl⟩
        rw [ka]
        go_wp2_with fail
        refine (outside_any _ _ _ _).mono ?_
        rintro e w3 ⟨rfl, rfl⟩
        rw [hin]
        have hd : decide (0 < k) = true := by simp; omega
        go_wp2_with fail
        have s1' : (1 : Int) ≤ (k : Int) := by omega
        have s0 : IntKind.i64.wrap ((k : Int) - 1) = (k : Int) - 1 := IntWalk.i64_in _ (by omega)
        have s2' : ((k : Int) - 1).toNat = k - 1 := by omega
        go_region_held3 (fun w' => w'.cell? ⟨g, off + (k - 1) * 6, none⟩ = some (.bool ps) ∧ w'.cell? ⟨g, off + (k - 1) * 6 + 1, none⟩ = some (.int .u64 ph) ∧ w'.cell? ⟨g, off + (k - 1) * 6 + 2, none⟩ = some (.int .u64 pl) ∧ w'.cell? ⟨g, off + (k - 1) * 6 + 3, none⟩ = some (.int .i64 pb) ∧ w'.cell? ⟨g, off + (k - 1) * 6 + 4, none⟩ = some (.string pn) ∧ w'.cell? ⟨g, off + (k - 1) * 6 + 5, none⟩ = some (.int .i64 pw) ∧ w'.cell? ⟨wr.heap.size, 0, none⟩ = some (.bool xs_) ∧ w'.cell? ⟨wr.heap.size, 1, none⟩ = some (.int .u64 xh) ∧ w'.cell? ⟨wr.heap.size, 2, none⟩ = some (.int .u64 xl) ∧ w'.cell? ⟨wr.heap.size, 3, none⟩ = some (.int .i64 xb) ∧ w'.cell? ⟨wr.heap.size, 4, none⟩ = some (.string xn) ∧ w'.cell? ⟨wr.heap.size, 5, none⟩ = some (.int .i64 xw))
          (first | exact ⟨p0, p1, p2, p3, p4, p5, x0, x1, x2, x3, x4, x5⟩ | ((repeat' apply And.intro) <;> (first | (go_simp; done) | with_reducible assumption)))
          (first
            | (go_at_call 125; refine (compareRouters_any _ _ _ _ _ _ _ _ _ _ _ _ _).mono ?_; rintro e W1 ⟨rfl, hb1⟩; have p0 : W1.cell? ⟨g, off + (k - 1) * 6, none⟩ = some (.bool ps) := (hb1.cell (p := ⟨g, off + (k - 1) * 6, none⟩) (by first | (simp; done) | (simp; omega) | omega)).trans (by first | assumption | (go_simp; done)); have p1 : W1.cell? ⟨g, off + (k - 1) * 6 + 1, none⟩ = some (.int .u64 ph) := (hb1.cell (p := ⟨g, off + (k - 1) * 6 + 1, none⟩) (by first | (simp; done) | (simp; omega) | omega)).trans (by first | assumption | (go_simp; done)); have p2 : W1.cell? ⟨g, off + (k - 1) * 6 + 2, none⟩ = some (.int .u64 pl) := (hb1.cell (p := ⟨g, off + (k - 1) * 6 + 2, none⟩) (by first | (simp; done) | (simp; omega) | omega)).trans (by first | assumption | (go_simp; done)); have p3 : W1.cell? ⟨g, off + (k - 1) * 6 + 3, none⟩ = some (.int .i64 pb) := (hb1.cell (p := ⟨g, off + (k - 1) * 6 + 3, none⟩) (by first | (simp; done) | (simp; omega) | omega)).trans (by first | assumption | (go_simp; done)); have p4 : W1.cell? ⟨g, off + (k - 1) * 6 + 4, none⟩ = some (.string pn) := (hb1.cell (p := ⟨g, off + (k - 1) * 6 + 4, none⟩) (by first | (simp; done) | (simp; omega) | omega)).trans (by first | assumption | (go_simp; done)); have p5 : W1.cell? ⟨g, off + (k - 1) * 6 + 5, none⟩ = some (.int .i64 pw) := (hb1.cell (p := ⟨g, off + (k - 1) * 6 + 5, none⟩) (by first | (simp; done) | (simp; omega) | omega)).trans (by first | assumption | (go_simp; done)); have x0 : W1.cell? ⟨wr.heap.size, 0, none⟩ = some (.bool xs_) := (hb1.cell (p := ⟨wr.heap.size, 0, none⟩) (by first | (simp; done) | (simp; omega) | omega)).trans (by first | assumption | (go_simp; done)); have x1 : W1.cell? ⟨wr.heap.size, 1, none⟩ = some (.int .u64 xh) := (hb1.cell (p := ⟨wr.heap.size, 1, none⟩) (by first | (simp; done) | (simp; omega) | omega)).trans (by first | assumption | (go_simp; done)); have x2 : W1.cell? ⟨wr.heap.size, 2, none⟩ = some (.int .u64 xl) := (hb1.cell (p := ⟨wr.heap.size, 2, none⟩) (by first | (simp; done) | (simp; omega) | omega)).trans (by first | assumption | (go_simp; done)); have x3 : W1.cell? ⟨wr.heap.size, 3, none⟩ = some (.int .i64 xb) := (hb1.cell (p := ⟨wr.heap.size, 3, none⟩) (by first | (simp; done) | (simp; omega) | omega)).trans (by first | assumption | (go_simp; done)); have x4 : W1.cell? ⟨wr.heap.size, 4, none⟩ = some (.string xn) := (hb1.cell (p := ⟨wr.heap.size, 4, none⟩) (by first | (simp; done) | (simp; omega) | omega)).trans (by first | assumption | (go_simp; done)); have x5 : W1.cell? ⟨wr.heap.size, 5, none⟩ = some (.int .i64 xw) := (hb1.cell (p := ⟨wr.heap.size, 5, none⟩) (by first | (simp; done) | (simp; omega) | omega)).trans (by first | assumption | (go_simp; done)); have hl0 : wr.heap.size < W1.heap.size := (by have := hb1.size; (try simp at this); omega); have hl1 : g < W1.heap.size := (by have := hb1.size; (try simp at this); omega); have HBW : Hid (Below w.heap.size w W1) := (by first | exact Lib.hid (HBW.out.drew.trans (hb1.mono (show w.heap.size ≤ w1.heap.size by omega))) | exact Lib.hid (HBW.out.trans (hb1.mono (by omega))))))
        clear s1' s0 s2' hd k0' hk1 hk2
        have ho := HNO'.out
        have HW := HBW
        generalize orOf [orOf [spanC ps ph pl xs_ xh xl, cmpI pb xb], Lib.compareBytes pn.data.toList xn.data.toList] = o at *
        go_wp2_with fail
        go_roundw
        case rel => exact ⟨k + 1, by omega, by go_num, HW.out⟩
        case measure => simp [intOf]; omega
    · have : k = xs.length := by omega
      subst this
      go_wp2_with fail
      go_ret
      exact ⟨rfl, hb⟩
end Go.Proofs.YtollmagiifkicaaGreatDoor
