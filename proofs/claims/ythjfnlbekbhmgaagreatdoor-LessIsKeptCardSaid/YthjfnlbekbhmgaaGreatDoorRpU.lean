/- flow.Thin (printed by gen_rpu.py). flow.hidden. flow.Hide (printed by gen_rpw.py). -/
import Derived.Test.YthjfnlbekbhmgaaGreatDoorRpT
namespace Go.Proofs.YthjfnlbekbhmgaaGreatDoor
open Go.RowKit Go.Hw

/-- The first k elements are turned, the others are as they were. -/
def mapK {α : Type} (f : α → α) (L : List α) (k : Nat) : List α := (L.take k).map f ++ L.drop k
theorem mapK_len {α : Type} (f : α → α) (L : List α) (k : Nat) : (mapK f L k).length = L.length := by unfold mapK; simp; omega
theorem mapK_zero {α : Type} (f : α → α) (L : List α) : mapK f L 0 = L := by simp [mapK]
theorem mapK_all {α : Type} (f : α → α) (L : List α) : mapK f L L.length = L.map f := by simp [mapK]
theorem mapK_at {α : Type} (f : α → α) (d : α) {L : List α} {k : Nat} (hk : k < L.length) : (mapK f L k).getD k d = L.getD k d := by
  have h1 : ((L.take k).map f).length = k := by simp; omega
  unfold mapK
  rw [List.getD_eq_getElem?_getD, List.getElem?_append_right (by omega), h1, List.getElem?_drop, List.getD_eq_getElem?_getD, Nat.sub_self, Nat.add_zero]
theorem mapK_set {α : Type} (f : α → α) (d : α) {L : List α} {k : Nat} (hk : k < L.length) : (mapK f L k).set k (f (L.getD k d)) = mapK f L (k + 1) := by
  have h1 : ((L.take k).map f).length = k := by simp; omega
  have h2 : L.drop k = L.getD k d :: L.drop (k + 1) := by rw [List.getD_eq_getElem?_getD, List.getElem?_eq_getElem hk]; exact List.drop_eq_getElem_cons hk
  unfold mapK
  rw [List.set_append_right _ _ (by omega), h1, Nat.sub_self, h2, List.take_add_one, List.getElem?_eq_getElem hk, List.map_append, List.append_assoc, List.getD_eq_getElem?_getD, List.getElem?_eq_getElem hk]
  rfl
theorem set_at {α : Type} {M : List α} {k : Nat} {x d : α} (hk : k < M.length) : (M.set k x).getD k d = x := by
  rw [List.getD_eq_getElem?_getD, List.getElem?_set_self hk]
  rfl
/-- An old report loses its hour and its ports. -/
def thinR (d : Int) (r : Rp) : Rp := if r.hour < d * 24 then { r with hour := r.hour - r.hour.tmod 24, f := { r.f with fp := 0, tp := 0 } } else r
set_option maxRecDepth 100000 in
set_option maxHeartbeats 4000000 in
theorem thin_any (A : Option Addr) (cap : Nat) (L : List Rp) (d : Int) (w : World) (h : rpAt w A L) (h0 : A = none → L = []) (hl : L.length ≤ 20) (ht : ∀ r ∈ L, RpT r) (hn : ∀ r ∈ L, RpN r) (hh : ∀ r ∈ L, 0 ≤ r.hour ∧ r.hour ≤ 200000) (hd : 0 ≤ d ∧ d ≤ 4001) (hc : ckR L = 0) :
    Calls Tryz.prog 10 #[.slice A L.length cap, .int .i64 d] w fun e w' => ∃ v, e = .returned (.tuple #[v, .int .i64 0]) ∧ rpOwn w' w.heap.size v (togL (L.map (thinR d))) ∧ Below w.heap.size w w' := by
  have hck := checkR_any A cap L w h (by omega) ht
  rw [hc] at hck
  have HAT := Lib.hid h
  have HN := Lib.hid hn
  have HH := Lib.hid hh
  have HL := Lib.hid hl
  have sd : IntKind.i64.wrap (d * 24) = d * 24 := IntWalk.i64_in _ (by omega)
  have q1 : decide (d < 0) = false := by simp; omega
  have q2 : decide ((4001 : Int) < d) = false := by simp; omega
  clear h hn hh ht hc hd
  go_enter Tryz.func10, Tryz.ntmps10
  go_wp2_with fail
  refine hck.mono ?_
  rintro e W0 ⟨rfl, hb0⟩
  clear hck
  have HB0 := Lib.hid hb0
  clear hb0
  have hou := outside_any d 0 4001 W0
  rw [q1, q2] at hou
  go_wp2_with fail
  refine hou.mono ?_
  rintro e W ⟨rfl, rfl⟩
  clear hou q1 q2
  have hcl := rp_clone A cap L W0 (HAT.out.below HB0.out) h0 (by omega)
  clear h0 hl
  go_wp2_with fail
  refine hcl.mono ?_
  rintro e W1 ⟨v, rfl, ho1, hb1⟩
  clear hcl
  obtain ⟨A1, cap1, rfl, hA1, hg1⟩ := own_slice ho1
  have HB1 : Hid (Below w.heap.size w W1) := Lib.hid (HB0.out.trans (hb1.mono HB0.out.size))
  have HO1 : Hid (W1.ownsRow w.heap.size 39 14 (.slice A1 L.length cap1) L.length (rwC rpC L)) := Lib.hid (own_weak ho1 HB0.out.size)
  clear ho1 hb1 hA1 hg1
  go_wp2_with fail
  go_loopw [20] (fun v20 wr => ∃ k : Nat, k ≤ L.length ∧ v20 = .int .i64 k ∧ wr.ownsRow w.heap.size 39 14 (.slice A1 L.length cap1) L.length (rwC rpC (mapK (thinR d) L k)) ∧ Below w.heap.size w wr) (fun v20 _ => L.length - (intOf v20).toNat)
  case atStart => exact ⟨0, Nat.zero_le _, rfl, by rw [mapK_zero]; exact HO1.out, HB1.out⟩
  case round =>
    obtain ⟨k, hk, rfl, ho, hb⟩ := hrel
    have HB := Lib.hid hb
    by_cases hlt : k < L.length
    · have hdc : decide ((k : Int) < (L.length : Int)) = true := by simp; omega
      have hlt' : (k : Int) < (L.length : Int) := by omega
      have hl20 := HL.out
      obtain ⟨g, rfl, hgw, hgr⟩ := own_some ho (by omega)
      have hML : (mapK (thinR d) L k).length = L.length := mapK_len _ _ _
      have hat := mapK_at (thinR d) noRp hlt
      have hst := mapK_set (thinR d) noRp hlt
      have hrh := HH.out _ (rw_mem (d := noRp) hlt)
      have hcc : RwCells wr g (k * 14) (rpC (L.getD k noRp)) := by
        have ho' := ho
        rw [← hML] at ho'
        obtain ⟨g', off', e, _, hx⟩ := rw_at' (d := noRp) rpC_len ho' k (by rw [hML]; exact hlt)
        injection e with e
        simp only [Addr.mk.injEq, and_true] at e
        obtain ⟨rfl, rfl⟩ := e
        rw [Nat.zero_add, hat] at hx
        exact hx
      obtain ⟨N, hN⟩ : ∃ N, mapK (thinR d) L (k + 1) = N := ⟨_, rfl⟩
      rw [hN] at hst
      have HNX := Lib.hid hN.symm
      clear hN
      generalize mapK (thinR d) L k = M at ho hML hat hst
      generalize L.getD k noRp = r at hcc hat hst hrh
      have HST := Lib.hid hst
      have HML := Lib.hid hML
      have HAT2 := Lib.hid hat
      have HO := Lib.hid ho
      have h3 := al1 wr (.cells (rpA noRp) 39)
      have hcc0 : RwCells wr g (0 + k * 14) (rpC r) := by rw [Nat.zero_add]; exact hcc
      have HCC := Lib.hid hcc
      have HCC0 := Lib.hid hcc0
      clear hb hcc hcc0 ho hst hML hat
      go_upto_region 9 with (fail)
      first | refine load_stepR rfl HCC.out (by kernel_rfl) rfl (by kernel_rfl) ?_ | (go_step; first | refine load_stepR rfl HCC.out (by kernel_rfl) rfl (by kernel_rfl) ?_ | (go_step; first | refine load_stepR rfl HCC.out (by kernel_rfl) rfl (by kernel_rfl) ?_ | (go_step; first | refine load_stepR rfl HCC.out (by kernel_rfl) rfl (by kernel_rfl) ?_ | (go_step; first | refine load_stepR rfl HCC.out (by kernel_rfl) rfl (by kernel_rfl) ?_ | (go_step; first | refine load_stepR rfl HCC.out (by kernel_rfl) rfl (by kernel_rfl) ?_ | (go_step; first | refine load_stepR rfl HCC.out (by kernel_rfl) rfl (by kernel_rfl) ?_ | (go_step; first | refine load_stepR rfl HCC.out (by kernel_rfl) rfl (by kernel_rfl) ?_ | (go_step; first | refine load_stepR rfl HCC.out (by kernel_rfl) rfl (by kernel_rfl) ?_ | (go_step; first | refine load_stepR rfl HCC.out (by kernel_rfl) rfl (by kernel_rfl) ?_ | (go_step; first | refine load_stepR rfl HCC.out (by kernel_rfl) rfl (by kernel_rfl) ?_ | (go_step; first | refine load_stepR rfl HCC.out (by kernel_rfl) rfl (by kernel_rfl) ?_ | (go_step; first | refine load_stepR rfl HCC.out (by kernel_rfl) rfl (by kernel_rfl) ?_ | (go_step; first | refine load_stepR rfl HCC.out (by kernel_rfl) rfl (by kernel_rfl) ?_ | (go_step; refine load_stepR rfl HCC.out (by kernel_rfl) rfl (by kernel_rfl) ?_))))))))))))))
      first | refine store_step (vs := rpA r) rfl rfl h3 (by rfl) (by kernel_rfl) (by simp [Value.oneCell', rpA]) (fun W3 hr => ?_) | (go_step; first | refine store_step (vs := rpA r) rfl rfl h3 (by rfl) (by kernel_rfl) (by simp [Value.oneCell', rpA]) (fun W3 hr => ?_) | (go_step; first | refine store_step (vs := rpA r) rfl rfl h3 (by rfl) (by kernel_rfl) (by simp [Value.oneCell', rpA]) (fun W3 hr => ?_) | (go_step; first | refine store_step (vs := rpA r) rfl rfl h3 (by rfl) (by kernel_rfl) (by simp [Value.oneCell', rpA]) (fun W3 hr => ?_) | (go_step; first | refine store_step (vs := rpA r) rfl rfl h3 (by rfl) (by kernel_rfl) (by simp [Value.oneCell', rpA]) (fun W3 hr => ?_) | (go_step; first | refine store_step (vs := rpA r) rfl rfl h3 (by rfl) (by kernel_rfl) (by simp [Value.oneCell', rpA]) (fun W3 hr => ?_) | (go_step; first | refine store_step (vs := rpA r) rfl rfl h3 (by rfl) (by kernel_rfl) (by simp [Value.oneCell', rpA]) (fun W3 hr => ?_) | (go_step; first | refine store_step (vs := rpA r) rfl rfl h3 (by rfl) (by kernel_rfl) (by simp [Value.oneCell', rpA]) (fun W3 hr => ?_) | (go_step; first | refine store_step (vs := rpA r) rfl rfl h3 (by rfl) (by kernel_rfl) (by simp [Value.oneCell', rpA]) (fun W3 hr => ?_) | (go_step; first | refine store_step (vs := rpA r) rfl rfl h3 (by rfl) (by kernel_rfl) (by simp [Value.oneCell', rpA]) (fun W3 hr => ?_) | (go_step; first | refine store_step (vs := rpA r) rfl rfl h3 (by rfl) (by kernel_rfl) (by simp [Value.oneCell', rpA]) (fun W3 hr => ?_) | (go_step; first | refine store_step (vs := rpA r) rfl rfl h3 (by rfl) (by kernel_rfl) (by simp [Value.oneCell', rpA]) (fun W3 hr => ?_) | (go_step; first | refine store_step (vs := rpA r) rfl rfl h3 (by rfl) (by kernel_rfl) (by simp [Value.oneCell', rpA]) (fun W3 hr => ?_) | (go_step; first | refine store_step (vs := rpA r) rfl rfl h3 (by rfl) (by kernel_rfl) (by simp [Value.oneCell', rpA]) (fun W3 hr => ?_) | (go_step; refine store_step (vs := rpA r) rfl rfl h3 (by rfl) (by kernel_rfl) (by simp [Value.oneCell', rpA]) (fun W3 hr => ?_)))))))))))))))
      have hb3 : Below wr.heap.size wr W3 := hr.below (bl_alloc wr _) (Nat.le_refl _)
      have hblk := hr.blk
      generalize hP : wr.heap.size = P at hblk ⊢
      have HB3 : Hid (Below w.heap.size w W3) := Lib.hid (HB.out.trans (hb3.mono HB.out.size))
      have HO3 : Hid (W3.ownsRow w.heap.size 39 14 (.slice (some ⟨g, 0, none⟩) L.length cap1) L.length (rwC rpC M)) := Lib.hid (rw_same HO.out (fun q hq => hb3.block q (HO.out.lt q hq).2))
      have gP : g < P := by rw [← hP]; exact hgr
      have H3 := Lib.hid hblk
      have lP : P < W3.heap.size := lt_of_block hblk
      have gl3 : g < W3.heap.size := by omega
      have cP1 : W3.cell? ⟨P, 1, none⟩ = some (.int .i64 r.hour) := cell_of hblk 1
      clear h3 hr hP hb3 hblk HO
      by_cases hold : r.hour < d * 24
      · have hod : decide (r.hour < d * 24) = true := by simpa using hold
        have hm0 : r.hour.tmod 24 = r.hour % 24 := Int.tmod_eq_emod_of_nonneg hrh.1
        have sm : IntKind.i64.wrap (r.hour.tmod 24) = r.hour.tmod 24 := IntWalk.i64_in _ (by omega)
        have ss : IntKind.i64.wrap (r.hour - r.hour.tmod 24) = r.hour - r.hour.tmod 24 := IntWalk.i64_in _ (by omega)
        have HM0 := Lib.hid hm0
        clear hm0
        go_upto_region 11 with (fail)
        obtain ⟨r1, hr1⟩ : ∃ r1 : Rp, { r with hour := r.hour - r.hour.tmod 24 } = r1 := ⟨_, rfl⟩
        obtain ⟨hv, hhv⟩ : ∃ hv : Int, r.hour - r.hour.tmod 24 = hv := ⟨_, rfl⟩
        have HR1 := Lib.hid hr1
        have HHV := Lib.hid hhv
        have HC9 : Hid (W3.cell? ⟨g, k * 14 + 1, none⟩ = some (.int .i64 r.hour)) := Lib.hid (by
          have h1 := HO3.out
          rw [← HML.out] at h1
          obtain ⟨g', off', e, _, hx⟩ := rw_at' (d := noRp) rpC_len h1 k (by rw [HML.out]; exact hlt)
          injection e with e
          simp only [Addr.mk.injEq, and_true] at e
          obtain ⟨rfl, rfl⟩ := e
          rw [Nat.zero_add, HAT2.out] at hx
          exact hx 1 _ rfl)
        have HO3' : Hid (W3.ownsRow w.heap.size 39 14 (.slice (some ⟨g, 0, none⟩) M.length cap1) M.length (rwC rpC M)) := Lib.hid (by rw [HML.out]; exact HO3.out)
        have hz9 := fun j => rw_froz HO3.out j
        have HZ9 := Lib.hid hz9
        have HCP := Lib.hid cP1
        have HGW := Lib.hid hgw
        have hML1 : (M.set k r1).length = L.length := by rw [List.length_set]; exact HML.out
        have HML1 := Lib.hid hML1
        clear hz9 hr1 cP1 hML1 hhv
        go_cut [] from 30 to 40 (fun wc => wc.ownsRow w.heap.size 39 14 (.slice (some ⟨g, 0, none⟩) L.length cap1) L.length (rwC rpC (M.set k r1)) ∧ wc.heap[P]? = some (.cells (rpA r) 39 (0, 0)) ∧ Below w.heap.size w wc)
        case first =>
          refine wp_region_exact 11 (fun f' => ⟨#[.slice (some ⟨g, 0, none⟩) L.length cap1, .int .i64 d, undef, undef, .slice none 0 0, .int .i64 0, .int .i64 0, .int .i64 k, .pointer (some ⟨P, 0, none⟩), .slice A L.length cap, .int .i64 0, .int .i64 0, .bool false, undef, .int .i64 d, .bool false, .slice A L.length cap, .slice (some ⟨g, 0, none⟩) L.length cap1, .slice (some ⟨g, 0, none⟩) L.length cap1, .int .i64 L.length, .int .i64 k, .bool true, .int .i64 k, .pointer (some ⟨g, k * 14, none⟩), .agg (rpC r).toArray, .pointer (some ⟨P, 1, none⟩), .int .i64 r.hour, .int .i64 d, .int .i64 (d * 24), .bool true, f' 0, f' 1, f' 2, f' 3, f' 4, f' 5, f' 6, f' 7, f' 8, f' 9, f' 10, u41, u42, u43, u44, u45, u46, u47, u48, u49, u50, u51, undef, undef], []⟩) (fun i => match i with | 0 => .slice (some ⟨g, 0, none⟩) L.length cap1 | 1 => .int .i64 k | 2 => .pointer (some ⟨g, k * 14, none⟩) | 3 => .pointer (some ⟨g, k * 14 + 1, none⟩) | 4 => .int .i64 r.hour | 5 => .pointer (some ⟨P, 1, none⟩) | 6 => .int .i64 r.hour | 7 => .int .i64 (r.hour.tmod 24) | 8 => .int .i64 hv | 9 => .pointer (some ⟨g, k * 14, none⟩) | 10 => .pointer (some ⟨g, k * 14 + 1, none⟩) | _ => undef) (fun lb w' => Hid (Below W3.heap.size W3 w')) (fun i => match i with | 0 => u30 | 1 => u31 | 2 => u32 | 3 => u33 | 4 => u34 | 5 => u35 | 6 => u36 | 7 => u37 | 8 => u38 | 9 => u39 | 10 => u40 | _ => undef) 10 (show Tryz.prog.follows .mixedOrders = true from by kernel_rfl) (by kernel_rfl) ?_ ?_ (Lib.hid (Below.refl _ _).drew)
          · intro i op hi ho lb f' w' hl hS hd
            have cX : w'.cell? ⟨g, k * 14 + 1, none⟩ = some (.int .i64 r.hour) := (World.cell?_of_block (w := W3) (a := ⟨g, k * 14 + 1, none⟩) (hS.out.block g gl3)).trans HC9.out
            have cR : w'.cell? ⟨P, 1, none⟩ = some (.int .i64 r.hour) := (World.cell?_of_block (w := W3) (a := ⟨P, 1, none⟩) (hS.out.block P lP)).trans HCP.out
            have cZ : w'.frozen? ⟨g, k * 14 + 1, none⟩ = false := (World.frozen?_of_block (w := W3) (a := ⟨g, k * 14 + 1, none⟩) (hS.out.block g gl3)).trans (HZ9.out _)
            have cL : g < w'.heap.size := Nat.lt_of_lt_of_le gl3 hS.out.size
            have hcase : i = 0 ∨ i = 1 ∨ i = 2 ∨ i = 3 ∨ i = 4 ∨ i = 5 ∨ i = 6 ∨ i = 7 ∨ i = 8 ∨ i = 9 ∨ i = 10 := by omega
            rcases hcase with rfl | rfl | rfl | rfl | rfl | rfl | rfl | rfl | rfl | rfl | rfl <;> (replace ho := Option.some.inj ho; subst ho)
            · refine OpStep.of rfl ?_
              unfold Oper.wp
              go_simp
              first | exact ⟨by first | (simp [upd]; done) | (simp [upd]; omega), hS⟩ | (simp [upd]; done) | (simp [upd]; omega)
            · refine OpStep.of rfl ?_
              unfold Oper.wp
              go_simp
              first | exact ⟨by first | (simp [upd]; done) | (simp [upd]; omega), hS⟩ | (simp [upd]; done) | (simp [upd]; omega)
            · have e0 : f' 0 = .slice (some ⟨g, 0, none⟩) L.length cap1 := (hd ⟨0, .data⟩ (by simp) rfl).2
              have e1 : f' 1 = .int .i64 k := (hd ⟨1, .data⟩ (by simp) rfl).2
              refine OpStep.of rfl ?_
              unfold Oper.wp
              go_simp
              first | exact ⟨by first | (simp [upd, e0, e1]; done) | (simp [upd, e0, e1]; omega), hS⟩ | (simp [upd, e0, e1]; done) | (simp [upd, e0, e1]; omega)
            · have e2 : f' 2 = .pointer (some ⟨g, k * 14, none⟩) := (hd ⟨2, .data⟩ (by simp) rfl).2
              refine OpStep.of rfl ?_
              unfold Oper.wp
              go_simp
              first | exact ⟨by first | (simp [upd, e2]; done) | (simp [upd, e2]; omega), hS⟩ | (simp [upd, e2]; done) | (simp [upd, e2]; omega)
            · have e3 : f' 3 = .pointer (some ⟨g, k * 14 + 1, none⟩) := (hd ⟨3, .data⟩ (by simp) rfl).2
              refine OpStep.of rfl ?_
              unfold Oper.wp
              go_simp
              first | exact ⟨by first | (simp [upd, e3]; done) | (simp [upd, e3]; omega), hS⟩ | (simp [upd, e3]; done) | (simp [upd, e3]; omega)
            · refine OpStep.of rfl ?_
              unfold Oper.wp
              go_simp
              first | exact ⟨by first | (simp [upd]; done) | (simp [upd]; omega), hS⟩ | (simp [upd]; done) | (simp [upd]; omega)
            · have e5 : f' 5 = .pointer (some ⟨P, 1, none⟩) := (hd ⟨5, .data⟩ (by simp) rfl).2
              refine OpStep.of rfl ?_
              unfold Oper.wp
              go_simp
              first | exact ⟨by first | (simp [upd, e5]; done) | (simp [upd, e5]; omega), hS⟩ | (simp [upd, e5]; done) | (simp [upd, e5]; omega)
            · have e6 : f' 6 = .int .i64 r.hour := (hd ⟨6, .data⟩ (by simp) rfl).2
              refine OpStep.of rfl ?_
              unfold Oper.wp
              go_simp
              first | exact ⟨by first | (simp [upd, e6]; done) | (simp [upd, e6]; omega), hS⟩ | (simp [upd, e6]; done) | (simp [upd, e6]; omega)
            · have e4 : f' 4 = .int .i64 r.hour := (hd ⟨4, .data⟩ (by simp) rfl).2
              have e7 : f' 7 = .int .i64 (r.hour.tmod 24) := (hd ⟨7, .data⟩ (by simp) rfl).2
              refine OpStep.of rfl ?_
              unfold Oper.wp
              go_simp
              first | exact ⟨by simp [upd, e4, e7, HHV.out], hS⟩ | simp [upd, e4, e7, HHV.out]
            · have e0 : f' 0 = .slice (some ⟨g, 0, none⟩) L.length cap1 := (hd ⟨0, .data⟩ (by simp) rfl).2
              have e1 : f' 1 = .int .i64 k := (hd ⟨1, .data⟩ (by simp) rfl).2
              refine OpStep.of rfl ?_
              unfold Oper.wp
              go_simp
              first | exact ⟨by first | (simp [upd, e0, e1]; done) | (simp [upd, e0, e1]; omega), hS⟩ | (simp [upd, e0, e1]; done) | (simp [upd, e0, e1]; omega)
            · have e9 : f' 9 = .pointer (some ⟨g, k * 14, none⟩) := (hd ⟨9, .data⟩ (by simp) rfl).2
              refine OpStep.of rfl ?_
              unfold Oper.wp
              go_simp
              first | exact ⟨by first | (simp [upd, e9]; done) | (simp [upd, e9]; omega), hS⟩ | (simp [upd, e9]; done) | (simp [upd, e9]; omega)
          · intro op ho lb f' w' hd hS
            have cX : w'.cell? ⟨g, k * 14 + 1, none⟩ = some (.int .i64 r.hour) := (World.cell?_of_block (w := W3) (a := ⟨g, k * 14 + 1, none⟩) (hS.out.block g gl3)).trans HC9.out
            have cR : w'.cell? ⟨P, 1, none⟩ = some (.int .i64 r.hour) := (World.cell?_of_block (w := W3) (a := ⟨P, 1, none⟩) (hS.out.block P lP)).trans HCP.out
            have cZ : w'.frozen? ⟨g, k * 14 + 1, none⟩ = false := (World.frozen?_of_block (w := W3) (a := ⟨g, k * 14 + 1, none⟩) (hS.out.block g gl3)).trans (HZ9.out _)
            have cL : g < w'.heap.size := Nat.lt_of_lt_of_le gl3 hS.out.size
            have e8 : f' 8 = .int .i64 hv := (hd 8 (by omega)).2
            have e10 : f' 10 = .pointer (some ⟨g, k * 14 + 1, none⟩) := (hd 10 (by omega)).2
            replace ho := Option.some.inj ho
            subst ho
            refine ⟨rfl, ?_⟩
            have HFI := Lib.hid (store1 (M := M) (o' := r1) (d := noRp) rpC_len HO3'.out hS.out (by rw [HML.out]; exact hlt) (show 1 < 14 by omega) (.int .i64 hv) (by rw [HAT2.out, ← HR1.out, ← HHV.out]; rfl) rfl H3.out lP HB3.out (Nat.ne_of_lt gP) HGW.out)
            rw [HML1.out] at HFI
            unfold Oper.wp
            go_simp
            go_step
            go_meet
            exact HFI.out
        case rest =>
        obtain ⟨ho9, h9, hb9⟩ := hcut
        obtain ⟨W4, rfl⟩ : ∃ W9 : World, W9 = wc := ⟨_, rfl⟩
        have HB4 := Lib.hid hb9
        have lP4 : P < W4.heap.size := lt_of_block h9
        have hs1 := store1 (M := M.set k r1) (o' := { r1 with f := { r1.f with fp := 0 } }) (d := noRp) rpC_len (by rw [HML1.out]; exact ho9) (Below.refl _ _) (by rw [HML1.out]; exact hlt) (show 10 < 14 by omega) (.int .i64 0) (by rw [set_at (by rw [HML.out]; exact hlt)]; rfl) rfl h9 lP4 HB4.out (Nat.ne_of_lt gP) HGW.out
        obtain ⟨s1, s2, s3⟩ := hs1
        have hs2 := store1 (M := (M.set k r1).set k { r1 with f := { r1.f with fp := 0 } }) (o' := thinR d r) (d := noRp) rpC_len s1 (Below.refl _ _) (by rw [List.length_set, HML1.out]; exact hlt) (show 11 < 14 by omega) (.int .i64 0) (by rw [set_at (by rw [HML1.out]; exact hlt), thinR, if_pos hold, ← HR1.out]; rfl) rfl s2 (lt_of_block s2) s3 (Nat.ne_of_lt gP) HGW.out
        obtain ⟨s4, s5, s6⟩ := hs2
        rw [List.set_set, List.set_set, HST.out, show N.length = L.length from by rw [← HST.out, List.length_set]; exact HML.out] at s4
        have HF := Lib.hid (And.intro s4 s6)
        have z1 : W4.frozen? ⟨g, k * 14 + 10, none⟩ = false := rw_froz ho9 _
        have z2 : W4.frozen? ⟨g, k * 14 + 11, none⟩ = false := rw_froz ho9 _
        have c1 : (W4.cell? ⟨g, k * 14 + 10, none⟩).isSome = true := rw_some ho9 (by omega)
        have c2 : (W4.cell? ⟨g, k * 14 + 11, none⟩).isSome = true := rw_some ho9 (by omega)
        obtain ⟨v1, e1⟩ := Option.isSome_iff_exists.1 c1
        obtain ⟨v2, e2⟩ := Option.isSome_iff_exists.1 c2
        have gl4 : g < W4.heap.size := rw_lt ho9 rfl
        clear ho9 h9 hb9 s1 s2 s3 s4 s5 s6 c1 c2 sm ss HC9 HZ9
        go_wp2_with fail
        go_roundw
        case rel => exact ⟨k + 1, by omega, by go_num, HNX.out ▸ HF.out.1, HF.out.2⟩
        case measure => simp [intOf]; omega
      · have hod : decide (r.hour < d * 24) = false := by simpa using hold
        have HF : Hid (W3.ownsRow w.heap.size 39 14 (.slice (some ⟨g, 0, none⟩) L.length cap1) L.length (rwC rpC N)) := Lib.hid (by
          have h1 := HST.out
          have h2 : M.set k r = M := by
            have h3 : k < M.length := by rw [HML.out]; exact hlt
            rw [← HAT2.out, List.getD_eq_getElem?_getD, List.getElem?_eq_getElem h3]
            simp
          rw [thinR, if_neg hold, h2] at h1
          rw [← h1]
          exact HO3.out)
        go_wp2_with fail
        go_roundw
        case rel => exact ⟨k + 1, by omega, by go_num, HNX.out ▸ HF.out, HB3.out⟩
        case measure => simp [intOf]; omega
    · have : k = L.length := by omega
      subst this
      have hdc : decide ((L.length : Int) < (L.length : Int)) = false := by simp
      rw [mapK_all] at ho
      have hml : (L.map (thinR d)).length = L.length := by simp
      have ho' : wr.ownsRow w.heap.size 39 14 (.slice A1 (L.map (thinR d)).length cap1) (L.map (thinR d)).length (rwC rpC (L.map (thinR d))) := by rw [hml]; exact ho
      have hto := together_any A1 cap1 (L.map (thinR d)) wr (rw_at' (d := noRp) rpC_len ho') (by
        rintro rfl
        rcases ho.2 with ⟨-, h2⟩ | ⟨_, _, _, h1, _⟩
        · rw [List.length_eq_zero_iff.1 h2]; rfl
        · injection h1 with h1; cases h1) (by rw [hml]; exact HL.out) (by
        intro r hr
        obtain ⟨q, hq, rfl⟩ := List.mem_map.1 hr
        have := HN.out q hq
        unfold thinR
        split
        · exact this
        · exact this)
      rw [hml] at hto
      clear ho ho'
      go_wp2_with fail
      refine hto.mono ?_
      rintro e W9 ⟨v, rfl, ho9, hb9⟩
      have HF : Hid (rpOwn W9 w.heap.size v (togL (L.map (thinR d))) ∧ Below w.heap.size w W9) := Lib.hid ⟨own_weak ho9 HB.out.size, HB.out.trans (hb9.mono HB.out.size)⟩
      clear hto ho9 hb9
      go_wp2_with fail
      go_ret2
      exact ⟨_, rfl, HF.out.1, HF.out.2⟩
end Go.Proofs.YthjfnlbekbhmgaaGreatDoor

namespace Go.Proofs.YthjfnlbekbhmgaaGreatDoor
open Go.RowKit Go.Hw

def hidM (b4 b6 : Int) (s : Bool) : Nat := (lenA s - (if s then b6 else b4)).toNat
/-- An address with its first bits alone: the two halves. -/
def hidH (b4 b6 : Int) (s : Bool) (h : Int) : Int := clr h (hidM b4 b6 s - 64)
def hidL (b4 b6 : Int) (s : Bool) (l : Int) : Int := clr l (min 64 (hidM b4 b6 s))
theorem hidden_any (s : Bool) (h l b4 b6 : Int) (w : World) (uh : U64 h) (ul : U64 l) (h4 : 0 ≤ b4 ∧ b4 ≤ 32) (h6 : 0 ≤ b6 ∧ b6 ≤ 128) :
    Calls Tryz.prog 40 #[.agg #[.bool s, .int .u64 h, .int .u64 l], .int .i64 b4, .int .i64 b6] w fun e w' => e = .returned (.agg #[.bool s, .int .u64 (hidH b4 b6 s h), .int .u64 (hidL b4 b6 s l)]) ∧ Below w.heap.size w w' := by
  have hm : lenA s - (if s then b6 else b4) = (hidM b4 b6 s : Int) := by
    unfold hidM lenA
    cases s <;> simp <;> omega
  have hm2 : hidM b4 b6 s ≤ 128 := by
    unfold hidM lenA
    cases s <;> simp <;> omega
  have hma := fun W => masked_any s h l (if s then b6 else b4) W uh ul _ hm hm2
  have HB := Lib.hid (((Below.refl w.heap.size w).alloc (Nat.le_refl _) (addrBox s h l)).alloc (by simp) (addrBox false 0 0))
  have b0 : ((w.alloc (addrBox s h l)).alloc (addrBox false 0 0)).heap[w.heap.size]? = some (addrBox s h l) := (heap_alloc_old _ _ (by simp)).trans (heap_alloc_new w _)
  have b1 : ((w.alloc (addrBox s h l)).alloc (addrBox false 0 0)).heap[w.heap.size + 1]? = some (addrBox false 0 0) := by
    have := heap_alloc_new (w.alloc (addrBox s h l)) (addrBox false 0 0)
    simp only [Re_size] at this
    exact this
  have B1 := Lib.hid b1
  obtain ⟨x0, x1, x2, -⟩ := res3 b0
  unfold hidH hidL
  generalize clr h (hidM b4 b6 s - 64) = ch at hma ⊢
  generalize clr l (min 64 (hidM b4 b6 s)) = cl at hma ⊢
  have hsz : w.heap.size + 2 ≤ ((w.alloc (addrBox s h l)).alloc (addrBox false 0 0)).heap.size := by simp
  unfold addrBox at x0 x1 x2 hsz
  clear b0 b1 hm hm2
  cases s
  · go_enter Tryz.func40, Tryz.ntmps40
    go_wp2_with fail
    refine (hma _).mono ?_
    rintro e W1 ⟨rfl, hb1⟩
    have hblk : W1.heap[w.heap.size + 1]? = some (addrBox false 0 0) := (hb1.block _ (by simp)).trans B1.out
    have HB2 : Hid (Below w.heap.size w W1) := Lib.hid (HB.out.trans (hb1.mono (by simp; omega)))
    have H2 := Lib.hid hblk
    obtain ⟨y0, y1, y2, g0, g1, g2⟩ := res3 hblk
    clear x0 x1 x2 hma hb1 hblk HB hsz
    go_wp2_with fail
    have hs := (((Re.refl H2.out).set 0 (.bool false)).set 1 (.int .u64 ch)).set 2 (.int .u64 cl)
    generalize World.setCell _ _ _ = W9 at hs ⊢
    have hk : W9.heap[w.heap.size + 1]? = some (.cells #[.bool false, .int .u64 ch, .int .u64 cl] 35 (0, 0)) := hs.blk
    obtain ⟨z0, z1, z2, -⟩ := res3 hk
    refine bodyPost_ret (v := .agg #[.bool false, .int .u64 ch, .int .u64 cl]) (by simp [results, Tryz.results40, go_sem, z0, z1, z2]) rfl ⟨rfl, hs.below HB2.out (by omega)⟩
  · go_enter Tryz.func40, Tryz.ntmps40
    go_wp2_with fail
    refine (hma _).mono ?_
    rintro e W1 ⟨rfl, hb1⟩
    have hblk : W1.heap[w.heap.size + 1]? = some (addrBox false 0 0) := (hb1.block _ (by simp)).trans B1.out
    have HB2 : Hid (Below w.heap.size w W1) := Lib.hid (HB.out.trans (hb1.mono (by simp; omega)))
    have H2 := Lib.hid hblk
    obtain ⟨y0, y1, y2, g0, g1, g2⟩ := res3 hblk
    clear x0 x1 x2 hma hb1 hblk HB hsz
    go_wp2_with fail
    have hs := (((Re.refl H2.out).set 0 (.bool true)).set 1 (.int .u64 ch)).set 2 (.int .u64 cl)
    generalize World.setCell _ _ _ = W9 at hs ⊢
    have hk : W9.heap[w.heap.size + 1]? = some (.cells #[.bool true, .int .u64 ch, .int .u64 cl] 35 (0, 0)) := hs.blk
    obtain ⟨z0, z1, z2, -⟩ := res3 hk
    refine bodyPost_ret (v := .agg #[.bool true, .int .u64 ch, .int .u64 cl]) (by simp [results, Tryz.results40, go_sem, z0, z1, z2]) rfl ⟨rfl, hs.below HB2.out (by omega)⟩
end Go.Proofs.YthjfnlbekbhmgaaGreatDoor

namespace Go.Proofs.YthjfnlbekbhmgaaGreatDoor
open Go.RowKit Go.Hw

/-- Three cells of one element of an own row are laid anew. -/
theorem store3 {α : Type} {c : α → List Value} {n : Nat} {d : α} {W2 W w' : World} {g cap i j P : Nat} {T T' : TypeId} {M M' : List α} {o1 o2 o3 : α} {cs : Array Value} (hc : ∀ x, (c x).length = n) (h : W.ownsRow W2.heap.size T n (.slice (some ⟨g, 0, none⟩) M.length cap) M.length (rwC c M)) (hb : Below W.heap.size W w') (hi : i < M.length) (hj : j + 2 < n) (u1 u2 u3 : Value) (he1 : c o1 = (c (M.getD i d)).set j u1) (he2 : c o2 = (c o1).set (j + 1) u2) (he3 : c o3 = (c o2).set (j + 2) u3) (hM : M.set i o3 = M')
    (hP : W.heap[P]? = some (.cells cs T' (0, 0))) (hPl : P < W.heap.size) (hB : Below W2.heap.size W2 W) (hgP : g ≠ P) (hg : W2.heap.size ≤ g) :
    (w'.setCells g (i * n + j) [u1, u2, u3]).ownsRow W2.heap.size T n (.slice (some ⟨g, 0, none⟩) M'.length cap) M'.length (rwC c M') ∧ (w'.setCells g (i * n + j) [u1, u2, u3]).heap[P]? = some (.cells cs T' (0, 0)) ∧ Below W2.heap.size W2 (w'.setCells g (i * n + j) [u1, u2, u3]) := by
  obtain ⟨s1, s2, s3⟩ := store1 (d := d) hc h hb hi (show j < n by omega) u1 he1 rfl hP hPl hB hgP hg
  have l1 : i < (M.set i o1).length := by rw [List.length_set]; exact hi
  obtain ⟨s4, s5, s6⟩ := store1 (d := d) hc s1 (Below.refl _ _) l1 (show j + 1 < n by omega) u2 (by rw [set_at hi]; exact he2) rfl s2 (lt_of_block s2) s3 hgP hg
  have l2 : i < ((M.set i o1).set i o2).length := by rw [List.length_set]; exact l1
  have s7 := store1 (d := d) hc s4 (Below.refl _ _) l2 (show j + 2 < n by omega) u3 (by rw [set_at l1]; exact he3) (show ((M.set i o1).set i o2).set i o3 = M' by rw [List.set_set, List.set_set]; exact hM) s5 (lt_of_block s5) s6 hgP hg
  exact s7
/-- A report whose addresses keep their first bits alone. -/
def hideR (b4 b6 : Int) (r : Rp) : Rp := { r with f := { r.f with sh := hidH b4 b6 r.f.s6 r.f.sh, sl := hidL b4 b6 r.f.s6 r.f.sl, th := hidH b4 b6 r.f.t6 r.f.th, tl := hidL b4 b6 r.f.t6 r.f.tl } }
set_option maxRecDepth 100000 in
set_option maxHeartbeats 4000000 in
theorem hide_any (A : Option Addr) (cap : Nat) (L : List Rp) (b4 b6 : Int) (w : World) (h : rpAt w A L) (h0 : A = none → L = []) (hl : L.length ≤ 20) (ht : ∀ r ∈ L, RpT r) (hn : ∀ r ∈ L, RpN r) (h4 : 0 ≤ b4 ∧ b4 ≤ 32) (h6 : 0 ≤ b6 ∧ b6 ≤ 128) (hc : ckR L = 0) :
    Calls Tryz.prog 11 #[.slice A L.length cap, .int .i64 b4, .int .i64 b6] w fun e w' => ∃ v, e = .returned (.tuple #[v, .int .i64 0]) ∧ rpOwn w' w.heap.size v (togL (L.map (hideR b4 b6))) ∧ Below w.heap.size w w' := by
  have hck := checkR_any A cap L w h (by omega) ht
  rw [hc] at hck
  have HAT := Lib.hid h
  have HN := Lib.hid hn
  have HH := Lib.hid ht
  have HL := Lib.hid hl
  have HB4 := Lib.hid h4
  have HB6 := Lib.hid h6
  have q1 : decide (b4 < 0) = false := by simp; omega
  have q2 : decide ((32 : Int) < b4) = false := by simp; omega
  have q3 : decide (b6 < 0) = false := by simp; omega
  have q4 : decide ((128 : Int) < b6) = false := by simp; omega
  clear h hn ht hc h4 h6
  go_enter Tryz.func11, Tryz.ntmps11
  go_wp2_with fail
  refine hck.mono ?_
  rintro e W0 ⟨rfl, hb0⟩
  clear hck
  have HB0 := Lib.hid hb0
  clear hb0
  have hou := outside_any b4 0 32 W0
  rw [q1, q2] at hou
  have hov := outside_any b6 0 128 W0
  rw [q3, q4] at hov
  go_wp2_with fail
  refine hou.mono ?_
  rintro e W ⟨rfl, rfl⟩
  go_wp2_with fail
  refine hov.mono ?_
  rintro e W ⟨rfl, rfl⟩
  clear hou hov q1 q2 q3 q4
  have hcl := rp_clone A cap L W0 (HAT.out.below HB0.out) h0 (by omega)
  clear h0 hl
  go_wp2_with fail
  refine hcl.mono ?_
  rintro e W1 ⟨v, rfl, ho1, hb1⟩
  clear hcl
  obtain ⟨A1, cap1, rfl, hA1, hg1⟩ := own_slice ho1
  have HB1 : Hid (Below w.heap.size w W1) := Lib.hid (HB0.out.trans (hb1.mono HB0.out.size))
  have HO1 : Hid (W1.ownsRow w.heap.size 39 14 (.slice A1 L.length cap1) L.length (rwC rpC L)) := Lib.hid (own_weak ho1 HB0.out.size)
  clear ho1 hb1 hA1 hg1
  go_wp2_with fail
  go_loopw [26] (fun v26 wr => ∃ k : Nat, k ≤ L.length ∧ v26 = .int .i64 k ∧ wr.ownsRow w.heap.size 39 14 (.slice A1 L.length cap1) L.length (rwC rpC (mapK (hideR b4 b6) L k)) ∧ Below w.heap.size w wr) (fun v26 _ => L.length - (intOf v26).toNat)
  case atStart => exact ⟨0, Nat.zero_le _, rfl, by rw [mapK_zero]; exact HO1.out, HB1.out⟩
  case round =>
    obtain ⟨k, hk, rfl, ho, hb⟩ := hrel
    have HB := Lib.hid hb
    by_cases hlt : k < L.length
    · have hdc : decide ((k : Int) < (L.length : Int)) = true := by simp; omega
      have hlt' : (k : Int) < (L.length : Int) := by omega
      have hl20 := HL.out
      obtain ⟨g, rfl, hgw, hgr⟩ := own_some ho (by omega)
      have hML : (mapK (hideR b4 b6) L k).length = L.length := mapK_len _ _ _
      have hat := mapK_at (hideR b4 b6) noRp hlt
      have hst := mapK_set (hideR b4 b6) noRp hlt
      have hrmem := rw_mem (d := noRp) hlt
      have hcc : RwCells wr g (k * 14) (rpC (L.getD k noRp)) := by
        have ho' := ho
        rw [← hML] at ho'
        obtain ⟨g', off', e, _, hx⟩ := rw_at' (d := noRp) rpC_len ho' k (by rw [hML]; exact hlt)
        injection e with e
        simp only [Addr.mk.injEq, and_true] at e
        obtain ⟨rfl, rfl⟩ := e
        rw [Nat.zero_add, hat] at hx
        exact hx
      obtain ⟨N, hN⟩ : ∃ N, mapK (hideR b4 b6) L (k + 1) = N := ⟨_, rfl⟩
      rw [hN] at hst
      have HNX := Lib.hid hN.symm
      clear hN
      generalize mapK (hideR b4 b6) L k = M at ho hML hat hst
      generalize L.getD k noRp = r at hcc hat hst hrmem
      have HST := Lib.hid hst
      have HML := Lib.hid hML
      have HAT2 := Lib.hid hat
      have HO := Lib.hid ho
      have h3 := al1 wr (.cells (rpA noRp) 39)
      have hcc0 : RwCells wr g (0 + k * 14) (rpC r) := by rw [Nat.zero_add]; exact hcc
      have HCC := Lib.hid hcc
      have HCC0 := Lib.hid hcc0
      clear hb hcc hcc0 ho hst hML hat
      go_upto_region 9 with (fail)
      first | refine load_stepR rfl HCC.out (by kernel_rfl) rfl (by kernel_rfl) ?_ | (go_step; first | refine load_stepR rfl HCC.out (by kernel_rfl) rfl (by kernel_rfl) ?_ | (go_step; first | refine load_stepR rfl HCC.out (by kernel_rfl) rfl (by kernel_rfl) ?_ | (go_step; first | refine load_stepR rfl HCC.out (by kernel_rfl) rfl (by kernel_rfl) ?_ | (go_step; first | refine load_stepR rfl HCC.out (by kernel_rfl) rfl (by kernel_rfl) ?_ | (go_step; first | refine load_stepR rfl HCC.out (by kernel_rfl) rfl (by kernel_rfl) ?_ | (go_step; first | refine load_stepR rfl HCC.out (by kernel_rfl) rfl (by kernel_rfl) ?_ | (go_step; first | refine load_stepR rfl HCC.out (by kernel_rfl) rfl (by kernel_rfl) ?_ | (go_step; first | refine load_stepR rfl HCC.out (by kernel_rfl) rfl (by kernel_rfl) ?_ | (go_step; first | refine load_stepR rfl HCC.out (by kernel_rfl) rfl (by kernel_rfl) ?_ | (go_step; first | refine load_stepR rfl HCC.out (by kernel_rfl) rfl (by kernel_rfl) ?_ | (go_step; first | refine load_stepR rfl HCC.out (by kernel_rfl) rfl (by kernel_rfl) ?_ | (go_step; first | refine load_stepR rfl HCC.out (by kernel_rfl) rfl (by kernel_rfl) ?_ | (go_step; first | refine load_stepR rfl HCC.out (by kernel_rfl) rfl (by kernel_rfl) ?_ | (go_step; refine load_stepR rfl HCC.out (by kernel_rfl) rfl (by kernel_rfl) ?_))))))))))))))
      first | refine store_step (vs := rpA r) rfl rfl h3 (by rfl) (by kernel_rfl) (by simp [Value.oneCell', rpA]) (fun W3 hr => ?_) | (go_step; first | refine store_step (vs := rpA r) rfl rfl h3 (by rfl) (by kernel_rfl) (by simp [Value.oneCell', rpA]) (fun W3 hr => ?_) | (go_step; first | refine store_step (vs := rpA r) rfl rfl h3 (by rfl) (by kernel_rfl) (by simp [Value.oneCell', rpA]) (fun W3 hr => ?_) | (go_step; first | refine store_step (vs := rpA r) rfl rfl h3 (by rfl) (by kernel_rfl) (by simp [Value.oneCell', rpA]) (fun W3 hr => ?_) | (go_step; first | refine store_step (vs := rpA r) rfl rfl h3 (by rfl) (by kernel_rfl) (by simp [Value.oneCell', rpA]) (fun W3 hr => ?_) | (go_step; first | refine store_step (vs := rpA r) rfl rfl h3 (by rfl) (by kernel_rfl) (by simp [Value.oneCell', rpA]) (fun W3 hr => ?_) | (go_step; first | refine store_step (vs := rpA r) rfl rfl h3 (by rfl) (by kernel_rfl) (by simp [Value.oneCell', rpA]) (fun W3 hr => ?_) | (go_step; first | refine store_step (vs := rpA r) rfl rfl h3 (by rfl) (by kernel_rfl) (by simp [Value.oneCell', rpA]) (fun W3 hr => ?_) | (go_step; first | refine store_step (vs := rpA r) rfl rfl h3 (by rfl) (by kernel_rfl) (by simp [Value.oneCell', rpA]) (fun W3 hr => ?_) | (go_step; first | refine store_step (vs := rpA r) rfl rfl h3 (by rfl) (by kernel_rfl) (by simp [Value.oneCell', rpA]) (fun W3 hr => ?_) | (go_step; first | refine store_step (vs := rpA r) rfl rfl h3 (by rfl) (by kernel_rfl) (by simp [Value.oneCell', rpA]) (fun W3 hr => ?_) | (go_step; first | refine store_step (vs := rpA r) rfl rfl h3 (by rfl) (by kernel_rfl) (by simp [Value.oneCell', rpA]) (fun W3 hr => ?_) | (go_step; first | refine store_step (vs := rpA r) rfl rfl h3 (by rfl) (by kernel_rfl) (by simp [Value.oneCell', rpA]) (fun W3 hr => ?_) | (go_step; first | refine store_step (vs := rpA r) rfl rfl h3 (by rfl) (by kernel_rfl) (by simp [Value.oneCell', rpA]) (fun W3 hr => ?_) | (go_step; refine store_step (vs := rpA r) rfl rfl h3 (by rfl) (by kernel_rfl) (by simp [Value.oneCell', rpA]) (fun W3 hr => ?_)))))))))))))))
      have hb3 : Below wr.heap.size wr W3 := hr.below (bl_alloc wr _) (Nat.le_refl _)
      have hblk := hr.blk
      generalize hP : wr.heap.size = P at hblk ⊢
      have HB3 : Hid (Below w.heap.size w W3) := Lib.hid (HB.out.trans (hb3.mono HB.out.size))
      have HO3 : Hid (W3.ownsRow w.heap.size 39 14 (.slice (some ⟨g, 0, none⟩) L.length cap1) L.length (rwC rpC M)) := Lib.hid (rw_same HO.out (fun q hq => hb3.block q (HO.out.lt q hq).2))
      have gP : g < P := by rw [← hP]; exact hgr
      have H3 := Lib.hid hblk
      have lP : P < W3.heap.size := lt_of_block hblk
      have gl3 : g < W3.heap.size := by omega
      clear h3 hr hP hb3 hblk HO
      go_upto_region 10 with (fail)
      have hu := HH.out r hrmem
      have HU1 : Hid (U64 r.f.sh) := Lib.hid hu.sh
      have HU2 : Hid (U64 r.f.sl) := Lib.hid hu.sl
      have HU3 : Hid (U64 r.f.th) := Lib.hid hu.th
      have HU4 : Hid (U64 r.f.tl) := Lib.hid hu.tl
      obtain ⟨o3, ho3⟩ : ∃ o3 : Rp, { r with f := { r.f with sh := hidH b4 b6 r.f.s6 r.f.sh, sl := hidL b4 b6 r.f.s6 r.f.sl } } = o3 := ⟨_, rfl⟩
      have HQ3 := Lib.hid ho3
      have HO3' : Hid (W3.ownsRow w.heap.size 39 14 (.slice (some ⟨g, 0, none⟩) M.length cap1) M.length (rwC rpC M)) := Lib.hid (by rw [HML.out]; exact HO3.out)
      have HGW := Lib.hid hgw
      have hML1 : (M.set k o3).length = L.length := by rw [List.length_set]; exact HML.out
      have HML1 := Lib.hid hML1
      have HNL : Hid (N.length = L.length) := Lib.hid (by rw [← HST.out, List.length_set]; exact HML.out)
      clear hu hrmem ho3 hML1 gl3
      refine wp_region_exact 23 (fun f' => ⟨#[.slice (some ⟨g, 0, none⟩) L.length cap1, .int .i64 b4, .int .i64 b6, undef, undef, undef, .slice none 0 0, .int .i64 0, .int .i64 0, .int .i64 k, .pointer (some ⟨P, 0, none⟩), .slice A L.length cap, .int .i64 0, .int .i64 0, .bool false, undef, .int .i64 b4, .bool false, .bool false, .int .i64 b6, .bool false, .bool false, .slice A L.length cap, .slice (some ⟨g, 0, none⟩) L.length cap1, .slice (some ⟨g, 0, none⟩) L.length cap1, .int .i64 L.length, .int .i64 k, .bool true, .int .i64 k, .pointer (some ⟨g, k * 14, none⟩), .agg (rpC r).toArray, f' 0, f' 1, f' 2, f' 3, f' 4, f' 5, f' 6, f' 7, f' 8, f' 9, f' 10, f' 11, f' 12, f' 13, f' 14, f' 15, f' 16, f' 17, f' 18, f' 20, f' 21, f' 22, u53, undef, undef], []⟩) (fun i => match i with | 0 => .slice (some ⟨g, 0, none⟩) L.length cap1 | 1 => .int .i64 k | 2 => .slice (some ⟨g, 0, none⟩) L.length cap1 | 3 => .int .i64 k | 4 => .pointer (some ⟨P, 3, none⟩) | 5 => .pointer (some ⟨P, 4, none⟩) | 6 => .agg #[.bool r.f.s6, .int .u64 r.f.sh, .int .u64 r.f.sl] | 7 => .int .i64 b4 | 8 => .int .i64 b6 | 9 => .agg #[.bool r.f.s6, .int .u64 (hidH b4 b6 r.f.s6 r.f.sh), .int .u64 (hidL b4 b6 r.f.s6 r.f.sl)] | 10 => .pointer (some ⟨P, 3, none⟩) | 11 => .pointer (some ⟨P, 7, none⟩) | 12 => .agg #[.bool r.f.t6, .int .u64 r.f.th, .int .u64 r.f.tl] | 13 => .int .i64 b4 | 14 => .int .i64 b6 | 15 => .agg #[.bool r.f.t6, .int .u64 (hidH b4 b6 r.f.t6 r.f.th), .int .u64 (hidL b4 b6 r.f.t6 r.f.tl)] | 16 => .pointer (some ⟨g, k * 14, none⟩) | 17 => .pointer (some ⟨g, k * 14 + 3, none⟩) | 18 => .pointer (some ⟨g, k * 14 + 4, none⟩) | 19 => undef | 20 => .pointer (some ⟨g, k * 14, none⟩) | 21 => .pointer (some ⟨g, k * 14 + 3, none⟩) | 22 => .pointer (some ⟨g, k * 14 + 7, none⟩) | _ => undef) (fun lb w' => Hid ((lb 19 = false → Below W3.heap.size W3 w') ∧ (lb 19 = true → (w'.ownsRow w.heap.size 39 14 (.slice (some ⟨g, 0, none⟩) L.length cap1) L.length (rwC rpC (M.set k o3)) ∧ w'.heap[P]? = some (.cells (rpA r) 39 (0, 0)) ∧ Below w.heap.size w w') ∧ lb 9 = true ∧ lb 15 = true))) (fun i => match i with | 0 => u31 | 1 => u32 | 2 => u33 | 3 => u34 | 4 => u35 | 5 => u36 | 6 => u37 | 7 => u38 | 8 => u39 | 9 => u40 | 10 => u41 | 11 => u42 | 12 => u43 | 13 => u44 | 14 => u45 | 15 => u46 | 16 => u47 | 17 => u48 | 18 => u49 | 20 => u50 | 21 => u51 | 22 => u52 | _ => undef) 10 (show Tryz.prog.follows .mixedOrders = true from by kernel_rfl) (by kernel_rfl) ?_ ?_ (Lib.hid ⟨fun _ => (Below.refl _ _).drew, fun h => (Bool.false_ne_true h).elim⟩)
      · intro i op hi ho lb f' w' hl hS hd
        have HPX : Hid (w'.heap[P]? = some (.cells (rpA r) 39 (0, 0))) := Lib.hid (by
          cases h19 : lb 19
          · exact ((hS.out.1 h19).block P lP).trans H3.out
          · exact (hS.out.2 h19).1.2.1)
        have hcase : i = 0 ∨ i = 1 ∨ i = 2 ∨ i = 3 ∨ i = 4 ∨ i = 5 ∨ i = 6 ∨ i = 7 ∨ i = 8 ∨ i = 9 ∨ i = 10 ∨ i = 11 ∨ i = 12 ∨ i = 13 ∨ i = 14 ∨ i = 15 ∨ i = 16 ∨ i = 17 ∨ i = 18 ∨ i = 19 ∨ i = 20 ∨ i = 21 ∨ i = 22 := by omega
        rcases hcase with rfl | rfl | rfl | rfl | rfl | rfl | rfl | rfl | rfl | rfl | rfl | rfl | rfl | rfl | rfl | rfl | rfl | rfl | rfl | rfl | rfl | rfl | rfl <;> (replace ho := Option.some.inj ho; subst ho)
        · refine OpStep.of rfl ?_
          unfold Oper.wp
          go_simp
          first | exact ⟨by first | (simp [upd]; done) | (simp [upd]; omega), hS⟩ | (simp [upd]; done) | (simp [upd]; omega)
        · refine OpStep.of rfl ?_
          unfold Oper.wp
          go_simp
          first | exact ⟨by first | (simp [upd]; done) | (simp [upd]; omega), hS⟩ | (simp [upd]; done) | (simp [upd]; omega)
        · refine OpStep.of rfl ?_
          unfold Oper.wp
          go_simp
          first | exact ⟨by first | (simp [upd]; done) | (simp [upd]; omega), hS⟩ | (simp [upd]; done) | (simp [upd]; omega)
        · refine OpStep.of rfl ?_
          unfold Oper.wp
          go_simp
          first | exact ⟨by first | (simp [upd]; done) | (simp [upd]; omega), hS⟩ | (simp [upd]; done) | (simp [upd]; omega)
        · refine OpStep.of rfl ?_
          unfold Oper.wp
          go_simp
          first | exact ⟨by first | (simp [upd]; done) | (simp [upd]; omega), hS⟩ | (simp [upd]; done) | (simp [upd]; omega)
        · have e4 : f' 4 = .pointer (some ⟨P, 3, none⟩) := (hd ⟨4, .data⟩ (by simp) rfl).2
          refine OpStep.of rfl ?_
          unfold Oper.wp
          go_simp
          first | exact ⟨by first | (simp [upd, e4]; done) | (simp [upd, e4]; omega), hS⟩ | (simp [upd, e4]; done) | (simp [upd, e4]; omega)
        · have e5 : f' 5 = .pointer (some ⟨P, 4, none⟩) := (hd ⟨5, .data⟩ (by simp) rfl).2
          refine OpStep.of rfl ?_
          refine load_stepR (R := P) (off := 4) (cs := [.bool r.f.s6, .int .u64 r.f.sh, .int .u64 r.f.sl]) e5 (fun j u hu => (cell_of HPX.out (4 + j)).trans (by
            rcases j with _ | _ | _ | j
            · exact hu
            · exact hu
            · exact hu
            · exact absurd hu (by simp))) (by kernel_rfl) rfl (by kernel_rfl) ?_
          exact ⟨rfl, hS⟩
        · refine OpStep.of rfl ?_
          unfold Oper.wp
          go_simp
          first | exact ⟨by first | (simp [upd]; done) | (simp [upd]; omega), hS⟩ | (simp [upd]; done) | (simp [upd]; omega)
        · refine OpStep.of rfl ?_
          unfold Oper.wp
          go_simp
          first | exact ⟨by first | (simp [upd]; done) | (simp [upd]; omega), hS⟩ | (simp [upd]; done) | (simp [upd]; omega)
        · have e6 : f' 6 = .agg #[.bool r.f.s6, .int .u64 r.f.sh, .int .u64 r.f.sl] := (hd ⟨6, .data⟩ (by simp) rfl).2
          have e7 : f' 7 = .int .i64 b4 := (hd ⟨7, .data⟩ (by simp) rfl).2
          have e8 : f' 8 = .int .i64 b6 := (hd ⟨8, .data⟩ (by simp) rfl).2
          refine OpStep.of rfl ?_
          unfold Oper.wp
          go_simp
          have l19 : lb 19 = false := by
            cases h : lb 19
            · rfl
            · exact absurd ((hS.out.2 h).2.1) (by rw [hl]; decide)
          refine (hidden_any r.f.s6 r.f.sh r.f.sl b4 b6 w' HU1.out HU2.out HB4.out HB6.out).mono ?_
          rintro e w9 ⟨rfl, hb9⟩
          exact ⟨by simp [upd, e6, e7, e8], Lib.hid ⟨fun _ => (hS.out.1 l19).trans (hb9.mono (hS.out.1 l19).size), fun h => absurd (l19.symm.trans h) (by decide)⟩⟩
        · refine OpStep.of rfl ?_
          unfold Oper.wp
          go_simp
          first | exact ⟨by first | (simp [upd]; done) | (simp [upd]; omega), hS⟩ | (simp [upd]; done) | (simp [upd]; omega)
        · have e10 : f' 10 = .pointer (some ⟨P, 3, none⟩) := (hd ⟨10, .data⟩ (by simp) rfl).2
          refine OpStep.of rfl ?_
          unfold Oper.wp
          go_simp
          first | exact ⟨by first | (simp [upd, e10]; done) | (simp [upd, e10]; omega), hS⟩ | (simp [upd, e10]; done) | (simp [upd, e10]; omega)
        · have e11 : f' 11 = .pointer (some ⟨P, 7, none⟩) := (hd ⟨11, .data⟩ (by simp) rfl).2
          refine OpStep.of rfl ?_
          refine load_stepR (R := P) (off := 7) (cs := [.bool r.f.t6, .int .u64 r.f.th, .int .u64 r.f.tl]) e11 (fun j u hu => (cell_of HPX.out (7 + j)).trans (by
            rcases j with _ | _ | _ | j
            · exact hu
            · exact hu
            · exact hu
            · exact absurd hu (by simp))) (by kernel_rfl) rfl (by kernel_rfl) ?_
          exact ⟨rfl, hS⟩
        · refine OpStep.of rfl ?_
          unfold Oper.wp
          go_simp
          first | exact ⟨by first | (simp [upd]; done) | (simp [upd]; omega), hS⟩ | (simp [upd]; done) | (simp [upd]; omega)
        · refine OpStep.of rfl ?_
          unfold Oper.wp
          go_simp
          first | exact ⟨by first | (simp [upd]; done) | (simp [upd]; omega), hS⟩ | (simp [upd]; done) | (simp [upd]; omega)
        · have e12 : f' 12 = .agg #[.bool r.f.t6, .int .u64 r.f.th, .int .u64 r.f.tl] := (hd ⟨12, .data⟩ (by simp) rfl).2
          have e13 : f' 13 = .int .i64 b4 := (hd ⟨13, .data⟩ (by simp) rfl).2
          have e14 : f' 14 = .int .i64 b6 := (hd ⟨14, .data⟩ (by simp) rfl).2
          refine OpStep.of rfl ?_
          unfold Oper.wp
          go_simp
          have l19 : lb 19 = false := by
            cases h : lb 19
            · rfl
            · exact absurd ((hS.out.2 h).2.2) (by rw [hl]; decide)
          refine (hidden_any r.f.t6 r.f.th r.f.tl b4 b6 w' HU3.out HU4.out HB4.out HB6.out).mono ?_
          rintro e w9 ⟨rfl, hb9⟩
          exact ⟨by simp [upd, e12, e13, e14], Lib.hid ⟨fun _ => (hS.out.1 l19).trans (hb9.mono (hS.out.1 l19).size), fun h => absurd (l19.symm.trans h) (by decide)⟩⟩
        · have e0 : f' 0 = .slice (some ⟨g, 0, none⟩) L.length cap1 := (hd ⟨0, .data⟩ (by simp) rfl).2
          have e1 : f' 1 = .int .i64 k := (hd ⟨1, .data⟩ (by simp) rfl).2
          refine OpStep.of rfl ?_
          unfold Oper.wp
          go_simp
          first | exact ⟨by first | (simp [upd, e0, e1]; done) | (simp [upd, e0, e1]; omega), hS⟩ | (simp [upd, e0, e1]; done) | (simp [upd, e0, e1]; omega)
        · have e16 : f' 16 = .pointer (some ⟨g, k * 14, none⟩) := (hd ⟨16, .data⟩ (by simp) rfl).2
          refine OpStep.of rfl ?_
          unfold Oper.wp
          go_simp
          first | exact ⟨by first | (simp [upd, e16]; done) | (simp [upd, e16]; omega), hS⟩ | (simp [upd, e16]; done) | (simp [upd, e16]; omega)
        · have e17 : f' 17 = .pointer (some ⟨g, k * 14 + 3, none⟩) := (hd ⟨17, .data⟩ (by simp) rfl).2
          refine OpStep.of rfl ?_
          unfold Oper.wp
          go_simp
          first | exact ⟨by first | (simp [upd, e17]; done) | (simp [upd, e17]; omega), hS⟩ | (simp [upd, e17]; done) | (simp [upd, e17]; omega)
        · have e9 : f' 9 = .agg #[.bool r.f.s6, .int .u64 (hidH b4 b6 r.f.s6 r.f.sh), .int .u64 (hidL b4 b6 r.f.s6 r.f.sl)] := (hd ⟨9, .data⟩ (by simp) rfl).2
          have e18 : f' 18 = .pointer (some ⟨g, k * 14 + 4, none⟩) := (hd ⟨18, .data⟩ (by simp) rfl).2
          refine OpStep.of rfl ?_
          have l9 := (hd ⟨9, .data⟩ (by simp) rfl).1
          have l15 := (hd ⟨15, .chain⟩ (by simp) rfl).1
          have hb := hS.out.1 hl
          have hso : w'.ownsRow w.heap.size 39 14 (.slice (some ⟨g, 0, none⟩) L.length cap1) L.length (rwC rpC M) := rw_same HO3.out (fun q hq => hb.block q (HO3.out.lt q hq).2)
          have hst3 := store3 (M := M) (o1 := r) (o2 := { r with f := { r.f with sh := hidH b4 b6 r.f.s6 r.f.sh } }) (o3 := o3) (d := noRp) rpC_len HO3'.out hb (by rw [HML.out]; exact hlt) (show 4 + 2 < 14 by omega) (.bool r.f.s6) (.int .u64 (hidH b4 b6 r.f.s6 r.f.sh)) (.int .u64 (hidL b4 b6 r.f.s6 r.f.sl)) (by rw [HAT2.out]; rfl) rfl (by rw [← HQ3.out]; rfl) rfl H3.out lP HB3.out (Nat.ne_of_lt gP) HGW.out
          rw [HML1.out] at hst3
          refine store_stepR (vs := [.bool r.f.s6, .int .u64 (hidH b4 b6 r.f.s6 r.f.sh), .int .u64 (hidL b4 b6 r.f.s6 r.f.sl)]) e18 e9 (fun j hj => rw_some hso (by simp at hj; omega)) (fun j => rw_froz hso j) rfl (by kernel_rfl) (by simp [Value.oneCell']) ?_
          exact ⟨rfl, Lib.hid ⟨fun h => by simp [updB] at h, fun _ => ⟨hst3, l9, l15⟩⟩⟩
        · have e2 : f' 2 = .slice (some ⟨g, 0, none⟩) L.length cap1 := (hd ⟨2, .data⟩ (by simp) rfl).2
          have e3 : f' 3 = .int .i64 k := (hd ⟨3, .data⟩ (by simp) rfl).2
          refine OpStep.of rfl ?_
          unfold Oper.wp
          go_simp
          first | exact ⟨by first | (simp [upd, e2, e3]; done) | (simp [upd, e2, e3]; omega), hS⟩ | (simp [upd, e2, e3]; done) | (simp [upd, e2, e3]; omega)
        · have e20 : f' 20 = .pointer (some ⟨g, k * 14, none⟩) := (hd ⟨20, .data⟩ (by simp) rfl).2
          refine OpStep.of rfl ?_
          unfold Oper.wp
          go_simp
          first | exact ⟨by first | (simp [upd, e20]; done) | (simp [upd, e20]; omega), hS⟩ | (simp [upd, e20]; done) | (simp [upd, e20]; omega)
        · have e21 : f' 21 = .pointer (some ⟨g, k * 14 + 3, none⟩) := (hd ⟨21, .data⟩ (by simp) rfl).2
          refine OpStep.of rfl ?_
          unfold Oper.wp
          go_simp
          first | exact ⟨by first | (simp [upd, e21]; done) | (simp [upd, e21]; omega), hS⟩ | (simp [upd, e21]; done) | (simp [upd, e21]; omega)
      · intro op ho lb f' w' hd hS
        have HPX : Hid (w'.heap[P]? = some (.cells (rpA r) 39 (0, 0))) := Lib.hid (by
          cases h19 : lb 19
          · exact ((hS.out.1 h19).block P lP).trans H3.out
          · exact (hS.out.2 h19).1.2.1)
        have e15 : f' 15 = .agg #[.bool r.f.t6, .int .u64 (hidH b4 b6 r.f.t6 r.f.th), .int .u64 (hidL b4 b6 r.f.t6 r.f.tl)] := (hd 15 (by omega)).2
        have e22 : f' 22 = .pointer (some ⟨g, k * 14 + 7, none⟩) := (hd 22 (by omega)).2
        replace ho := Option.some.inj ho
        subst ho
        refine ⟨rfl, ?_⟩
        have hs := (hS.out.2 (hd 19 (by omega)).1).1
        obtain ⟨hso, h9, hb⟩ := hs
        have hst3 := store3 (M := M.set k o3) (o1 := o3) (o2 := { o3 with f := { o3.f with th := hidH b4 b6 r.f.t6 r.f.th } }) (o3 := hideR b4 b6 r) (d := noRp) rpC_len (by rw [HML1.out]; exact hso) (Below.refl _ _) (by rw [HML1.out]; exact hlt) (show 7 + 2 < 14 by omega) (.bool r.f.t6) (.int .u64 (hidH b4 b6 r.f.t6 r.f.th)) (.int .u64 (hidL b4 b6 r.f.t6 r.f.tl)) (by rw [set_at (by rw [HML.out]; exact hlt), ← HQ3.out]; rfl) rfl (by rw [← HQ3.out]; rfl) rfl h9 (lt_of_block h9) hb (Nat.ne_of_lt gP) HGW.out
        rw [List.set_set, HST.out, HNL.out] at hst3
        have HFI := Lib.hid (And.intro hst3.1 hst3.2.2)
        refine store_stepR (vs := [.bool r.f.t6, .int .u64 (hidH b4 b6 r.f.t6 r.f.th), .int .u64 (hidL b4 b6 r.f.t6 r.f.tl)]) e22 e15 (fun j hj => rw_some hso (by simp at hj; omega)) (fun j => rw_froz hso j) rfl (by kernel_rfl) (by simp [Value.oneCell']) ?_
        clear hst3 hso h9 hb
        generalize World.setCells _ _ _ _ = WN at HFI ⊢
        go_wp2_with fail
        go_roundw
        case rel => exact ⟨k + 1, by omega, by go_num, HNX.out ▸ HFI.out.1, HFI.out.2⟩
        case measure => simp [intOf]; omega
    · have : k = L.length := by omega
      subst this
      have hdc : decide ((L.length : Int) < (L.length : Int)) = false := by simp
      rw [mapK_all] at ho
      have hml : (L.map (hideR b4 b6)).length = L.length := by simp
      have ho' : wr.ownsRow w.heap.size 39 14 (.slice A1 (L.map (hideR b4 b6)).length cap1) (L.map (hideR b4 b6)).length (rwC rpC (L.map (hideR b4 b6))) := by rw [hml]; exact ho
      have hto := together_any A1 cap1 (L.map (hideR b4 b6)) wr (rw_at' (d := noRp) rpC_len ho') (by
        rintro rfl
        rcases ho.2 with ⟨-, h2⟩ | ⟨_, _, _, h1, _⟩
        · rw [List.length_eq_zero_iff.1 h2]; rfl
        · injection h1 with h1; cases h1) (by rw [hml]; exact HL.out) (by
        intro r hr
        obtain ⟨q, hq, rfl⟩ := List.mem_map.1 hr
        exact HN.out q hq)
      rw [hml] at hto
      clear ho ho'
      go_wp2_with fail
      refine hto.mono ?_
      rintro e W9 ⟨v, rfl, ho9, hb9⟩
      have HF : Hid (rpOwn W9 w.heap.size v (togL (L.map (hideR b4 b6))) ∧ Below w.heap.size w W9) := Lib.hid ⟨own_weak ho9 HB.out.size, HB.out.trans (hb9.mono HB.out.size)⟩
      clear hto ho9 hb9
      go_wp2_with fail
      go_ret2
      exact ⟨_, rfl, HF.out.1, HF.out.2⟩
end Go.Proofs.YthjfnlbekbhmgaaGreatDoor
