/- flow.together (printed by gen_rpt.py). -/
import Derived.Test.YthjfnlbekbhmgaaGreatDoorRpC
namespace Go.Proofs.YthjfnlbekbhmgaaGreatDoor
open Go.RowKit Go.Hw

theorem rwC_set1 {α : Type} {c : α → List Value} {n : Nat} (hc : ∀ x, (c x).length = n) (d : α) (j : Nat) (u : Value) (e' : α) (hj : j < n) : ∀ (M : List α) (i : Nat), i < M.length → c e' = (c (M.getD i d)).set j u → (rwC c M).set (i * n + j) u = rwC c (M.set i e')
  | x :: M, 0, _, he => by
    have he : c e' = (c x).set j u := he
    show (c x ++ rwC c M).set (0 * n + j) u = c e' ++ rwC c M
    rw [he, Nat.zero_mul, Nat.zero_add, List.set_append_left _ _ (by rw [hc]; exact hj)]
  | x :: M, i + 1, hi, he => by
    have ih := rwC_set1 hc d j u e' hj M i (by simpa using hi) he
    show (c x ++ rwC c M).set ((i + 1) * n + j) u = c x ++ rwC c (M.set i e')
    rw [List.set_append_right _ _ (by rw [hc, Nat.succ_mul]; omega), hc, show (i + 1) * n + j - n = i * n + j from by rw [Nat.succ_mul]; omega, ih]
theorem rw_put1 {α : Type} {c : α → List Value} {n : Nat} (hc : ∀ x, (c x).length = n) (d : α) {w : World} {base g cap : Nat} {T : TypeId} {M : List α} (h : w.ownsRow base T n (.slice (some ⟨g, 0, none⟩) M.length cap) M.length (rwC c M)) (i j : Nat) (u : Value) (e' : α) (hi : i < M.length) (hj : j < n) (he : c e' = (c (M.getD i d)).set j u) :
    (w.setCell ⟨g, i * n + j, none⟩ u).ownsRow base T n (.slice (some ⟨g, 0, none⟩) (M.set i e').length cap) (M.set i e').length (rwC c (M.set i e')) := by
  rw [← rwC_set1 hc d j u e' hj M i hi he, List.length_set]
  exact (World.ownsRow.stored h (i * n + j) u).1
theorem own_weak {w : World} {base base' : Nat} {e : TypeId} {size : Nat} {v : Value} {n : Nat} {xs : List Value} (h : w.ownsRow base e size v n xs) (hb : base' ≤ base) : w.ownsRow base' e size v n xs := by
  refine ⟨h.1, ?_⟩
  rcases h.2 with h1 | ⟨g, cap, cur, h1, h2, h3⟩
  · exact .inl h1
  · exact .inr ⟨g, cap, cur, h1, Nat.le_trans hb h2, h3⟩
theorem own_slice {w : World} {base : Nat} {e : TypeId} {size : Nat} {v : Value} {n : Nat} {xs : List Value} (h : w.ownsRow base e size v n xs) : ∃ A cap, v = .slice A n cap ∧ (A = none → n = 0) ∧ ∀ g off, A = some ⟨g, off, none⟩ → base ≤ g ∧ g < w.heap.size := by
  rcases h.2 with ⟨rfl, h2⟩ | ⟨g, cap, cur, rfl, hb, hg, _⟩
  · exact ⟨none, 0, by rw [h2], fun _ => h2, fun g off e => by cases e⟩
  · exact ⟨_, cap, rfl, fun e => (by cases e), fun g' off e => by injection e with e; injection e with e1 e2; subst e1; exact ⟨hb, lt_of_block hg⟩⟩
theorem own_some {w : World} {base : Nat} {e : TypeId} {size : Nat} {A : Option Addr} {n cap : Nat} {xs : List Value} (h : w.ownsRow base e size (.slice A n cap) n xs) (hn : n ≠ 0) : ∃ g, A = some ⟨g, 0, none⟩ ∧ base ≤ g ∧ g < w.heap.size := by
  rcases h.2 with ⟨h1, h2⟩ | ⟨g, cap', cur, h1, hb, hg, _⟩
  · exact absurd h2 hn
  · injection h1 with h1
    exact ⟨g, h1, hb, lt_of_block hg⟩
theorem cells_new14 (W : World) (cs : List Value) (T : TypeId) : ∀ j u, cs[j]? = some u → (W.alloc (.cells cs.toArray T)).cell? ((⟨W.heap.size, 0, none⟩ : Addr).add j) = some u := fun j u hu => by
  rw [Addr.add_lit]
  exact (cell_of (heap_alloc_new W _) (0 + j)).trans (by simpa using hu)
/-- One cell of one element of an own row is laid anew. -/
theorem store1 {α : Type} {c : α → List Value} {n : Nat} {d : α} {W2 W w' : World} {g cap i j P : Nat} {T T' : TypeId} {M M' : List α} {o' : α} {cs : Array Value} (hc : ∀ x, (c x).length = n) (h : W.ownsRow W2.heap.size T n (.slice (some ⟨g, 0, none⟩) M.length cap) M.length (rwC c M)) (hb : Below W.heap.size W w') (hi : i < M.length) (hj : j < n) (u : Value) (he : c o' = (c (M.getD i d)).set j u) (hM : M.set i o' = M')
    (hP : W.heap[P]? = some (.cells cs T' (0, 0))) (hPl : P < W.heap.size) (hB : Below W2.heap.size W2 W) (hgP : g ≠ P) (hg : W2.heap.size ≤ g) :
    (w'.setCell ⟨g, i * n + j, none⟩ u).ownsRow W2.heap.size T n (.slice (some ⟨g, 0, none⟩) M'.length cap) M'.length (rwC c M') ∧ (w'.setCell ⟨g, i * n + j, none⟩ u).heap[P]? = some (.cells cs T' (0, 0)) ∧ Below W2.heap.size W2 (w'.setCell ⟨g, i * n + j, none⟩ u) := by
  subst hM
  have h' : w'.ownsRow W2.heap.size T n (.slice (some ⟨g, 0, none⟩) M.length cap) M.length (rwC c M) := rw_same h (fun q hq => hb.block q (h.lt q hq).2)
  refine ⟨rw_put1 hc d h' i j u o' hi hj he, ?_, ?_⟩
  · exact (Below.heap_setCell w' _ _ P (by show P ≠ g; omega)).trans ((hb.block P hPl).trans hP)
  · have hB' := hB.trans (hb.mono hB.size)
    exact ⟨hB'.os, hB'.tape, hB'.output, by have := hB'.size; simpa [World.setCell] using this, fun q hq => (Below.heap_setCell w' ⟨g, i * n + j, none⟩ u q (by show q ≠ g; omega)).trans (hB'.block q hq)⟩
theorem ltR_eq : rpLt cmpR = ltR := rfl
/-- The numbers of a report can be added. -/
def RpN (r : Rp) : Prop := (0 ≤ r.pk ∧ r.pk ≤ 1000000000000) ∧ 0 ≤ r.by_ ∧ r.by_ ≤ 1000000000000
theorem addR_n {o r : Rp} (h : RpN o) (k : RpN r) : RpN (addR o r) := by
  obtain ⟨h1, h2⟩ := h
  obtain ⟨k1, k2⟩ := k
  refine ⟨⟨?_, ?_⟩, ?_, ?_⟩
  · show 0 ≤ min (o.pk + r.pk) 1000000000000; omega
  · show min (o.pk + r.pk) 1000000000000 ≤ 1000000000000; omega
  · show 0 ≤ min (o.by_ + r.by_) 1000000000000; omega
  · show min (o.by_ + r.by_) 1000000000000 ≤ 1000000000000; omega
theorem entersCR : ∀ args w, (callFunc 32 args).run Tryz.prog w = .ok (.enter 32 args) w := enters_of Tryz.func32 (by kernel_rfl) rfl
theorem mgL_snoc (M : List Rp) (k : Nat) (hk : k < M.length) : mgL [] (M.take (k + 1)) = mgR (mgL [] (M.take k)) (M.getD k noRp) := by
  unfold mgL
  rw [List.take_add_one, List.getElem?_eq_getElem hk, List.foldl_append, List.getD_eq_getElem?_getD, List.getElem?_eq_getElem hk]
  rfl
set_option maxRecDepth 100000 in
set_option maxHeartbeats 4000000 in
theorem together_any (A : Option Addr) (cap : Nat) (L : List Rp) (w : World) (h : rpAt w A L) (h0 : A = none → L = []) (hl : L.length ≤ 20) (hn : ∀ r ∈ L, RpN r) :
    Calls Tryz.prog 39 #[.slice A L.length cap] w fun e w' => ∃ v, e = .returned v ∧ rpOwn w' w.heap.size v (togL L) ∧ Below w.heap.size w w' := by
  have hcl := rp_clone A cap L w h h0 (by omega)
  have HN := Lib.hid hn
  have eg := entersCR
  clear h h0 hn
  go_enter Tryz.func39, Tryz.ntmps39
  go_wp2_with fail
  refine hcl.mono ?_
  rintro e W1 ⟨v, rfl, ho1, hb1⟩
  clear hcl
  obtain ⟨A1, cap1, rfl, hA1, hg1⟩ := own_slice ho1
  have HB1 := Lib.hid hb1
  have hss := rp_sortStable A1 cap1 L 32 #[] cmpR W1 eg (own_weak ho1 (Nat.zero_le _)) hl (fun wr _ W x y _ _ _ => (compareReports_any x y W).mono fun e w' h => h)
  go_wp2_with fail
  refine hss.mono ?_
  rintro e W2 ⟨rfl, hs2⟩

  obtain ⟨hg2, hown2⟩ := hs2
  have hM : (isortL (rpLt cmpR) L).length = L.length := isortL_length _ _
  have hMN : ∀ r ∈ isortL (rpLt cmpR) L, RpN r := fun r hr => HN.out r (isortL_mem.1 hr)
  have HTOG : Hid (togL L = mgL [] (isortL (rpLt cmpR) L)) := Lib.hid rfl
  generalize isortL (rpLt cmpR) L = M at hg2 hown2 hM hMN HTOG
  have HAT := Lib.hid (rw_at' (d := noRp) rpC_len hown2)
  have HB2 : Hid (Below w.heap.size w W2) := Lib.hid (HB1.out.grown hg2 HB1.out.size (fun k hk => by rw [hM] at hk; exact (ho1.lt k hk).1))
  have HMN := Lib.hid hMN
  have HM := Lib.hid hM
  clear hss ho1 hb1 hg1 hA1 hg2 hown2 hMN
  obtain ⟨i0, hi, hz0, hz1, hz2⟩ := info_parts rp_info
  clear hM
  go_wp2_with fail
  go_loopw [3, 13] (fun v3 v13 wr => ∃ (k : Nat) (v : Value), k ≤ L.length ∧ v13 = .int .i64 k ∧ v3 = v ∧ rpOwn wr W2.heap.size v (mgL [] (M.take k)) ∧ Below W2.heap.size W2 wr) (fun _ v13 _ => L.length - (intOf v13).toNat)
  case atStart => exact ⟨0, _, Nat.zero_le _, rfl, rfl, World.ownsRow_nil _ _ _ _, Below.refl _ _⟩
  case round =>
    obtain ⟨k, v, hk, rfl, rfl, ho, hb⟩ := hrel
    obtain ⟨B, cb, rfl, hB0, hBg⟩ := own_slice ho
    have HB := Lib.hid hb
    by_cases hlt : k < L.length
    · have hd : decide ((k : Int) < (L.length : Int)) = true := by simp; omega
      have hlt' : (k : Int) < (L.length : Int) := by omega
      have hkM : k < M.length := by rw [HM.out]; exact hlt
      obtain ⟨g, off, rfl, hgB, hcc⟩ := (HAT.out.below hb) k hkM
      have hnx := mgL_snoc M k hkM
      have hrn := HMN.out _ (rw_mem (d := noRp) hkM)
      have han : ∀ x ∈ mgL [] (M.take k), RpN x := mg_all (fun o r h1 h2 _ => addR_n h1 h2) _ [] (by simp) (fun x hx => HMN.out x (List.mem_of_mem_take hx))
      have hal : (mgL [] (M.take k)).length ≤ 20 := by
        have h1 := mg_len (M.take k) []
        have h2 : (M.take k).length ≤ k := by simp; omega
        simp at h1
        omega
      generalize M.getD k noRp = r at hcc hnx hrn
      generalize mgL [] (M.take k) = acc at ho hnx han hal hB0
      have HNX := Lib.hid hnx
      have HAN := Lib.hid han
      have HRN := Lib.hid hrn
      have HO := Lib.hid ho
      have h3 := al1 wr (.cells (rpA noRp) 39)
      have HCC := Lib.hid hcc
      clear hb hcc hnx han hrn ho hBg
      go_upto_region 6 with (fail)
      first | refine load_stepR rfl HCC.out (by kernel_rfl) rfl (by kernel_rfl) ?_ | (go_step; first | refine load_stepR rfl HCC.out (by kernel_rfl) rfl (by kernel_rfl) ?_ | (go_step; first | refine load_stepR rfl HCC.out (by kernel_rfl) rfl (by kernel_rfl) ?_ | (go_step; first | refine load_stepR rfl HCC.out (by kernel_rfl) rfl (by kernel_rfl) ?_ | (go_step; first | refine load_stepR rfl HCC.out (by kernel_rfl) rfl (by kernel_rfl) ?_ | (go_step; first | refine load_stepR rfl HCC.out (by kernel_rfl) rfl (by kernel_rfl) ?_ | (go_step; first | refine load_stepR rfl HCC.out (by kernel_rfl) rfl (by kernel_rfl) ?_ | (go_step; first | refine load_stepR rfl HCC.out (by kernel_rfl) rfl (by kernel_rfl) ?_ | (go_step; first | refine load_stepR rfl HCC.out (by kernel_rfl) rfl (by kernel_rfl) ?_ | (go_step; first | refine load_stepR rfl HCC.out (by kernel_rfl) rfl (by kernel_rfl) ?_ | (go_step; first | refine load_stepR rfl HCC.out (by kernel_rfl) rfl (by kernel_rfl) ?_ | (go_step; first | refine load_stepR rfl HCC.out (by kernel_rfl) rfl (by kernel_rfl) ?_ | (go_step; first | refine load_stepR rfl HCC.out (by kernel_rfl) rfl (by kernel_rfl) ?_ | (go_step; first | refine load_stepR rfl HCC.out (by kernel_rfl) rfl (by kernel_rfl) ?_ | (go_step; refine load_stepR rfl HCC.out (by kernel_rfl) rfl (by kernel_rfl) ?_))))))))))))))
      first | refine store_step (vs := rpA r) rfl rfl h3 (by rfl) (by kernel_rfl) (by simp [Value.oneCell', rpA]) (fun W3 hr => ?_) | (go_step; first | refine store_step (vs := rpA r) rfl rfl h3 (by rfl) (by kernel_rfl) (by simp [Value.oneCell', rpA]) (fun W3 hr => ?_) | (go_step; first | refine store_step (vs := rpA r) rfl rfl h3 (by rfl) (by kernel_rfl) (by simp [Value.oneCell', rpA]) (fun W3 hr => ?_) | (go_step; first | refine store_step (vs := rpA r) rfl rfl h3 (by rfl) (by kernel_rfl) (by simp [Value.oneCell', rpA]) (fun W3 hr => ?_) | (go_step; first | refine store_step (vs := rpA r) rfl rfl h3 (by rfl) (by kernel_rfl) (by simp [Value.oneCell', rpA]) (fun W3 hr => ?_) | (go_step; first | refine store_step (vs := rpA r) rfl rfl h3 (by rfl) (by kernel_rfl) (by simp [Value.oneCell', rpA]) (fun W3 hr => ?_) | (go_step; first | refine store_step (vs := rpA r) rfl rfl h3 (by rfl) (by kernel_rfl) (by simp [Value.oneCell', rpA]) (fun W3 hr => ?_) | (go_step; first | refine store_step (vs := rpA r) rfl rfl h3 (by rfl) (by kernel_rfl) (by simp [Value.oneCell', rpA]) (fun W3 hr => ?_) | (go_step; first | refine store_step (vs := rpA r) rfl rfl h3 (by rfl) (by kernel_rfl) (by simp [Value.oneCell', rpA]) (fun W3 hr => ?_) | (go_step; first | refine store_step (vs := rpA r) rfl rfl h3 (by rfl) (by kernel_rfl) (by simp [Value.oneCell', rpA]) (fun W3 hr => ?_) | (go_step; first | refine store_step (vs := rpA r) rfl rfl h3 (by rfl) (by kernel_rfl) (by simp [Value.oneCell', rpA]) (fun W3 hr => ?_) | (go_step; first | refine store_step (vs := rpA r) rfl rfl h3 (by rfl) (by kernel_rfl) (by simp [Value.oneCell', rpA]) (fun W3 hr => ?_) | (go_step; first | refine store_step (vs := rpA r) rfl rfl h3 (by rfl) (by kernel_rfl) (by simp [Value.oneCell', rpA]) (fun W3 hr => ?_) | (go_step; first | refine store_step (vs := rpA r) rfl rfl h3 (by rfl) (by kernel_rfl) (by simp [Value.oneCell', rpA]) (fun W3 hr => ?_) | (go_step; refine store_step (vs := rpA r) rfl rfl h3 (by rfl) (by kernel_rfl) (by simp [Value.oneCell', rpA]) (fun W3 hr => ?_)))))))))))))))
      have hb3 : Below wr.heap.size wr W3 := hr.below (bl_alloc wr _) (Nat.le_refl _)
      have hblk := hr.blk
      generalize hP : wr.heap.size = P at hblk ⊢
      have HP := Lib.hid hP
      have HB3 : Hid (Below W2.heap.size W2 W3) := Lib.hid (HB.out.trans (hb3.mono HB.out.size))
      have HO3 : Hid (rpOwn W3 W2.heap.size (.slice B acc.length cb) acc) := Lib.hid (rw_same HO.out (fun q hq => hb3.block q (HO.out.lt q hq).2))
      have HNP : Hid (∀ q, (Value.slice B acc.length cb).ownBlock = some q → q < P) := Lib.hid (fun q hq => by rw [← HP.out]; exact (HO.out.lt q hq).2)
      have H3 := Lib.hid hblk
      have lP : P < W3.heap.size := lt_of_block hblk
      clear h3 hr hP hb3 hblk HO
      rcases List.eq_nil_or_concat acc with hA | ⟨A', o, hA⟩
      · subst hA
        have hB : B = none ∨ True := .inr trivial
        have s7 : IntKind.i64.wrap ((0 : Int) - 1) = -1 := by decide
        have s8 : IntKind.i64.wrap (-1) = -1 := by decide
        rw [show ([] : List Rp).length = 0 from rfl]
        go_upto_region 8 with (fail)
        go_cut [30] from 20 to 29 (fun v30 wc => v30 = .bool false ∧ Below W3.heap.size W3 wc)
        case first =>
          refine wp_region_exact 10 (fun f' => ⟨#[.slice (some ⟨g, off, none⟩) L.length cap1, undef, .slice none 0 0, .slice B 0 cb, undef, .pointer (some ⟨P, 0, none⟩), .int .i64 (-1), .slice A L.length cap, .slice (some ⟨g, off, none⟩) L.length cap1, .slice (some ⟨g, off, none⟩) L.length cap1, .tuple #[], .slice (some ⟨g, off, none⟩) L.length cap1, .int .i64 L.length, .int .i64 k, .bool true, .pointer (some ⟨g, off + k * 14, none⟩), .agg (rpC r).toArray, .slice B 0 cb, .int .i64 0, .int .i64 (-1), f' 0, f' 1, f' 2, f' 3, f' 4, f' 5, f' 6, f' 7, f' 8, f' 9, u30, u31, u32, u33, u34, u35, u36, u37, u38, u39, u40, u41, u42, u43, u44, u45, u46, u47, u48, u49, u50, u51, u52, u53, u54, u55, u56, u57, u58, u59, u60, u61, undef], []⟩) (fun i => match i with | 0 => .int .i64 (-1) | 1 => .bool false | 2 => .bool false | 3 => undef | 4 => undef | 5 => undef | 6 => undef | 7 => undef | 8 => undef | 9 => undef | _ => undef) (fun lb w' => Hid (Below W3.heap.size W3 w')) (fun i => match i with | 0 => u20 | 1 => u21 | 2 => u22 | 3 => u23 | 4 => u24 | 5 => u25 | 6 => u26 | 7 => u27 | 8 => u28 | 9 => u29 | _ => undef) 10 (show Tryz.prog.follows .mixedOrders = true from by kernel_rfl) (by kernel_rfl) ?_ ?_ (Lib.hid (Below.refl _ _).drew)
          · intro i op hi ho lb f' w' hl hS hd
            have hcase : i = 0 ∨ i = 1 ∨ i = 2 ∨ i = 3 ∨ i = 4 ∨ i = 5 ∨ i = 6 ∨ i = 7 ∨ i = 8 ∨ i = 9 := by omega
            rcases hcase with rfl | rfl | rfl | rfl | rfl | rfl | rfl | rfl | rfl | rfl <;> (replace ho := Option.some.inj ho; subst ho)
            · refine OpStep.of rfl ?_
              unfold Oper.wp
              go_simp
              first | exact ⟨by first | (simp [upd]; done) | (simp [upd]; omega), hS⟩ | (simp [upd]; done) | (simp [upd]; omega)
            · have e0 : f' 0 = .int .i64 (-1) := (hd ⟨0, .data⟩ (by simp) rfl).2
              refine OpStep.of rfl ?_
              unfold Oper.wp
              go_simp
              first | exact ⟨by first | (simp [upd, e0]; done) | (simp [upd, e0]; omega), hS⟩ | (simp [upd, e0]; done) | (simp [upd, e0]; omega)
            · have e1 : f' 1 = .bool false := (hd ⟨1, .data⟩ (by simp) rfl).2
              refine OpStep.of rfl ?_
              unfold Oper.wp
              go_simp
              first | exact ⟨by first | (simp [upd, e1]; done) | (simp [upd, e1]; omega), hS⟩ | (simp [upd, e1]; done) | (simp [upd, e1]; omega)
            · refine OpStep.not (by have e2 : f' 2 = .bool false := (hd ⟨2, .guard⟩ (by simp) rfl).2; simp [Region.wanted, yielded, e2]) ?_
              exact ⟨rfl, hS⟩
            · refine OpStep.not (by have e2 : f' 2 = .bool false := (hd ⟨2, .guard⟩ (by simp) rfl).2; simp [Region.wanted, yielded, e2]) ?_
              exact ⟨rfl, hS⟩
            · refine OpStep.not (by have e2 : f' 2 = .bool false := (hd ⟨2, .guard⟩ (by simp) rfl).2; simp [Region.wanted, yielded, e2]) ?_
              exact ⟨rfl, hS⟩
            · refine OpStep.not (by have e2 : f' 2 = .bool false := (hd ⟨2, .guard⟩ (by simp) rfl).2; simp [Region.wanted, yielded, e2]) ?_
              exact ⟨rfl, hS⟩
            · refine OpStep.not (by have e2 : f' 2 = .bool false := (hd ⟨2, .guard⟩ (by simp) rfl).2; simp [Region.wanted, yielded, e2]) ?_
              exact ⟨rfl, hS⟩
            · refine OpStep.not (by have e2 : f' 2 = .bool false := (hd ⟨2, .guard⟩ (by simp) rfl).2; simp [Region.wanted, yielded, e2]) ?_
              exact ⟨rfl, hS⟩
            · refine OpStep.not (by have e2 : f' 2 = .bool false := (hd ⟨2, .guard⟩ (by simp) rfl).2; simp [Region.wanted, yielded, e2]) ?_
              exact ⟨rfl, hS⟩
          · intro op ho lb f' w' hd hS
            have e2 : f' 2 = .bool false := (hd 2 (by omega)).2
            replace ho := Option.some.inj ho
            subst ho
            refine ⟨rfl, ?_⟩
            have e2 : f' 2 = .bool false := (hd 2 (by omega)).2
            unfold Oper.wp
            go_simp
            go_step
            go_meet
            exact ⟨rfl, hS.out⟩
        case rest =>
        obtain ⟨rfl, hbc⟩ := hcut
        obtain ⟨W4, rfl⟩ : ∃ W4 : World, W4 = wc := ⟨_, rfl⟩
        have HB4 : Hid (Below W2.heap.size W2 W4) := Lib.hid (HB3.out.trans (hbc.mono HB3.out.size))
        have HO4 : Hid (rpOwn W4 W2.heap.size (.slice B 0 cb) []) := Lib.hid (rw_same HO3.out (fun q hq => hbc.block q (HO3.out.lt q hq).2))
        have H4 := Lib.hid ((hbc.block P lP).trans H3.out)
        clear hbc
        have hE : W4.heap[P]? = some (.cells #[.string r.node, .int .i64 r.hour, .bool r.out, .int .i64 r.f.proto, .bool r.f.s6, .int .u64 r.f.sh, .int .u64 r.f.sl, .bool r.f.t6, .int .u64 r.f.th, .int .u64 r.f.tl, .int .i64 r.f.fp, .int .i64 r.f.tp, .int .i64 r.pk, .int .i64 r.by_] 39 (0, 0)) := H4.out
        have HE := Lib.hid hE
        clear hE
        go_upto_region 11 with (fail)
        first | refine load_step rfl HE.out (by kernel_rfl) (by kernel_rfl) ?_ | (go_step; first | refine load_step rfl HE.out (by kernel_rfl) (by kernel_rfl) ?_ | (go_step; first | refine load_step rfl HE.out (by kernel_rfl) (by kernel_rfl) ?_ | (go_step; first | refine load_step rfl HE.out (by kernel_rfl) (by kernel_rfl) ?_ | (go_step; first | refine load_step rfl HE.out (by kernel_rfl) (by kernel_rfl) ?_ | (go_step; first | refine load_step rfl HE.out (by kernel_rfl) (by kernel_rfl) ?_ | (go_step; first | refine load_step rfl HE.out (by kernel_rfl) (by kernel_rfl) ?_ | (go_step; first | refine load_step rfl HE.out (by kernel_rfl) (by kernel_rfl) ?_ | (go_step; first | refine load_step rfl HE.out (by kernel_rfl) (by kernel_rfl) ?_ | (go_step; first | refine load_step rfl HE.out (by kernel_rfl) (by kernel_rfl) ?_ | (go_step; first | refine load_step rfl HE.out (by kernel_rfl) (by kernel_rfl) ?_ | (go_step; first | refine load_step rfl HE.out (by kernel_rfl) (by kernel_rfl) ?_ | (go_step; first | refine load_step rfl HE.out (by kernel_rfl) (by kernel_rfl) ?_ | (go_step; first | refine load_step rfl HE.out (by kernel_rfl) (by kernel_rfl) ?_ | (go_step; refine load_step rfl HE.out (by kernel_rfl) (by kernel_rfl) ?_))))))))))))))
        go_wp2_with (at_builtin; refine wpList_append_own _ rfl (.tmp 57) (.tmp 59) 26 rfl W2.heap.size 39 i0 (.agg #[.string ⟨#[]⟩, .int .i64 0, .bool false, .int .i64 0, .bool false, .int .u64 0, .int .u64 0, .bool false, .int .u64 0, .int .u64 0, .int .i64 0, .int .i64 0, .int .i64 0, .int .i64 0]) 14 120 Tryz.underlying26 hi hz0 hz1 hz2 rfl (by decide) _ _ _ rfl (World.ownsRow.alloc HO4.out _) ⟨W4.heap.size, 0, none⟩ 1 1 (rpC r) rfl rfl ?d1 ?d2 ?d3 ?d4 ?d5 ?_)
        case d1 => exact cells_new14 W4 (rpC r) _
        case d2 => exact rpC_one r
        case d3 => first | (unfold maxLen; simp; done) | (unfold maxLen; omega)
        case d4 => first | (simp; done) | omega
        case d5 => have h8 := (HB4.out).size; simp; omega
        intro v' w5 ho5 hg5 _
        have HF : Hid (rpOwn w5 W2.heap.size v' (mgL [] (M.take (k + 1))) ∧ Below W2.heap.size W2 w5) := Lib.hid (by
          rw [HNX.out, mgR_nil]
          refine ⟨?_, ((HB4.out).alloc (HB4.out).size _).grown hg5 (by have := (HB4.out).size; simp; omega) (fun j hj => (HO4.out.lt j hj).1)⟩
          unfold rpOwn
          rw [show rwC rpC [r] = rwC rpC [] ++ rpC r by simp [rwC]]
          exact ho5)
        clear ho5 hg5
        go_wp2_with fail
        go_roundw
        case rel => exact ⟨k + 1, v', by omega, by go_num, rfl, HF.out.1, HF.out.2⟩
        case measure => simp [intOf]; omega
      · rw [List.concat_eq_append] at hA
        subst hA
        have hlen : (A' ++ [o]).length = A'.length + 1 := by simp
        have HLEN := Lib.hid hlen
        rw [hlen] at hal ⊢
        clear hlen
        generalize hal' : A'.length = a at *
        have HAL := Lib.hid hal'
        clear hal'
        have s7 : IntKind.i64.wrap (((a + 1 : Nat) : Int) - 1) = (a : Int) := (IntWalk.i64_in _ (by omega)).trans (by omega)
        have s8 : IntKind.i64.wrap ((a : Int) + 1 - 1) = (a : Int) := (IntWalk.i64_in _ (by omega)).trans (by omega)
        have s9 : IntKind.i64.wrap (a : Int) = (a : Int) := IntWalk.i64_in _ (by omega)
        go_upto_region 8 with (fail)
        obtain ⟨gb, rfl, hgb, hgbl⟩ := own_some HO3.out (by simp)
        have HCO : Hid (RwCells W3 gb (a * 14) (rpC o)) := Lib.hid (by
          obtain ⟨g', off', e, _, hx⟩ := rw_at' (d := noRp) rpC_len HO3.out a (by rw [HLEN.out]; omega)
          injection e with e
          simp only [Addr.mk.injEq, and_true] at e
          obtain ⟨rfl, rfl⟩ := e
          rw [Nat.zero_add, show (A' ++ [o]).getD a noRp = o from by rw [← HAL.out]; simp [List.getD_eq_getElem?_getD]] at hx
          exact hx)
        have gbP : gb < P := HNP.out gb rfl
        have sa1 : (a : Int) < ((a + 1 : Nat) : Int) := by omega
        have sa2 : (a : Int) < (a : Int) + 1 := by omega
        obtain ⟨cv, hcv⟩ : ∃ cv : Bool, (cmpR o r == 0) = cv := ⟨_, rfl⟩
        have HCV : Hid ((cmpR o r = 0) = (cv = true)) := Lib.hid (by rw [← hcv]; simp)
        go_cut [30] from 20 to 29 (fun v30 wc => v30 = .bool cv ∧ Below W3.heap.size W3 wc)
        case first =>
          refine wp_region_exact 10 (fun f' => ⟨#[.slice (some ⟨g, off, none⟩) L.length cap1, undef, .slice none 0 0, .slice (some ⟨gb, 0, none⟩) (a + 1) cb, undef, .pointer (some ⟨P, 0, none⟩), .int .i64 a, .slice A L.length cap, .slice (some ⟨g, off, none⟩) L.length cap1, .slice (some ⟨g, off, none⟩) L.length cap1, .tuple #[], .slice (some ⟨g, off, none⟩) L.length cap1, .int .i64 L.length, .int .i64 k, .bool true, .pointer (some ⟨g, off + k * 14, none⟩), .agg (rpC r).toArray, .slice (some ⟨gb, 0, none⟩) (a + 1) cb, .int .i64 (↑a + 1), .int .i64 a, f' 0, f' 1, f' 2, f' 3, f' 4, f' 5, f' 6, f' 7, f' 8, f' 9, u30, u31, u32, u33, u34, u35, u36, u37, u38, u39, u40, u41, u42, u43, u44, u45, u46, u47, u48, u49, u50, u51, u52, u53, u54, u55, u56, u57, u58, u59, u60, u61, undef], []⟩) (fun i => match i with | 0 => .int .i64 a | 1 => .bool true | 2 => .bool true | 3 => .slice (some ⟨gb, 0, none⟩) (a + 1) cb | 4 => .int .i64 a | 5 => .pointer (some ⟨gb, a * 14, none⟩) | 6 => .agg (rpA o) | 7 => .agg (rpA r) | 8 => .int .i64 (cmpR o r) | 9 => .bool cv | _ => undef) (fun lb w' => Hid (Below W3.heap.size W3 w')) (fun i => match i with | 0 => u20 | 1 => u21 | 2 => u22 | 3 => u23 | 4 => u24 | 5 => u25 | 6 => u26 | 7 => u27 | 8 => u28 | 9 => u29 | _ => undef) 10 (show Tryz.prog.follows .mixedOrders = true from by kernel_rfl) (by kernel_rfl) ?_ ?_ (Lib.hid (Below.refl _ _).drew)
          · intro i op hi ho lb f' w' hl hS hd
            have hcase : i = 0 ∨ i = 1 ∨ i = 2 ∨ i = 3 ∨ i = 4 ∨ i = 5 ∨ i = 6 ∨ i = 7 ∨ i = 8 ∨ i = 9 := by omega
            rcases hcase with rfl | rfl | rfl | rfl | rfl | rfl | rfl | rfl | rfl | rfl <;> (replace ho := Option.some.inj ho; subst ho)
            · refine OpStep.of rfl ?_
              unfold Oper.wp
              go_simp
              first | exact ⟨by first | (simp [upd]; done) | (simp [upd]; omega), hS⟩ | (simp [upd]; done) | (simp [upd]; omega)
            · have e0 : f' 0 = .int .i64 a := (hd ⟨0, .data⟩ (by simp) rfl).2
              refine OpStep.of rfl ?_
              unfold Oper.wp
              go_simp
              first | exact ⟨by first | (simp [upd, e0]; done) | (simp [upd, e0]; omega), hS⟩ | (simp [upd, e0]; done) | (simp [upd, e0]; omega)
            · have e1 : f' 1 = .bool true := (hd ⟨1, .data⟩ (by simp) rfl).2
              refine OpStep.of rfl ?_
              unfold Oper.wp
              go_simp
              first | exact ⟨by first | (simp [upd, e1]; done) | (simp [upd, e1]; omega), hS⟩ | (simp [upd, e1]; done) | (simp [upd, e1]; omega)
            · refine OpStep.of (by have e2 : f' 2 = .bool true := (hd ⟨2, .guard⟩ (by simp) rfl).2; simp [Region.wanted, yielded, e2]) ?_
              unfold Oper.wp
              go_simp
              first | exact ⟨by first | (simp [upd]; done) | (simp [upd]; omega), hS⟩ | (simp [upd]; done) | (simp [upd]; omega)
            · refine OpStep.of (by have e2 : f' 2 = .bool true := (hd ⟨2, .guard⟩ (by simp) rfl).2; simp [Region.wanted, yielded, e2]) ?_
              unfold Oper.wp
              go_simp
              first | exact ⟨by first | (simp [upd]; done) | (simp [upd]; omega), hS⟩ | (simp [upd]; done) | (simp [upd]; omega)
            · have e3 : f' 3 = .slice (some ⟨gb, 0, none⟩) (a + 1) cb := (hd ⟨3, .data⟩ (by simp) rfl).2
              have e4 : f' 4 = .int .i64 a := (hd ⟨4, .data⟩ (by simp) rfl).2
              refine OpStep.of (by have e2 : f' 2 = .bool true := (hd ⟨2, .guard⟩ (by simp) rfl).2; simp [Region.wanted, yielded, e2]) ?_
              unfold Oper.wp
              go_simp
              first | exact ⟨by first | (simp [upd, e3, e4]; done) | (simp [upd, e3, e4]; omega), hS⟩ | (simp [upd, e3, e4]; done) | (simp [upd, e3, e4]; omega)
            · have e5 : f' 5 = .pointer (some ⟨gb, a * 14, none⟩) := (hd ⟨5, .data⟩ (by simp) rfl).2
              refine OpStep.of (by have e2 : f' 2 = .bool true := (hd ⟨2, .guard⟩ (by simp) rfl).2; simp [Region.wanted, yielded, e2]) ?_
              refine load_stepR e5 (HCO.out.keep (fun p hp => World.cell?_of_block (w := W3) (hS.out.block p.block (by rw [hp]; exact hgbl)))) (by kernel_rfl) rfl (by kernel_rfl) ?_
              exact ⟨rfl, hS⟩
            · refine OpStep.of (by have e2 : f' 2 = .bool true := (hd ⟨2, .guard⟩ (by simp) rfl).2; simp [Region.wanted, yielded, e2]) ?_
              refine load_step rfl ((hS.out.block P lP).trans H3.out) (by kernel_rfl) (by kernel_rfl) ?_
              exact ⟨rfl, hS⟩
            · have e6 : f' 6 = .agg (rpA o) := (hd ⟨6, .data⟩ (by simp) rfl).2
              have e7 : f' 7 = .agg (rpA r) := (hd ⟨7, .data⟩ (by simp) rfl).2
              refine OpStep.of (by have e2 : f' 2 = .bool true := (hd ⟨2, .guard⟩ (by simp) rfl).2; simp [Region.wanted, yielded, e2]) ?_
              unfold Oper.wp
              go_simp
              refine (compareReports_any o r w').mono ?_
              rintro e w9 ⟨rfl, hb9⟩
              exact ⟨by simp [upd, e6, e7], Lib.hid (hS.out.trans (hb9.mono hS.out.size))⟩
            · have e8 : f' 8 = .int .i64 (cmpR o r) := (hd ⟨8, .data⟩ (by simp) rfl).2
              refine OpStep.of (by have e2 : f' 2 = .bool true := (hd ⟨2, .guard⟩ (by simp) rfl).2; simp [Region.wanted, yielded, e2]) ?_
              unfold Oper.wp
              go_simp
              first | exact ⟨by first | (simp [upd, e8]; done) | (simp [upd, e8]; omega), hS⟩ | (simp [upd, e8]; done) | (simp [upd, e8]; omega)
          · intro op ho lb f' w' hd hS
            have e2 : f' 2 = .bool true := (hd 2 (by omega)).2
            have e9 : f' 9 = .bool cv := (hd 9 (by omega)).2
            replace ho := Option.some.inj ho
            subst ho
            refine ⟨rfl, ?_⟩
            unfold Oper.wp
            go_simp
            go_step
            go_meet
            exact ⟨rfl, hS.out⟩
        case rest =>
        obtain ⟨rfl, hbc⟩ := hcut
        obtain ⟨W4, rfl⟩ : ∃ W4 : World, W4 = wc := ⟨_, rfl⟩
        have HB4 : Hid (Below W2.heap.size W2 W4) := Lib.hid (HB3.out.trans (hbc.mono HB3.out.size))
        have HO4 : Hid (rpOwn W4 W2.heap.size (.slice (some ⟨gb, 0, none⟩) (A' ++ [o]).length cb) (A' ++ [o])) := Lib.hid (rw_same HO3.out (fun q hq => hbc.block q (HO3.out.lt q hq).2))
        have H4 := Lib.hid ((hbc.block P lP).trans H3.out)
        clear hbc
        have hgb4 : gb < W4.heap.size := (HO4.out.lt gb rfl).2
        clear hcv
        cases cv
        · have hne : ¬ cmpR o r = 0 := by rw [HCV.out]; decide
          have HNE := Lib.hid hne
          clear hne
          have HO4' : Hid (W4.ownsRow W2.heap.size 39 14 (.slice (some ⟨gb, 0, none⟩) (a + 1) cb) (a + 1) (rwC rpC (A' ++ [o]))) := Lib.hid (by
            have h1 := HO4.out
            unfold rpOwn at h1
            rw [HLEN.out] at h1
            exact h1)
          have hE : W4.heap[P]? = some (.cells #[.string r.node, .int .i64 r.hour, .bool r.out, .int .i64 r.f.proto, .bool r.f.s6, .int .u64 r.f.sh, .int .u64 r.f.sl, .bool r.f.t6, .int .u64 r.f.th, .int .u64 r.f.tl, .int .i64 r.f.fp, .int .i64 r.f.tp, .int .i64 r.pk, .int .i64 r.by_] 39 (0, 0)) := H4.out
          have HE := Lib.hid hE
          clear hE
          go_upto_region 11 with (fail)
          first | refine load_step rfl HE.out (by kernel_rfl) (by kernel_rfl) ?_ | (go_step; first | refine load_step rfl HE.out (by kernel_rfl) (by kernel_rfl) ?_ | (go_step; first | refine load_step rfl HE.out (by kernel_rfl) (by kernel_rfl) ?_ | (go_step; first | refine load_step rfl HE.out (by kernel_rfl) (by kernel_rfl) ?_ | (go_step; first | refine load_step rfl HE.out (by kernel_rfl) (by kernel_rfl) ?_ | (go_step; first | refine load_step rfl HE.out (by kernel_rfl) (by kernel_rfl) ?_ | (go_step; first | refine load_step rfl HE.out (by kernel_rfl) (by kernel_rfl) ?_ | (go_step; first | refine load_step rfl HE.out (by kernel_rfl) (by kernel_rfl) ?_ | (go_step; first | refine load_step rfl HE.out (by kernel_rfl) (by kernel_rfl) ?_ | (go_step; first | refine load_step rfl HE.out (by kernel_rfl) (by kernel_rfl) ?_ | (go_step; first | refine load_step rfl HE.out (by kernel_rfl) (by kernel_rfl) ?_ | (go_step; first | refine load_step rfl HE.out (by kernel_rfl) (by kernel_rfl) ?_ | (go_step; first | refine load_step rfl HE.out (by kernel_rfl) (by kernel_rfl) ?_ | (go_step; first | refine load_step rfl HE.out (by kernel_rfl) (by kernel_rfl) ?_ | (go_step; refine load_step rfl HE.out (by kernel_rfl) (by kernel_rfl) ?_))))))))))))))
          go_wp2_with (at_builtin; refine wpList_append_own _ rfl (.tmp 57) (.tmp 59) 26 rfl W2.heap.size 39 i0 (.agg #[.string ⟨#[]⟩, .int .i64 0, .bool false, .int .i64 0, .bool false, .int .u64 0, .int .u64 0, .bool false, .int .u64 0, .int .u64 0, .int .i64 0, .int .i64 0, .int .i64 0, .int .i64 0]) 14 120 Tryz.underlying26 hi hz0 hz1 hz2 rfl (by decide) _ _ _ rfl (World.ownsRow.alloc HO4'.out _) ⟨W4.heap.size, 0, none⟩ 1 1 (rpC r) rfl rfl ?d1 ?d2 ?d3 ?d4 ?d5 ?_)
          case d1 => exact cells_new14 W4 (rpC r) _
          case d2 => exact rpC_one r
          case d3 => first | (unfold maxLen; simp; done) | (unfold maxLen; omega)
          case d4 => first | (simp; done) | omega
          case d5 => have h8 := (HB4.out).size; simp; omega
          intro v' w5 ho5 hg5 _
          have HF : Hid (rpOwn w5 W2.heap.size v' (mgL [] (M.take (k + 1))) ∧ Below W2.heap.size W2 w5) := Lib.hid (by
            rw [HNX.out, mgR_snoc, if_neg HNE.out]
            refine ⟨?_, ((HB4.out).alloc (HB4.out).size _).grown hg5 (by have := (HB4.out).size; simp; omega) (fun j hj => (HO4'.out.lt j hj).1)⟩
            unfold rpOwn
            rw [List.length_append, HLEN.out, show rwC rpC ((A' ++ [o]) ++ [r]) = rwC rpC ((A' ++ [o])) ++ rpC r by simp [rwC]]
            exact ho5)
          clear ho5 hg5
          go_wp2_with fail
          go_roundw
          case rel => exact ⟨k + 1, v', by omega, by go_num, rfl, HF.out.1, HF.out.2⟩
          case measure => simp [intOf]; omega
        · have heq : cmpR o r = 0 := by rw [HCV.out]
          have HEQ := Lib.hid heq
          clear heq
          have hro : 0 ≤ o.pk ∧ o.pk ≤ 1000000000000 ∧ 0 ≤ r.pk ∧ r.pk ≤ 1000000000000 := ⟨(HAN.out o (by simp)).1.1, (HAN.out o (by simp)).1.2, HRN.out.1.1, HRN.out.1.2⟩
          have sw : IntKind.i64.wrap (o.pk + r.pk) = o.pk + r.pk := IntWalk.i64_in _ (by omega)
          obtain ⟨mv, hmv⟩ : ∃ mv : Int, min (o.pk + r.pk) 1000000000000 = mv := ⟨_, rfl⟩
          have HMV := Lib.hid hmv
          have HW := Lib.hid sw
          clear hro
          have gb9 : gb < W4.heap.size := (HO4.out.lt gb rfl).2
          have hco : RwCells W4 gb (a * 14) (rpC o) := by
            obtain ⟨g', off', e, _, hx⟩ := rw_at' (d := noRp) rpC_len HO4.out a (by rw [List.length_append, HAL.out]; simp)
            injection e with e
            simp only [Addr.mk.injEq, and_true] at e
            obtain ⟨rfl, rfl⟩ := e
            rw [Nat.zero_add, show (A' ++ [o]).getD a noRp = o from by rw [← HAL.out]; simp [List.getD_eq_getElem?_getD]] at hx
            exact hx
          have HC9 : Hid (W4.cell? ⟨gb, a * 14 + 12, none⟩ = some (.int .i64 o.pk)) := Lib.hid (hco 12 _ rfl)
          have HR9 : Hid (W4.cell? ⟨P, 12, none⟩ = some (.int .i64 r.pk)) := Lib.hid (cell_of H4.out 12)
          have hz9 := fun j => rw_froz HO4.out j
          have HZ9 := Lib.hid hz9
          have lP9 : P < W4.heap.size := lt_of_block H4.out
          clear hco hz9 hmv
          go_upto_region 9 with (fail)
          go_cut [] from 31 to 43 (fun wc => rpOwn wc W2.heap.size (.slice (some ⟨gb, 0, none⟩) (A' ++ [{ o with pk := min (o.pk + r.pk) 1000000000000 }]).length cb) (A' ++ [{ o with pk := min (o.pk + r.pk) 1000000000000 }]) ∧ wc.heap[P]? = some (.cells (rpA r) 39 (0, 0)) ∧ Below W2.heap.size W2 wc)
          case first =>
            refine wp_region_exact 13 (fun f' => ⟨#[.slice (some ⟨g, off, none⟩) L.length cap1, undef, .slice none 0 0, .slice (some ⟨gb, 0, none⟩) (a + 1) cb, undef, .pointer (some ⟨P, 0, none⟩), .int .i64 a, .slice A L.length cap, .slice (some ⟨g, off, none⟩) L.length cap1, .slice (some ⟨g, off, none⟩) L.length cap1, .tuple #[], .slice (some ⟨g, off, none⟩) L.length cap1, .int .i64 L.length, .int .i64 k, .bool true, .pointer (some ⟨g, off + k * 14, none⟩), .agg (rpC r).toArray, .slice (some ⟨gb, 0, none⟩) (a + 1) cb, .int .i64 (↑a + 1), .int .i64 a, u20, u21, u22, u23, u24, u25, u26, u27, u28, u29, .bool true, f' 0, f' 1, f' 2, f' 3, f' 4, f' 5, f' 6, f' 7, f' 8, f' 9, f' 10, f' 11, f' 12, u44, u45, u46, u47, u48, u49, u50, u51, u52, u53, u54, u55, u56, u57, u58, u59, u60, u61, undef], []⟩) (fun i => match i with | 0 => .slice (some ⟨gb, 0, none⟩) (a + 1) cb | 1 => .int .i64 a | 2 => .slice (some ⟨gb, 0, none⟩) (a + 1) cb | 3 => .int .i64 a | 4 => .pointer (some ⟨gb, a * 14, none⟩) | 5 => .pointer (some ⟨gb, a * 14 + 12, none⟩) | 6 => .int .i64 o.pk | 7 => .pointer (some ⟨P, 12, none⟩) | 8 => .int .i64 r.pk | 9 => .int .i64 (o.pk + r.pk) | 10 => .int .i64 mv | 11 => .pointer (some ⟨gb, a * 14, none⟩) | 12 => .pointer (some ⟨gb, a * 14 + 12, none⟩) | _ => undef) (fun lb w' => Hid (Below W4.heap.size W4 w')) (fun i => match i with | 0 => u31 | 1 => u32 | 2 => u33 | 3 => u34 | 4 => u35 | 5 => u36 | 6 => u37 | 7 => u38 | 8 => u39 | 9 => u40 | 10 => u41 | 11 => u42 | 12 => u43 | _ => undef) 10 (show Tryz.prog.follows .mixedOrders = true from by kernel_rfl) (by kernel_rfl) ?_ ?_ (Lib.hid (Below.refl _ _).drew)
            · intro i op hi ho lb f' w' hl hS hd
              have cX : w'.cell? ⟨gb, a * 14 + 12, none⟩ = some (.int .i64 o.pk) := (World.cell?_of_block (w := W4) (a := ⟨gb, a * 14 + 12, none⟩) (hS.out.block gb gb9)).trans HC9.out
              have cR : w'.cell? ⟨P, 12, none⟩ = some (.int .i64 r.pk) := (World.cell?_of_block (w := W4) (a := ⟨P, 12, none⟩) (hS.out.block P lP9)).trans HR9.out
              have cZ : w'.frozen? ⟨gb, a * 14 + 12, none⟩ = false := (World.frozen?_of_block (w := W4) (a := ⟨gb, a * 14 + 12, none⟩) (hS.out.block gb gb9)).trans (HZ9.out _)
              have cL : gb < w'.heap.size := Nat.lt_of_lt_of_le gb9 hS.out.size
              have hcase : i = 0 ∨ i = 1 ∨ i = 2 ∨ i = 3 ∨ i = 4 ∨ i = 5 ∨ i = 6 ∨ i = 7 ∨ i = 8 ∨ i = 9 ∨ i = 10 ∨ i = 11 ∨ i = 12 := by omega
              rcases hcase with rfl | rfl | rfl | rfl | rfl | rfl | rfl | rfl | rfl | rfl | rfl | rfl | rfl <;> (replace ho := Option.some.inj ho; subst ho)
              · refine OpStep.of rfl ?_
                unfold Oper.wp
                go_simp
                first | exact ⟨by first | (simp [upd]; done) | (simp [upd]; omega), hS⟩ | (simp [upd]; done) | (simp [upd]; omega)
              · refine OpStep.of rfl ?_
                unfold Oper.wp
                go_simp
                first | exact ⟨by first | (simp [upd]; done) | (simp [upd]; omega), hS⟩ | (simp [upd]; done) | (simp [upd]; omega)
              · refine OpStep.of rfl ?_
                unfold Oper.wp
                go_simp
                first | exact ⟨by first | (simp [upd]; done) | (simp [upd]; omega), hS⟩ | (simp [upd]; done) | (simp [upd]; omega)
              · refine OpStep.of rfl ?_
                unfold Oper.wp
                go_simp
                first | exact ⟨by first | (simp [upd]; done) | (simp [upd]; omega), hS⟩ | (simp [upd]; done) | (simp [upd]; omega)
              · have e2 : f' 2 = .slice (some ⟨gb, 0, none⟩) (a + 1) cb := (hd ⟨2, .data⟩ (by simp) rfl).2
                have e3 : f' 3 = .int .i64 a := (hd ⟨3, .data⟩ (by simp) rfl).2
                refine OpStep.of rfl ?_
                unfold Oper.wp
                go_simp
                first | exact ⟨by first | (simp [upd, e2, e3]; done) | (simp [upd, e2, e3]; omega), hS⟩ | (simp [upd, e2, e3]; done) | (simp [upd, e2, e3]; omega)
              · have e4 : f' 4 = .pointer (some ⟨gb, a * 14, none⟩) := (hd ⟨4, .data⟩ (by simp) rfl).2
                refine OpStep.of rfl ?_
                unfold Oper.wp
                go_simp
                first | exact ⟨by first | (simp [upd, e4]; done) | (simp [upd, e4]; omega), hS⟩ | (simp [upd, e4]; done) | (simp [upd, e4]; omega)
              · have e5 : f' 5 = .pointer (some ⟨gb, a * 14 + 12, none⟩) := (hd ⟨5, .data⟩ (by simp) rfl).2
                refine OpStep.of rfl ?_
                unfold Oper.wp
                go_simp
                first | exact ⟨by first | (simp [upd, e5]; done) | (simp [upd, e5]; omega), hS⟩ | (simp [upd, e5]; done) | (simp [upd, e5]; omega)
              · refine OpStep.of rfl ?_
                unfold Oper.wp
                go_simp
                first | exact ⟨by first | (simp [upd]; done) | (simp [upd]; omega), hS⟩ | (simp [upd]; done) | (simp [upd]; omega)
              · have e7 : f' 7 = .pointer (some ⟨P, 12, none⟩) := (hd ⟨7, .data⟩ (by simp) rfl).2
                refine OpStep.of rfl ?_
                unfold Oper.wp
                go_simp
                first | exact ⟨by first | (simp [upd, e7]; done) | (simp [upd, e7]; omega), hS⟩ | (simp [upd, e7]; done) | (simp [upd, e7]; omega)
              · have e6 : f' 6 = .int .i64 o.pk := (hd ⟨6, .data⟩ (by simp) rfl).2
                have e8 : f' 8 = .int .i64 r.pk := (hd ⟨8, .data⟩ (by simp) rfl).2
                refine OpStep.of rfl ?_
                unfold Oper.wp
                go_simp
                first | exact ⟨by first | (simp [upd, e6, e8]; done) | (simp [upd, e6, e8]; omega), hS⟩ | (simp [upd, e6, e8]; done) | (simp [upd, e6, e8]; omega)
              · have e9 : f' 9 = .int .i64 (o.pk + r.pk) := (hd ⟨9, .data⟩ (by simp) rfl).2
                refine OpStep.of rfl ?_
                unfold Oper.wp
                go_simp
                first | exact ⟨by simp [upd, e9, HMV.out], hS⟩ | simp [upd, e9, HMV.out]
              · have e0 : f' 0 = .slice (some ⟨gb, 0, none⟩) (a + 1) cb := (hd ⟨0, .data⟩ (by simp) rfl).2
                have e1 : f' 1 = .int .i64 a := (hd ⟨1, .data⟩ (by simp) rfl).2
                refine OpStep.of rfl ?_
                unfold Oper.wp
                go_simp
                first | exact ⟨by first | (simp [upd, e0, e1]; done) | (simp [upd, e0, e1]; omega), hS⟩ | (simp [upd, e0, e1]; done) | (simp [upd, e0, e1]; omega)
              · have e11 : f' 11 = .pointer (some ⟨gb, a * 14, none⟩) := (hd ⟨11, .data⟩ (by simp) rfl).2
                refine OpStep.of rfl ?_
                unfold Oper.wp
                go_simp
                first | exact ⟨by first | (simp [upd, e11]; done) | (simp [upd, e11]; omega), hS⟩ | (simp [upd, e11]; done) | (simp [upd, e11]; omega)
            · intro op ho lb f' w' hd hS
              have cX : w'.cell? ⟨gb, a * 14 + 12, none⟩ = some (.int .i64 o.pk) := (World.cell?_of_block (w := W4) (a := ⟨gb, a * 14 + 12, none⟩) (hS.out.block gb gb9)).trans HC9.out
              have cR : w'.cell? ⟨P, 12, none⟩ = some (.int .i64 r.pk) := (World.cell?_of_block (w := W4) (a := ⟨P, 12, none⟩) (hS.out.block P lP9)).trans HR9.out
              have cZ : w'.frozen? ⟨gb, a * 14 + 12, none⟩ = false := (World.frozen?_of_block (w := W4) (a := ⟨gb, a * 14 + 12, none⟩) (hS.out.block gb gb9)).trans (HZ9.out _)
              have cL : gb < w'.heap.size := Nat.lt_of_lt_of_le gb9 hS.out.size
              have e10 : f' 10 = .int .i64 mv := (hd 10 (by omega)).2
              have e12 : f' 12 = .pointer (some ⟨gb, a * 14 + 12, none⟩) := (hd 12 (by omega)).2
              replace ho := Option.some.inj ho
              subst ho
              refine ⟨rfl, ?_⟩
              have HFI := Lib.hid (store1 (M := A' ++ [o]) (o' := { o with pk := min (o.pk + r.pk) 1000000000000 }) rpC_len HO4.out hS.out (by rw [List.length_append, HAL.out]; simp) (show 12 < 14 by omega) (.int .i64 mv) (by rw [← HAL.out, show (A' ++ [o]).getD A'.length noRp = o from by simp [List.getD_eq_getElem?_getD], ← HMV.out]; rfl) (show (A' ++ [o]).set a ({ o with pk := min (o.pk + r.pk) 1000000000000 }) = A' ++ [{ o with pk := min (o.pk + r.pk) 1000000000000 }] by rw [← HAL.out]; simp) H4.out lP9 HB4.out (Nat.ne_of_lt gbP) hgb)
              unfold Oper.wp
              go_simp
              go_step
              go_meet
              exact HFI.out
          case rest =>
          obtain ⟨ho9, h9, hb9⟩ := hcut
          obtain ⟨W5, rfl⟩ : ∃ W9 : World, W9 = wc := ⟨_, rfl⟩
          have HO5 := Lib.hid ho9
          have H5 := Lib.hid h9
          have HB5 := Lib.hid hb9
          clear ho9 h9 hb9 HC9 HR9 HZ9 gb9 lP9 sw HW HMV
          obtain ⟨o1, ho1⟩ : ∃ o1 : Rp, { o with pk := min (o.pk + r.pk) 1000000000000 } = o1 := ⟨_, rfl⟩
          rw [ho1] at HO5
          have HQ1 := Lib.hid ho1
          have hb1' : o1.by_ = o.by_ := by rw [← ho1]
          clear ho1
          have HAN : Hid (∀ x ∈ A' ++ [o1], RpN x) := Lib.hid (fun x hx => by
            rcases List.mem_append.1 hx with hx | hx
            · exact HAN.out x (by simp [hx])
            · have h1 := HAN.out o (by simp)
              have h2 := HRN.out
              rw [List.mem_singleton.1 hx, ← HQ1.out]
              exact ⟨⟨by have := h1.1; have := h2.1; show 0 ≤ min (o.pk + r.pk) 1000000000000; omega, by show min (o.pk + r.pk) 1000000000000 ≤ 1000000000000; omega⟩, h1.2⟩)
          clear hb1'
          have hro : 0 ≤ o1.by_ ∧ o1.by_ ≤ 1000000000000 ∧ 0 ≤ r.by_ ∧ r.by_ ≤ 1000000000000 := ⟨(HAN.out o1 (by simp)).2.1, (HAN.out o1 (by simp)).2.2, HRN.out.2.1, HRN.out.2.2⟩
          have sw : IntKind.i64.wrap (o1.by_ + r.by_) = o1.by_ + r.by_ := IntWalk.i64_in _ (by omega)
          obtain ⟨mv, hmv⟩ : ∃ mv : Int, min (o1.by_ + r.by_) 1000000000000 = mv := ⟨_, rfl⟩
          have HMV := Lib.hid hmv
          have HW := Lib.hid sw
          clear hro
          have gb9 : gb < W5.heap.size := (HO5.out.lt gb rfl).2
          have hco : RwCells W5 gb (a * 14) (rpC o1) := by
            obtain ⟨g', off', e, _, hx⟩ := rw_at' (d := noRp) rpC_len HO5.out a (by rw [List.length_append, HAL.out]; simp)
            injection e with e
            simp only [Addr.mk.injEq, and_true] at e
            obtain ⟨rfl, rfl⟩ := e
            rw [Nat.zero_add, show (A' ++ [o1]).getD a noRp = o1 from by rw [← HAL.out]; simp [List.getD_eq_getElem?_getD]] at hx
            exact hx
          have HC9 : Hid (W5.cell? ⟨gb, a * 14 + 13, none⟩ = some (.int .i64 o1.by_)) := Lib.hid (hco 13 _ rfl)
          have HR9 : Hid (W5.cell? ⟨P, 13, none⟩ = some (.int .i64 r.by_)) := Lib.hid (cell_of H5.out 13)
          have hz9 := fun j => rw_froz HO5.out j
          have HZ9 := Lib.hid hz9
          have lP9 : P < W5.heap.size := lt_of_block H5.out
          clear hco hz9 hmv
          go_upto_region 10 with (fail)
          go_cut [] from 44 to 56 (fun wc => rpOwn wc W2.heap.size (.slice (some ⟨gb, 0, none⟩) (A' ++ [{ o1 with by_ := min (o1.by_ + r.by_) 1000000000000 }]).length cb) (A' ++ [{ o1 with by_ := min (o1.by_ + r.by_) 1000000000000 }]) ∧ wc.heap[P]? = some (.cells (rpA r) 39 (0, 0)) ∧ Below W2.heap.size W2 wc)
          case first =>
            refine wp_region_exact 13 (fun f' => ⟨#[.slice (some ⟨g, off, none⟩) L.length cap1, undef, .slice none 0 0, .slice (some ⟨gb, 0, none⟩) (a + 1) cb, undef, .pointer (some ⟨P, 0, none⟩), .int .i64 a, .slice A L.length cap, .slice (some ⟨g, off, none⟩) L.length cap1, .slice (some ⟨g, off, none⟩) L.length cap1, .tuple #[], .slice (some ⟨g, off, none⟩) L.length cap1, .int .i64 L.length, .int .i64 k, .bool true, .pointer (some ⟨g, off + k * 14, none⟩), .agg (rpC r).toArray, .slice (some ⟨gb, 0, none⟩) (a + 1) cb, .int .i64 (↑a + 1), .int .i64 a, u20, u21, u22, u23, u24, u25, u26, u27, u28, u29, .bool true, u31, u32, u33, u34, u35, u36, u37, u38, u39, u40, u41, u42, u43, f' 0, f' 1, f' 2, f' 3, f' 4, f' 5, f' 6, f' 7, f' 8, f' 9, f' 10, f' 11, f' 12, u57, u58, u59, u60, u61, undef], []⟩) (fun i => match i with | 0 => .slice (some ⟨gb, 0, none⟩) (a + 1) cb | 1 => .int .i64 a | 2 => .slice (some ⟨gb, 0, none⟩) (a + 1) cb | 3 => .int .i64 a | 4 => .pointer (some ⟨gb, a * 14, none⟩) | 5 => .pointer (some ⟨gb, a * 14 + 13, none⟩) | 6 => .int .i64 o1.by_ | 7 => .pointer (some ⟨P, 13, none⟩) | 8 => .int .i64 r.by_ | 9 => .int .i64 (o1.by_ + r.by_) | 10 => .int .i64 mv | 11 => .pointer (some ⟨gb, a * 14, none⟩) | 12 => .pointer (some ⟨gb, a * 14 + 13, none⟩) | _ => undef) (fun lb w' => Hid (Below W5.heap.size W5 w')) (fun i => match i with | 0 => u44 | 1 => u45 | 2 => u46 | 3 => u47 | 4 => u48 | 5 => u49 | 6 => u50 | 7 => u51 | 8 => u52 | 9 => u53 | 10 => u54 | 11 => u55 | 12 => u56 | _ => undef) 10 (show Tryz.prog.follows .mixedOrders = true from by kernel_rfl) (by kernel_rfl) ?_ ?_ (Lib.hid (Below.refl _ _).drew)
            · intro i op hi ho lb f' w' hl hS hd
              have cX : w'.cell? ⟨gb, a * 14 + 13, none⟩ = some (.int .i64 o1.by_) := (World.cell?_of_block (w := W5) (a := ⟨gb, a * 14 + 13, none⟩) (hS.out.block gb gb9)).trans HC9.out
              have cR : w'.cell? ⟨P, 13, none⟩ = some (.int .i64 r.by_) := (World.cell?_of_block (w := W5) (a := ⟨P, 13, none⟩) (hS.out.block P lP9)).trans HR9.out
              have cZ : w'.frozen? ⟨gb, a * 14 + 13, none⟩ = false := (World.frozen?_of_block (w := W5) (a := ⟨gb, a * 14 + 13, none⟩) (hS.out.block gb gb9)).trans (HZ9.out _)
              have cL : gb < w'.heap.size := Nat.lt_of_lt_of_le gb9 hS.out.size
              have hcase : i = 0 ∨ i = 1 ∨ i = 2 ∨ i = 3 ∨ i = 4 ∨ i = 5 ∨ i = 6 ∨ i = 7 ∨ i = 8 ∨ i = 9 ∨ i = 10 ∨ i = 11 ∨ i = 12 := by omega
              rcases hcase with rfl | rfl | rfl | rfl | rfl | rfl | rfl | rfl | rfl | rfl | rfl | rfl | rfl <;> (replace ho := Option.some.inj ho; subst ho)
              · refine OpStep.of rfl ?_
                unfold Oper.wp
                go_simp
                first | exact ⟨by first | (simp [upd]; done) | (simp [upd]; omega), hS⟩ | (simp [upd]; done) | (simp [upd]; omega)
              · refine OpStep.of rfl ?_
                unfold Oper.wp
                go_simp
                first | exact ⟨by first | (simp [upd]; done) | (simp [upd]; omega), hS⟩ | (simp [upd]; done) | (simp [upd]; omega)
              · refine OpStep.of rfl ?_
                unfold Oper.wp
                go_simp
                first | exact ⟨by first | (simp [upd]; done) | (simp [upd]; omega), hS⟩ | (simp [upd]; done) | (simp [upd]; omega)
              · refine OpStep.of rfl ?_
                unfold Oper.wp
                go_simp
                first | exact ⟨by first | (simp [upd]; done) | (simp [upd]; omega), hS⟩ | (simp [upd]; done) | (simp [upd]; omega)
              · have e2 : f' 2 = .slice (some ⟨gb, 0, none⟩) (a + 1) cb := (hd ⟨2, .data⟩ (by simp) rfl).2
                have e3 : f' 3 = .int .i64 a := (hd ⟨3, .data⟩ (by simp) rfl).2
                refine OpStep.of rfl ?_
                unfold Oper.wp
                go_simp
                first | exact ⟨by first | (simp [upd, e2, e3]; done) | (simp [upd, e2, e3]; omega), hS⟩ | (simp [upd, e2, e3]; done) | (simp [upd, e2, e3]; omega)
              · have e4 : f' 4 = .pointer (some ⟨gb, a * 14, none⟩) := (hd ⟨4, .data⟩ (by simp) rfl).2
                refine OpStep.of rfl ?_
                unfold Oper.wp
                go_simp
                first | exact ⟨by first | (simp [upd, e4]; done) | (simp [upd, e4]; omega), hS⟩ | (simp [upd, e4]; done) | (simp [upd, e4]; omega)
              · have e5 : f' 5 = .pointer (some ⟨gb, a * 14 + 13, none⟩) := (hd ⟨5, .data⟩ (by simp) rfl).2
                refine OpStep.of rfl ?_
                unfold Oper.wp
                go_simp
                first | exact ⟨by first | (simp [upd, e5]; done) | (simp [upd, e5]; omega), hS⟩ | (simp [upd, e5]; done) | (simp [upd, e5]; omega)
              · refine OpStep.of rfl ?_
                unfold Oper.wp
                go_simp
                first | exact ⟨by first | (simp [upd]; done) | (simp [upd]; omega), hS⟩ | (simp [upd]; done) | (simp [upd]; omega)
              · have e7 : f' 7 = .pointer (some ⟨P, 13, none⟩) := (hd ⟨7, .data⟩ (by simp) rfl).2
                refine OpStep.of rfl ?_
                unfold Oper.wp
                go_simp
                first | exact ⟨by first | (simp [upd, e7]; done) | (simp [upd, e7]; omega), hS⟩ | (simp [upd, e7]; done) | (simp [upd, e7]; omega)
              · have e6 : f' 6 = .int .i64 o1.by_ := (hd ⟨6, .data⟩ (by simp) rfl).2
                have e8 : f' 8 = .int .i64 r.by_ := (hd ⟨8, .data⟩ (by simp) rfl).2
                refine OpStep.of rfl ?_
                unfold Oper.wp
                go_simp
                first | exact ⟨by first | (simp [upd, e6, e8]; done) | (simp [upd, e6, e8]; omega), hS⟩ | (simp [upd, e6, e8]; done) | (simp [upd, e6, e8]; omega)
              · have e9 : f' 9 = .int .i64 (o1.by_ + r.by_) := (hd ⟨9, .data⟩ (by simp) rfl).2
                refine OpStep.of rfl ?_
                unfold Oper.wp
                go_simp
                first | exact ⟨by simp [upd, e9, HMV.out], hS⟩ | simp [upd, e9, HMV.out]
              · have e0 : f' 0 = .slice (some ⟨gb, 0, none⟩) (a + 1) cb := (hd ⟨0, .data⟩ (by simp) rfl).2
                have e1 : f' 1 = .int .i64 a := (hd ⟨1, .data⟩ (by simp) rfl).2
                refine OpStep.of rfl ?_
                unfold Oper.wp
                go_simp
                first | exact ⟨by first | (simp [upd, e0, e1]; done) | (simp [upd, e0, e1]; omega), hS⟩ | (simp [upd, e0, e1]; done) | (simp [upd, e0, e1]; omega)
              · have e11 : f' 11 = .pointer (some ⟨gb, a * 14, none⟩) := (hd ⟨11, .data⟩ (by simp) rfl).2
                refine OpStep.of rfl ?_
                unfold Oper.wp
                go_simp
                first | exact ⟨by first | (simp [upd, e11]; done) | (simp [upd, e11]; omega), hS⟩ | (simp [upd, e11]; done) | (simp [upd, e11]; omega)
            · intro op ho lb f' w' hd hS
              have cX : w'.cell? ⟨gb, a * 14 + 13, none⟩ = some (.int .i64 o1.by_) := (World.cell?_of_block (w := W5) (a := ⟨gb, a * 14 + 13, none⟩) (hS.out.block gb gb9)).trans HC9.out
              have cR : w'.cell? ⟨P, 13, none⟩ = some (.int .i64 r.by_) := (World.cell?_of_block (w := W5) (a := ⟨P, 13, none⟩) (hS.out.block P lP9)).trans HR9.out
              have cZ : w'.frozen? ⟨gb, a * 14 + 13, none⟩ = false := (World.frozen?_of_block (w := W5) (a := ⟨gb, a * 14 + 13, none⟩) (hS.out.block gb gb9)).trans (HZ9.out _)
              have cL : gb < w'.heap.size := Nat.lt_of_lt_of_le gb9 hS.out.size
              have e10 : f' 10 = .int .i64 mv := (hd 10 (by omega)).2
              have e12 : f' 12 = .pointer (some ⟨gb, a * 14 + 13, none⟩) := (hd 12 (by omega)).2
              replace ho := Option.some.inj ho
              subst ho
              refine ⟨rfl, ?_⟩
              have HFI := Lib.hid (store1 (M := A' ++ [o1]) (o' := { o1 with by_ := min (o1.by_ + r.by_) 1000000000000 }) rpC_len HO5.out hS.out (by rw [List.length_append, HAL.out]; simp) (show 13 < 14 by omega) (.int .i64 mv) (by rw [← HAL.out, show (A' ++ [o1]).getD A'.length noRp = o1 from by simp [List.getD_eq_getElem?_getD], ← HMV.out]; rfl) (show (A' ++ [o1]).set a ({ o1 with by_ := min (o1.by_ + r.by_) 1000000000000 }) = A' ++ [{ o1 with by_ := min (o1.by_ + r.by_) 1000000000000 }] by rw [← HAL.out]; simp) H5.out lP9 HB5.out (Nat.ne_of_lt gbP) hgb)
              unfold Oper.wp
              go_simp
              go_step
              go_meet
              exact HFI.out
          case rest =>
          obtain ⟨ho9, h9, hb9⟩ := hcut
          obtain ⟨W6, rfl⟩ : ∃ W9 : World, W9 = wc := ⟨_, rfl⟩
          have HO6 := Lib.hid ho9
          have H6 := Lib.hid h9
          have HB6 := Lib.hid hb9
          clear ho9 h9 hb9 HC9 HR9 HZ9 gb9 lP9 sw HW HMV
          have HF : Hid (rpOwn W6 W2.heap.size (.slice (some ⟨gb, 0, none⟩) (a + 1) cb) (mgL [] (M.take (k + 1))) ∧ Below W2.heap.size W2 W6) := Lib.hid (by
            rw [HNX.out, mgR_snoc, if_pos HEQ.out]
            refine ⟨?_, HB6.out⟩
            have h1 := HO6.out
            rw [← HQ1.out] at h1
            have h2 : (A' ++ [addR o r]).length = a + 1 := by rw [List.length_append, HAL.out]; rfl
            unfold rpOwn at h1 ⊢
            rw [h2]
            have h3 : (A' ++ [({ ({ o with pk := min (o.pk + r.pk) 1000000000000 } : Rp) with by_ := min (o.by_ + r.by_) 1000000000000 } : Rp)]).length = a + 1 := by rw [List.length_append, HAL.out]; rfl
            rw [h3] at h1
            exact h1)
          go_wp2_with fail
          go_roundw
          case rel => exact ⟨k + 1, _, by omega, by go_num, rfl, HF.out.1, HF.out.2⟩
          case measure => simp [intOf]; omega
    · have : k = L.length := by omega
      subst this
      have hd : decide ((L.length : Int) < (L.length : Int)) = false := by simp
      have HF : Hid (rpOwn wr w.heap.size (.slice B (mgL [] (M.take L.length)).length cb) (togL L)) := Lib.hid (by
        rw [HTOG.out]
        have : M.take L.length = M := List.take_of_length_le (by rw [HM.out]; omega)
        rw [this] at ho ⊢
        exact own_weak ho HB2.out.size)
      clear ho hBg hB0
      go_wp2_with fail
      go_ret
      exact ⟨_, rfl, HF.out, HB2.out.trans (HB.out.mono HB2.out.size)⟩
  end Go.Proofs.YthjfnlbekbhmgaaGreatDoor
  