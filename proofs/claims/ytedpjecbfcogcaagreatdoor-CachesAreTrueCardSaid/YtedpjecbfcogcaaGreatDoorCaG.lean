/- Caches: Get. -/
import Derived.Test.YtedpjecbfcogcaaGreatDoorCaE
import Derived.StillTailTactics
namespace Go.Proofs.YtedpjecbfcogcaaGreatDoor
open Go.RowKit Go.Hw Go.Shelf

/-- The row of an entry lies apart from the cache's own blocks. -/
structure KpRow (w : World) (T : Nat) (A : Option Addr) (e : Kp) : Prop where
  row : rcAt w e.lA e.recs
  nil : e.lA = none → e.recs = []
  ne : ∀ a, e.lA = some a → a.block < w.heap.size ∧ a.block ≠ T ∧ aB A ≠ some a.block
  few : e.recs.length ≤ 50
  lives : ∀ r ∈ e.recs, 0 ≤ r.life ∧ r.life ≤ 1000000
theorem KpRow.chg {w w' : World} {T : Nat} {A : Option Addr} {e : Kp} (h : KpRow w T A e) (hc : Rchg (CaF T A) w w') : KpRow w' T A e :=
  ⟨h.row.kept hc.size fun a ha hl => hc.block _ hl (fun c => by
    obtain ⟨_, h2, h3⟩ := h.ne a ha
    rcases c with c | c
    · exact h2 c
    · exact h3 c), h.nil, fun a ha => let ⟨h1, h2, h3⟩ := h.ne a ha; ⟨Nat.lt_of_lt_of_le h1 hc.size, h2, h3⟩, h.few, h.lives⟩
theorem KpRow.below {w w' : World} {T : Nat} {A : Option Addr} {e : Kp} (h : KpRow w T A e) (hb : Below w.heap.size w w') : KpRow w' T A e := h.chg (Rchg.of_below hb)
theorem KpRow.used {w : World} {T : Nat} {A : Option Addr} {e : Kp} (h : KpRow w T A e) (u : Int) : KpRow w T A { e with used := u } := ⟨h.row, h.nil, h.ne, h.few, h.lives⟩

theorem rwC_set1 {α : Type} {c : α → List Value} {n : Nat} {d : α} (hc : ∀ x, (c x).length = n) : ∀ (L : List α) (i j : Nat) (e' : α) (v : Value), i < L.length → j < n → c e' = (c (L.getD i d)).set j v → rwC c (L.set i e') = (rwC c L).set (i * n + j) v
  | [], i, _, _, _, h, _, _ => by simp at h
  | x :: L, 0, j, e', v, _, hj, he => by
    rw [List.set_cons_zero, rwC_cons, rwC_cons, List.set_append_left _ _ (by rw [hc]; omega)]
    simp only [List.getD_cons_zero] at he
    rw [he]
    simp
  | x :: L, i + 1, j, e', v, h, hj, he => by
    have := rwC_set1 (d := d) hc L i j e' v (by simpa using h) hj (by simpa using he)
    rw [List.set_cons_succ, rwC_cons, rwC_cons, this, List.set_append_right _ _ (by rw [hc, Nat.succ_mul]; omega), hc, show (i + 1) * n + j - n = i * n + j by rw [Nat.succ_mul]; omega]

def lessLife (d : Int) (r : Rec) : Rec := { r with life := r.life - d }
/-- The loop that lets lives pass. -/
structure LfI (W : World) (vA : Option Addr) (vcap base : Nat) (R : List Rec) (d : Int) (j : Nat) (wr : World) : Prop where
  grown : W.grownBy wr (aB vA)
  rows : ∃ M : List Rec, M.length = R.length ∧ (∀ t, t < R.length → M.getD t noRec = if t < j then lessLife d (R.getD t noRec) else R.getD t noRec) ∧ rcOwn wr base (.slice vA M.length vcap) M
theorem lf_done {R M : List Rec} {d : Int} (hl : M.length = R.length) (h : ∀ t, t < R.length → M.getD t noRec = if t < R.length then lessLife d (R.getD t noRec) else R.getD t noRec) : M = R.map (lessLife d) := by
  apply List.ext_getElem
  · rw [List.length_map]; exact hl
  · intro t h1 h2
    have ht : t < R.length := by omega
    have := h t ht
    rw [if_pos ht, List.getD_eq_getElem?_getD, List.getD_eq_getElem?_getD, List.getElem?_eq_getElem h1, List.getElem?_eq_getElem ht] at this
    simpa using this

/-- What Get finds. -/
def GetOut (w : World) (T : Nat) (most at_ calls : Int) (A : Option Addr) (cap : Nat) (L : List Kp) (n : ByteArray) (e : Ending) (w' : World) : Prop :=
  ∃ (K : List Kp) (v : Value) (found : Bool), e = .returned (.tuple #[v, .bool found, .int .i64 0]) ∧ CaAt w' T most at_ (calls + 1) A cap K ∧ Rchg (CaF T A) w w' ∧
    (∀ x ∈ K, ∃ y ∈ L, goesB at_ y = false ∧ ∃ u, x = { y with used := u }) ∧ K.length ≤ L.length ∧
    (found = true → ∃ y ∈ L, goesB at_ y = false ∧ sameB n 1 y = true ∧ rcOwn w' w.heap.size v (y.recs.map (lessLife (at_ - y.put))))
theorem filt_in {L : List Kp} {at_ : Int} : ∀ x ∈ L.filter (fun e => !goesB at_ e), ∃ y ∈ L, goesB at_ y = false ∧ ∃ u, x = { y with used := u } := by
  intro x hx
  have := List.mem_filter.1 hx
  exact ⟨x, this.1, by simpa using this.2, x.used, rfl⟩

set_option maxRecDepth 100000 in
set_option maxHeartbeats 4000000 in
theorem getK (T : Nat) (most now calls : Int) (A : Option Addr) (cap : Nat) (L : List Kp) (at_ m : Int) (n : ByteArray) (w : World) (h : CaAt w T most now calls A cap L) (hl : L.length ≤ 1000) (hnow : now ≤ at_) (h0 : 0 ≤ at_) (h1 : at_ ≤ 1000000) (hc0 : 0 ≤ calls) (hc1 : calls ≤ 1000000) (hL : KpIn L)
    (hR : ∀ e ∈ L, KpRow w T A e) (hn : NameOk n) (hm : w.cell? ⟨2, 0, none⟩ = some (.int .i64 m)) :
    Calls Tryz.prog 12 #[.pointer (some ⟨T, 0, none⟩), .int .i64 at_, .string n, .int .i64 1] w (GetOut w T most at_ calls A cap L n) := by
  have hlm := World.block_lt_of_cell? _ _ hm
  have hTl := h.lt
  have hAl := fun k (hk : aB A = some k) => h.ltA hk
  have HN := Lib.hid hn
  have H := Lib.hid h
  have HM := Lib.hid hm
  have HR := Lib.hid hR
  have HL := Lib.hid hL
  have HAL := Lib.hid hAl
  clear h hm hR hn hL hAl
  go_enter Tryz.func12, Tryz.ntmps12
  go_wp2_with fail
  have hb1 : Below w.heap.size w ((w.alloc (.cells #[.string n] 9 (0, 0))).alloc (.cells #[.int .i64 1] 3 (0, 0))) := ((Below.refl _ _).alloc (Nat.le_refl _) _).alloc (by simp) _
  have hx0 : ((w.alloc (.cells #[.string n] 9 (0, 0))).alloc (.cells #[.int .i64 1] 3 (0, 0))).heap[w.heap.size]? = some (.cells #[.string n] 9 (0, 0)) := (heap_alloc_old _ _ (by simp)).trans (heap_alloc_new _ _)
  have hx1 : ((w.alloc (.cells #[.string n] 9 (0, 0))).alloc (.cells #[.int .i64 1] 3 (0, 0))).heap[w.heap.size + 1]? = some (.cells #[.int .i64 1] 3 (0, 0)) := by
    have := heap_alloc_new (w.alloc (.cells #[.string n] 9 (0, 0))) (.cells #[.int .i64 1] 3 (0, 0))
    simpa using this
  generalize hW : World.alloc _ _ = W1 at *
  clear hW
  refine (nameFaultK T most now calls _ at_ m n W1 (H.out.below hb1).blk hnow h0 h1 HN.out ((hb1.cell hlm).trans HM.out)).mono ?_
  rintro e W2 ⟨rfl, hb2⟩
  have HB2 := Lib.hid (hb1.trans (hb2.mono hb1.size))
  have HX0 := Lib.hid ((hb2.block _ (lt_of_block hx0)).trans hx0)
  have HX1 := Lib.hid ((hb2.block _ (lt_of_block hx1)).trans hx1)
  clear hb1 hb2 hx0 hx1
  go_wp2_with fail
  refine (passK T most now calls A cap L at_ W2 (H.out.below HB2.out) hl h0 h1 hc0 hc1 HL.out).mono ?_
  rintro e W3 ⟨rfl, hca3, hch3⟩
  have hx0 := (hch3.block _ (lt_of_block HX0.out) (fun c => by rcases c with c | c; omega; exact Nat.lt_irrefl _ (HAL.out _ c))).trans HX0.out
  have hx1 := (hch3.block _ (lt_of_block HX1.out) (fun c => by rcases c with c | c; omega; have := HAL.out _ c; omega)).trans HX1.out
  have hRW : ∀ e ∈ L, KpRow W3 T A e := fun e he => ((HR.out e he).below HB2.out).chg hch3
  have HCH := Lib.hid ((Rchg.of_below (F := CaF T A) HB2.out).trans hch3 (fun _ _ h => h))
  have hKL : (L.filter (fun e => !goesB at_ e)).length ≤ L.length := List.length_filter_le _ _
  have HKM := Lib.hid (filt_in (L := L) (at_ := at_))
  have hKsub : ∀ e ∈ L.filter (fun e => !goesB at_ e), e ∈ L ∧ goesB at_ e = false := fun e he => by
    have := List.mem_filter.1 he
    exact ⟨this.1, by simpa using this.2⟩
  have HKS := Lib.hid hKsub
  have HRW := Lib.hid hRW
  clear hch3 HX0 HX1 HB2 hRW hKsub
  generalize L.filter (fun e => !goesB at_ e) = K at *
  have hidx := kp_idx A cap K 26 #[.pointer (some ⟨w.heap.size, 0, none⟩), .pointer (some ⟨w.heap.size + 1, 0, none⟩)] (sameB n 1) W3 entersGet hca3.kp (by omega) (getPredK _ _ n 1 K W3 hx0 hx1)
  obtain ⟨⟨c0, c1, c2, c3⟩, f0, f1, f2, f3⟩ := ca_res hca3.blk
  have ht3 := hca3.lt
  have HCA := Lib.hid hca3
  clear hca3 hx0 hx1
  go_wp2_with fail
  refine hidx.mono ?_
  rintro e W4 ⟨rfl, hb4⟩
  have HCA4 := Lib.hid (HCA.out.below hb4)
  have HCH4 := Lib.hid (HCH.out.trans (Rchg.of_below (F := CaF T A) hb4) (fun _ _ h => h))
  have HB4 := Lib.hid hb4
  clear hidx hb4 c0 c1 c2 c3 f0 f1 f2 f3
  rcases rwIdx_any (sameB n 1) K with ⟨hany, hix⟩ | ⟨hno, hix⟩
  rotate_left
  · rw [hix]
    go_wp2_with fail
    refine bodyPost_ret (v := .tuple #[.slice none 0 0, .bool false, .int .i64 0]) (by simp [results, Tryz.results12, go_sem]) rfl ?_
    exact ⟨K, _, false, rfl, HCA4.out, HCH4.out, HKM.out, hKL, fun h => by cases h⟩
  · obtain ⟨i, hi⟩ := rwIdx_found hix
    obtain ⟨hiK, _, hsame⟩ := rwIdx_spec (d := noKp) hi
    rw [hi]
    clear hi hix hany
    obtain ⟨gb, rfl⟩ : ∃ gb, A = some ⟨gb, 0, none⟩ := by
      rcases HCA4.out.own.2 with ⟨h1, h2⟩ | ⟨g, cap', cur, h1, _⟩
      · omega
      · injection h1 with h1; exact ⟨g, h1⟩
    have hem := rw_mem (d := noKp) hiK
    obtain ⟨heL, hgo⟩ := HKS.out _ hem
    have hrow := (HRW.out _ heL).below HB4.out
    obtain ⟨hp0, hp1⟩ := HL.out _ heL
    obtain ⟨g5, off, e1, hgB, hcc⟩ := HCA4.out.kp i hiK
    injection e1 with e1
    simp only [Addr.mk.injEq, and_true] at e1
    obtain ⟨rfl, rfl⟩ := e1
    rw [Nat.zero_add] at hcc
    obtain ⟨k0, k1, k2, k3, k4, k5⟩ := kp_cells hcc
    obtain ⟨⟨c0, c1, c2, c3⟩, f0, f1, f2, f3⟩ := ca_res HCA4.out.blk
    have ht4 := HCA4.out.lt
    have fk := rw_froz HCA4.out.own (i * 6 + 4)
    generalize hx : K.getD i noKp = x at *
    have HXX := Lib.hid hx
    have HROW := Lib.hid hrow
    have HSM := Lib.hid hsame
    have HGO := Lib.hid hgo
    have HEL := Lib.hid heL
    have hd0 : decide ((i : Int) < 0) = false := by simp
    have hgT : gb ≠ T := fun c => HCA4.out.ne (by rw [c]; rfl)
    clear hcc hrow hsame hgo heL hem hx
    go_wp2_with fail
    have hs5 := World.ownsRow.stored HCA4.out.own (i * 6 + 4) (.int .i64 (calls + 1))
    rw [← rwC_set1 (d := noKp) kpC_len K i 4 { x with used := calls + 1 } (.int .i64 (calls + 1)) hiK (by omega) (by rw [HXX.out]; rfl)] at hs5
    have hlen : (K.set i { x with used := calls + 1 }).length = K.length := by simp
    have hg5 := hs5.2
    have hca5 : CaAt (W4.setCell ⟨gb, i * 6 + 4, none⟩ (.int .i64 (calls + 1))) T most at_ (calls + 1) (some ⟨gb, 0, none⟩) cap (K.set i { x with used := calls + 1 }) :=
      ⟨by rw [hlen, Below.heap_setCell _ _ _ _ (fun c => hgT c.symm)]; exact HCA4.out.blk, by unfold kpOwn; rw [hlen]; exact hs5.1, HCA4.out.ne⟩
    have hkm : ∀ y ∈ K.set i { x with used := calls + 1 }, ∃ z ∈ L, goesB at_ z = false ∧ ∃ u, y = { z with used := u } := by
      intro y hy
      rcases List.mem_or_eq_of_mem_set hy with hy | hy
      · exact HKM.out y hy
      · exact ⟨x, HEL.out, HGO.out, calls + 1, hy⟩
    have hch5 : Rchg (CaF T (some ⟨gb, 0, none⟩)) w (W4.setCell ⟨gb, i * 6 + 4, none⟩ (.int .i64 (calls + 1))) := HCH4.out.set (fun _ => .inr rfl) _ _
    have hrow5 : KpRow (W4.setCell ⟨gb, i * 6 + 4, none⟩ (.int .i64 (calls + 1))) T (some ⟨gb, 0, none⟩) x := HROW.out.chg ((Rchg.refl _ _).set (fun _ => .inr rfl) _ _)
    have k2' : (W4.setCell ⟨gb, i * 6 + 4, none⟩ (.int .i64 (calls + 1))).cell? ⟨gb, i * 6 + 2, none⟩ = some (.int .i64 x.put) := by
      rw [World.cell?_setCell_other _ _ _ _ (fun c => by injection c with _ c; omega)]
      exact k2
    have hgl : gb < (W4.setCell ⟨gb, i * 6 + 4, none⟩ (.int .i64 (calls + 1))).heap.size := by
      have := (HCA4.out.own.lt gb rfl).2
      simpa using this
    have hKL' : (K.set i { x with used := calls + 1 }).length ≤ L.length := by rw [hlen]; exact hKL
    have HCA5 := Lib.hid hca5
    have HCH5 := Lib.hid hch5
    have HKM5 := Lib.hid hkm
    have HROW5 := Lib.hid hrow5
    have HK2 := Lib.hid k2'
    have hws := HCH4.out.size
    clear hs5 hg5 hca5 hch5 hkm hrow5 k0 k1 k2 k3 k4 k5 c0 c1 c2 c3 f0 f1 f2 f3 fk k2' HCA HCH HRW HCA4 HCH4 HKM HKS HR HROW hlen HXX
    have hsz5 : (W4.setCell ⟨gb, i * 6 + 4, none⟩ (.int .i64 (calls + 1))).heap.size = W4.heap.size := by simp
    generalize World.setCell W4 _ _ = W5 at *
    refine (rc_clone x.lA x.lcap x.recs W5 HROW5.out.row HROW5.out.nil (by have := HROW5.out.few; omega)).mono ?_
    rintro e W6 ⟨v, rfl, ho6, hb6⟩
    obtain ⟨vA, vcap, rfl, -⟩ := rw_at (d := noRec) rcC_len ho6
    have HI0 : Hid (LfI W6 vA vcap W5.heap.size x.recs (at_ - x.put) 0 W6) := Lib.hid ⟨World.grownBy.refl _ _, x.recs, rfl, fun t _ => by rw [if_neg (by omega)], ho6⟩
    have hfew := HROW5.out.few
    have HLV := Lib.hid HROW5.out.lives
    have hva := fun k (hk : aB vA = some k) => (ho6.lt k (by rw [own_aB]; exact hk)).1
    have HVA := Lib.hid hva
    have HK6 := Lib.hid ((hb6.cell (p := ⟨gb, i * 6 + 2, none⟩) hgl).trans HK2.out)
    have HCA6 := Lib.hid (HCA5.out.below hb6)
    have HCH6 := Lib.hid (HCH5.out.trans (Rchg.of_below (F := CaF T (some ⟨gb, 0, none⟩)) hb6) (fun _ _ h => h))
    have hgl6 : gb < W6.heap.size := Nat.lt_of_lt_of_le hgl hb6.size
    clear ho6 hb6 hva HK2 HCA5 HCH5 HROW5
    go_wp2_with fail
    go_loopw [55] (fun v55 wr => ∃ k : Nat, k ≤ x.recs.length ∧ v55 = .int .i64 k ∧ LfI W6 vA vcap W5.heap.size x.recs (at_ - x.put) k wr) (fun v55 _ => x.recs.length - (intOf v55).toNat)
    case atStart => exact ⟨0, by omega, rfl, HI0.out⟩
    case round =>
      obtain ⟨k, hk, rfl, hit⟩ := hrel
      by_cases hlt : k < x.recs.length
      · obtain ⟨hgr, M, hM1, hM2, hM3⟩ := hit
        have hkM : k < M.length := by omega
        obtain ⟨vb, rfl⟩ : ∃ vb, vA = some ⟨vb, 0, none⟩ := by
          rcases hM3.2 with ⟨h1, h2⟩ | ⟨g, cap', cur, h1, _⟩
          · omega
          · injection h1 with h1; exact ⟨g, h1⟩
        have hvl := HVA.out vb rfl
        obtain ⟨g5, off, e1, hvB, hcc⟩ := rw_at' (d := noRec) rcC_len hM3 k hkM
        injection e1 with e1
        simp only [Addr.mk.injEq, and_true] at e1
        obtain ⟨rfl, rfl⟩ := e1
        rw [Nat.zero_add] at hcc
        have hMk : M.getD k noRec = x.recs.getD k noRec := by rw [hM2 k hlt, if_neg (by omega)]
        rw [hMk] at hcc
        obtain ⟨-, -, -, -, -, -, -, r7⟩ := rc_cells hcc
        obtain ⟨hv0, hv1⟩ := HLV.out _ (rw_mem (d := noRec) hlt)
        have hM3d : rcOwn wr.drew W5.heap.size (.slice (some ⟨vb, 0, none⟩) M.length vcap) M := rw_same hM3 fun _ _ => rfl
        have hgrd : W6.grownBy wr.drew (some vb) := ⟨hgr.os, hgr.tape, hgr.output, hgr.size, hgr.block⟩
        have hst := World.ownsRow.stored hM3d (k * 8 + 7) (.int .i64 ((x.recs.getD k noRec).life - (at_ - x.put)))
        rw [← rwC_set1 (d := noRec) rcC_len M k 7 (lessLife (at_ - x.put) (x.recs.getD k noRec)) _ hkM (by omega) (by rw [hMk]; rfl)] at hst
        have hst1 : rcOwn (wr.drew.setCell ⟨vb, k * 8 + 7, none⟩ (.int .i64 ((x.recs.getD k noRec).life - (at_ - x.put)))) W5.heap.size (.slice (some ⟨vb, 0, none⟩) (M.set k (lessLife (at_ - x.put) (x.recs.getD k noRec))).length vcap) (M.set k (lessLife (at_ - x.put) (x.recs.getD k noRec))) := by
          unfold rcOwn
          rw [List.length_set]
          exact hst.1
        have hst2 : ∀ t, t < x.recs.length → (M.set k (lessLife (at_ - x.put) (x.recs.getD k noRec))).getD t noRec = if t < k + 1 then lessLife (at_ - x.put) (x.recs.getD t noRec) else x.recs.getD t noRec := by
          intro t ht
          by_cases e : t = k
          · subst e
            rw [if_pos (by omega), List.getD_eq_getElem?_getD, List.getElem?_set_self hkM]
            rfl
          · rw [List.getD_eq_getElem?_getD, List.getElem?_set_ne (fun c => e c.symm), ← List.getD_eq_getElem?_getD, hM2 t ht]
            by_cases h2 : t < k
            · rw [if_pos h2, if_pos (by omega)]
            · rw [if_neg h2, if_neg (by omega)]
        have hnew : LfI W6 (some ⟨vb, 0, none⟩) vcap W5.heap.size x.recs (at_ - x.put) (k + 1) (wr.drew.setCell ⟨vb, k * 8 + 7, none⟩ (.int .i64 ((x.recs.getD k noRec).life - (at_ - x.put)))) :=
          ⟨rw_gset hgrd _ _, _, by rw [List.length_set]; exact hM1, hst2, hst1⟩
        have k6 : wr.cell? ⟨gb, i * 6 + 2, none⟩ = some (.int .i64 x.put) := (World.cell?_of_block (w := W6) (a := ⟨gb, i * 6 + 2, none⟩) (hgr.block gb hgl6 (fun c => by have c' : gb = vb := Option.some.inj c; omega))).trans HK6.out
        have f7 := rw_froz hM3 (k * 8 + 7)
        have hgw : gb < wr.heap.size := Nat.lt_of_lt_of_le hgl6 hgr.size
        have q0 : IntKind.i64.wrap (at_ - x.put) = at_ - x.put := IntWalk.i64_in _ (by omega)
        have q1 : IntKind.i64.wrap ((x.recs.getD k noRec).life - (at_ - x.put)) = (x.recs.getD k noRec).life - (at_ - x.put) := IntWalk.i64_in _ (by omega)
        generalize (x.recs.getD k noRec).life = li at *
        have HN2 := Lib.hid hnew
        clear hnew hst hst1 hst2 hcc hMk hM1 hM2 hM3 hM3d hgr hgrd HCA6 HCH6 HK6
        go_wp2_with fail
        go_still_tail 14, (by kernel_rfl)
        change wpList _ _ _ _ _ wr.drew
        have r7' : wr.drew.cell? ⟨vb, k * 8 + 7, none⟩ = some (.int .i64 li) := r7
        have f7' : wr.drew.frozen? ⟨vb, k * 8 + 7, none⟩ = false := f7
        have k6' : wr.drew.cell? ⟨gb, i * 6 + 2, none⟩ = some (.int .i64 x.put) := k6
        clear r7 f7 k6
        go_wp2_with fail
        go_roundw
        case rel => exact ⟨k + 1, hlt, by go_num, HN2.out⟩
        case measure => simp [intOf]; omega
      · have hkk : k = x.recs.length := by omega
        subst hkk
        obtain ⟨hgr, M, hM1, hM2, hM3⟩ := hit
        have hMM := lf_done hM1 hM2
        subst hMM
        have HG := Lib.hid hgr
        have HM3 := Lib.hid hM3
        clear hM1 hM2 hgr hM3
        go_wp2_with fail
        refine bodyPost_ret (v := .tuple #[.slice vA x.recs.length vcap, .bool true, .int .i64 0]) (by simp [results, Tryz.results12, go_sem]) rfl ?_
        have hvb : ∀ k, aB vA = some k → w.heap.size ≤ k := fun k hk => by have := HVA.out k hk; omega
        refine ⟨_, _, true, rfl, HCA6.out.keep (HG.out.block _ HCA6.out.lt (fun c => ?_)) (fun k hk => HG.out.block _ (HCA6.out.ltA hk) (fun c => ?_)), HCH6.out.trans (Rchg.of_grown (F := fun k => w.heap.size ≤ k) HG.out (fun k e _ => hvb k e)) (fun j hj c => by omega), HKM5.out, hKL', fun _ => ⟨x, HEL.out, HGO.out, HSM.out, ?_⟩⟩
        · have := hvb T c.symm; omega
        · have h1 := hvb k c.symm; have h2 := HAL.out k hk; omega
        · have h := HM3.out
          unfold rcOwn at h ⊢
          rw [List.length_map] at h ⊢
          exact own_base h (by omega)
end Go.Proofs.YtedpjecbfcogcaaGreatDoor
