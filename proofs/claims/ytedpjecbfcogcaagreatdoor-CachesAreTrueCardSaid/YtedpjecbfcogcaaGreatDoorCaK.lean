/- Entries of a cache in memory. -/
import Derived.Test.YtedpjecbfcogcaaGreatDoorRwB
import Derived.Test.YtedpjecbfcogcaaGreatDoorCaA
import Derived.Deep.RegionLaw
import Derived.OwnWalk
namespace Go.Proofs.YtedpjecbfcogcaaGreatDoor
open Go.RowKit Go.Hw

def kpC (e : Kp) : List Value := [.string e.name, .int .i64 e.kind, .int .i64 e.put, .int .i64 e.life, .int .i64 e.used, .slice e.lA e.recs.length e.lcap]
theorem kpC_len (e : Kp) : (kpC e).length = 6 := rfl
abbrev kpAt (w : World) (A : Option Addr) (L : List Kp) : Prop := RwAt kpC 6 noKp w A L
abbrev kpOwn (w : World) (base : Nat) (v : Value) (L : List Kp) : Prop := w.ownsRow base 66 6 v L.length (rwC kpC L)
theorem kp_cells {w : World} {g o : Nat} {e : Kp} (h : RwCells w g o (kpC e)) : w.cell? ⟨g, o, none⟩ = some (.string e.name) ∧ w.cell? ⟨g, o + 1, none⟩ = some (.int .i64 e.kind) ∧ w.cell? ⟨g, o + 2, none⟩ = some (.int .i64 e.put) ∧ w.cell? ⟨g, o + 3, none⟩ = some (.int .i64 e.life) ∧ w.cell? ⟨g, o + 4, none⟩ = some (.int .i64 e.used) ∧ w.cell? ⟨g, o + 5, none⟩ = some (.slice e.lA e.recs.length e.lcap) := ⟨h 0 _ rfl, h 1 _ rfl, h 2 _ rfl, h 3 _ rfl, h 4 _ rfl, h 5 _ rfl⟩

/-- What is asked of a closure over these structs. -/
def kpPred (g : Nat) (lb : Array Value) (p : Kp → Bool) (L : List Kp) (w : World) : Prop :=
  ∀ (W : World) (e : Kp), e ∈ L → Below w.heap.size w W → Calls Tryz.prog g (#[.agg #[.string e.name, .int .i64 e.kind, .int .i64 e.put, .int .i64 e.life, .int .i64 e.used, .slice e.lA e.recs.length e.lcap]] ++ lb) W fun en w' => en = .returned (.bool (p e)) ∧ Below W.heap.size W w'

set_option maxRecDepth 100000 in
set_option maxHeartbeats 1000000 in
theorem kp_idx (A : Option Addr) (cap : Nat) (L : List Kp) (g : Nat) (lb : Array Value) (p : Kp → Bool) (w : World) (eg : ∀ args w, (callFunc g args).run Tryz.prog w = .ok (.enter g args) w)
    (h : kpAt w A L) (hl : L.length ≤ 1000000) (hp : kpPred g lb p L w) :
    Calls Tryz.prog 25 #[.slice A L.length cap, .func (.func g) #[] lb] w fun e w' => e = .returned (.int .i64 (rwIdx p L)) ∧ Below w.heap.size w w' := by
  go_enter Tryz.func25, Tryz.ntmps25
  go_wp2_with fail
  go_loopw [8] (fun v wr => ∃ k : Nat, k ≤ L.length ∧ v = .int .i64 k ∧ (∀ j, j < k → p (L.getD j noKp) = false) ∧ Below w.heap.size w wr) (fun v _ => L.length - (intOf v).toNat)
  case atStart => exact ⟨0, Nat.zero_le _, rfl, fun j hj => by omega, Below.refl _ _⟩
  case round =>
    obtain ⟨k, hk, rfl, hf, hb⟩ := hrel
    have hlr := h.below hb
    by_cases hlt : k < L.length
    · obtain ⟨g5, off, rfl, hgB, hcc⟩ := hlr k hlt
      obtain ⟨c0, c1, c2, c3, c4, c5⟩ := kp_cells hcc
      have HCALL := hp wr (L.getD k noKp) (rw_mem hlt) hb
      generalize hx : L.getD k noKp = x at *
      have HF := Lib.hid hf
      have HX := Lib.hid hx
      have HB := Lib.hid hb
      clear hf hx hp hb hlr h hcc
      have hd : decide ((k : Int) < (L.length : Int)) = true := by simp; omega
      cases hq : p x
      · rw [hq] at HCALL
        go_wp2_with (go_at_fn g; refine HCALL.mono ?_; rintro e w1 ⟨rfl, hb1⟩)
        go_roundw
        case rel => exact ⟨k + 1, by omega, by go_num, fun j hj => (by
          by_cases e : j = k
          · rw [e, HX.out]; exact hq
          · exact HF.out j (by omega)), HB.out.trans (hb1.mono HB.out.size)⟩
        case measure => simp [intOf]; omega
      · rw [hq] at HCALL
        go_wp2_with (go_at_fn g; refine HCALL.mono ?_; rintro e w1 ⟨rfl, hb1⟩)
        go_ret
        exact ⟨ret_eq (rwIdx_at hlt HF.out (by rw [HX.out]; exact hq)).symm, HB.out.trans (hb1.mono HB.out.size)⟩
    · have : k = L.length := by omega
      subst this
      have HF := Lib.hid hf
      clear hf
      go_wp2_with fail
      go_ret
      exact ⟨ret_eq (rwIdx_none HF.out).symm, hb⟩

theorem kp_zero (w : World) : (zeroValue 66).run Tryz.prog w = .ok (.agg #[.string ⟨#[]⟩, .int .i64 0, .int .i64 0, .int .i64 0, .int .i64 0, .slice none 0 0]) w := by kernel_rfl
def kpZ : Array Value := #[.string ⟨#[]⟩, .int .i64 0, .int .i64 0, .int .i64 0, .int .i64 0, .slice none 0 0]
theorem kp_clear (w : World) (ty : TypeId) (b o n c : Nat) (hn : 0 < n) (hc : ∀ j, j < n * 6 → (w.cell? ⟨b, o + j, none⟩).isSome = true) (hf : ∀ j, j < n * 6 → w.frozen? ⟨b, o + j, none⟩ = false) :
    (Builtin.clear_ #[54] ty #[.slice (some ⟨b, o, none⟩) n c]).run Tryz.prog w = .ok (.tuple #[]) (w.setCells b o (Builtin.zeroCells kpZ n).toList) := by
  have hl : (Builtin.zeroCells kpZ n).toList.length = n * 6 := by
    simp [Builtin.zeroCells, kpZ]
  have h1 : ∀ v ∈ (Builtin.zeroCells kpZ n).toList, v.oneCell' = true := by
    intro v hv
    simp only [Builtin.zeroCells, Array.toList_map, List.mem_map] at hv
    obtain ⟨i, _, rfl⟩ := hv
    have hi : i % kpZ.size < 6 := Nat.mod_lt _ (by decide)
    generalize i % kpZ.size = k at hi
    have : k = 0 ∨ k = 1 ∨ k = 2 ∨ k = 3 ∨ k = 4 ∨ k = 5 := by omega
    rcases this with rfl | rfl | rfl | rfl | rfl | rfl <;> rfl
  have hst := run_storeCells_cells (P := Tryz.prog) b o (Builtin.zeroCells kpZ n).toList 0 w (by rw [hl]; simpa using hc) (by rw [hl]; simpa using hf) h1
  simp only [Nat.add_zero] at hst
  have hz := kp_zero w
  obtain ⟨m, rfl⟩ : ∃ m, n = m + 1 := ⟨n - 1, by omega⟩
  have hcells : (Value.agg #[.string ⟨#[]⟩, .int .i64 0, .int .i64 0, .int .i64 0, .int .i64 0, .slice none 0 0]).cells = kpZ := rfl
  simp [Builtin.clear_, run_underlying Tryz.underlying54, hz, hcells, hst]

theorem kp_res {W : World} {R : Nat} {a0 a1 a2 a3 a4 a5 : Value} {T : TypeId} (h : W.heap[R]? = some (.cells #[a0, a1, a2, a3, a4, a5] T (0, 0))) : W.cell? ⟨R, 0, none⟩ = some a0 ∧ W.cell? ⟨R, 1, none⟩ = some a1 ∧ W.cell? ⟨R, 2, none⟩ = some a2 ∧ W.cell? ⟨R, 3, none⟩ = some a3 ∧ W.cell? ⟨R, 4, none⟩ = some a4 ∧ W.cell? ⟨R, 5, none⟩ = some a5 := by
  refine ⟨?_, ?_, ?_, ?_, ?_, ?_⟩ <;> simp [World.cell?, h]
set_option maxRecDepth 100000 in
set_option maxHeartbeats 400000 in
theorem kp_delNone (A : Option Addr) (cap : Nat) (L : List Kp) (g : Nat) (lb : Array Value) (p : Kp → Bool) (w : World) (eg : ∀ args w, (callFunc g args).run Tryz.prog w = .ok (.enter g args) w)
    (h : kpAt w A L) (hl : L.length ≤ 1000000) (hp : kpPred g lb p L w) (hr : rwIdx p L = -1) :
    Calls Tryz.prog 21 #[.slice A L.length cap, .func (.func g) #[] lb] w fun e w' => e = .returned (.slice A L.length cap) ∧ Below w.heap.size w w' := by
  have hcall := kp_idx A cap L g lb p w eg h hl hp
  rw [hr] at hcall
  clear hr hp h
  go_enter Tryz.func21, Tryz.ntmps21
  go_wp2_with fail
  refine hcall.mono ?_
  rintro e w1 ⟨rfl, hb⟩
  go_wp2_with fail
  go_ret
  exact ⟨rfl, hb⟩

/-- The loop of DeleteFunc: what stays has been moved ahead, and what is behind is as it was. -/
def kpDelI (w : World) (g cap : Nat) (p : Kp → Bool) (L : List Kp) (i j : Nat) (wr : World) : Prop :=
  j ≤ L.length ∧ i = (rwKept p L j).length ∧ i < j ∧ w.grownBy wr (some g) ∧ ∃ M : List Kp, M.length = L.length ∧ M.take i = rwKept p L j ∧ (∀ t, j ≤ t → M.getD t noKp = L.getD t noKp) ∧
    kpOwn wr 0 (.slice (some ⟨g, 0, none⟩) M.length cap) M

set_option maxRecDepth 100000 in
set_option maxHeartbeats 2000000 in
theorem kp_delSome (gb cap : Nat) (L : List Kp) (g : Nat) (lb : Array Value) (p : Kp → Bool) (w : World) (eg : ∀ args w, (callFunc g args).run Tryz.prog w = .ok (.enter g args) w)
    (h : kpOwn w 0 (.slice (some ⟨gb, 0, none⟩) L.length cap) L) (hl : L.length ≤ 1000000) (hp : ∀ wr, w.grownBy wr (some gb) → kpPred g lb p L wr) (i0 : Nat) (hi0 : i0 < L.length) (hr : rwIdx p L = i0) :
    Calls Tryz.prog 21 #[.slice (some ⟨gb, 0, none⟩) L.length cap, .func (.func g) #[] lb] w
      fun e w' => e = .returned (.slice (some ⟨gb, 0, none⟩) (L.filter (fun e => !p e)).length cap) ∧ w.grownBy w' (some gb) ∧
        kpOwn w' 0 (.slice (some ⟨gb, 0, none⟩) (L.filter (fun e => !p e)).length cap) (L.filter (fun e => !p e)) := by
  have hcall := kp_idx (some ⟨gb, 0, none⟩) cap L g lb p w eg (rw_at' kpC_len h) hl (hp w (World.grownBy.refl w _))
  rw [hr] at hcall
  have hcap : L.length ≤ cap := rw_cap h
  have H := Lib.hid h
  have HP := Lib.hid hp
  have HR := Lib.hid hr
  clear h hp hr
  go_enter Tryz.func21, Tryz.ntmps21
  go_wp2_with fail
  refine hcall.mono ?_
  rintro e w1 ⟨rfl, hb1⟩
  obtain ⟨_, hno, hyes⟩ := rwIdx_spec (d := noKp) HR.out
  have hI : kpDelI w gb cap p L i0 (i0 + 1) w1 := by
    have hk : rwKept p L (i0 + 1) = L.take i0 := by rw [rwKept_snoc (d := noKp) hi0, hyes, if_pos rfl, rwKept_first hno (by omega)]
    have hg1 := grownB hb1 (some gb)
    refine ⟨by omega, by rw [hk]; simp; omega, by omega, hg1, L, rfl, hk.symm, fun _ _ => rfl, ?_⟩
    exact rw_same H.out fun k hk => hb1.block k (H.out.lt k hk).2
  have HI := Lib.hid hI
  clear hcall hb1 hI hno hyes
  have hne : ((i0 : Int) == -1) = false := by simp
  go_wp2_with fail
  clear hne
  go_loopw [5, 6] (fun v5 v6 wr => ∃ i j : Nat, v5 = .int .i64 i ∧ v6 = .int .i64 j ∧ kpDelI w gb cap p L i j wr) (fun _ v6 _ => L.length - (intOf v6).toNat)
  case atStart => exact ⟨i0, i0 + 1, rfl, by simp, HI.out⟩
  case round =>
    obtain ⟨i, j, rfl, rfl, hj, hi, hij, hg, M, hM, htk, hdr, hown⟩ := hrel
    clear HI
    by_cases hlt : j < L.length
    · have hEM : kpAt wr (some ⟨gb, 0, none⟩) M := rw_at' kpC_len hown
      have hgb := (hown.lt gb rfl).2
      obtain ⟨c0, c1, c2, c3, c4, c5⟩ := kp_cells (w := wr) (g := gb) (o := j * 6) (e := L.getD j noKp) (by
        obtain ⟨g5, off, e1, hgB, hc⟩ := hEM j (by omega)
        injection e1 with e1
        simp only [Addr.mk.injEq, and_true] at e1
        obtain ⟨rfl, rfl⟩ := e1
        rw [hdr j (Nat.le_refl _), Nat.zero_add] at hc
        exact hc)
      have hsn := rwKept_snoc (p := p) (d := noKp) hlt
      have hmem : L.getD j noKp ∈ L := rw_mem hlt
      have hdl : decide (j < L.length) = true := by simpa using hlt
      generalize hx : L.getD j noKp = x at *
      have HCALL := HP.out wr hg (wr.alloc (.cells #[.string x.name, .int .i64 x.kind, .int .i64 x.put, .int .i64 x.life, .int .i64 x.used, .slice x.lA x.recs.length x.lcap] 66)) x hmem ((Below.refl _ _).alloc (Nat.le_refl _) _)
      have HG := Lib.hid hg
      have HK := Lib.hid htk
      have HD := Lib.hid hdr
      have HO := Lib.hid hown
      have HS := Lib.hid hsn
      have HII := Lib.hid hi
      have HMM := Lib.hid hM
      have HX := Lib.hid hx
      clear hg htk hdr hown hsn hi hM hEM hmem hx
      cases hq : p x
      · rw [hq] at HCALL
        go_wp2_with fail
        refine HCALL.mono ?_
        rintro e w2 ⟨rfl, hb2⟩
        have hbx := (hb2.block wr.heap.size (by simp)).trans (heap_alloc_new wr _)
        obtain ⟨b0, b1, b2, b3, b4, b5⟩ := kp_res hbx
        have hO2 := rw_same HO.out (w' := w2) fun k hk => (hb2.block k (by have := (HO.out.lt k hk).2; simp; omega)).trans (heap_alloc_old _ _ (HO.out.lt k hk).2)
        have z0 := rw_froz hO2 (i * 6)
        have z1 := rw_froz hO2 (i * 6 + 1)
        have z2 := rw_froz hO2 (i * 6 + 2)
        have z3 := rw_froz hO2 (i * 6 + 3)
        have z4 := rw_froz hO2 (i * 6 + 4)
        have z5 := rw_froz hO2 (i * 6 + 5)
        obtain ⟨o0, s0⟩ := Option.isSome_iff_exists.1 (rw_some hO2 (j := i * 6) (by have := HMM.out; omega))
        obtain ⟨o1, s1⟩ := Option.isSome_iff_exists.1 (rw_some hO2 (j := i * 6 + 1) (by have := HMM.out; omega))
        obtain ⟨o2, s2⟩ := Option.isSome_iff_exists.1 (rw_some hO2 (j := i * 6 + 2) (by have := HMM.out; omega))
        obtain ⟨o3, s3⟩ := Option.isSome_iff_exists.1 (rw_some hO2 (j := i * 6 + 3) (by have := HMM.out; omega))
        obtain ⟨o4, s4⟩ := Option.isSome_iff_exists.1 (rw_some hO2 (j := i * 6 + 4) (by have := HMM.out; omega))
        obtain ⟨o5, s5⟩ := Option.isSome_iff_exists.1 (rw_some hO2 (j := i * 6 + 5) (by have := HMM.out; omega))
        have HO2 := Lib.hid hO2
        have HG2 := Lib.hid ((HG.out.andThen (World.grownBy_alloc _ _ (some gb)) (fun _ h => .inr h)).andThen (grownB hb2 (some gb)) (fun _ h => .inr h))
        have dil : decide (i < L.length) = true := by simp; omega
        have hil : i < L.length := by omega
        clear hb2 hbx hO2 HO HG HCALL c0 c1 c2 c3 c4 c5
        go_wp2_with fail
        clear b0 b1 b2 b3 b4 b5 z0 z1 z2 z3 z4 z5 s0 s1 s2 s3 s4 s5
        generalize hW : World.setCell _ _ _ = W3
        have hO3 := rw_put kpC_len HO2.out i x (by have := HMM.out; omega)
        rw [show w2.setCells gb (i * 6) (kpC x) = W3 from hW] at hO3
        have hG3 : w.grownBy W3 (some gb) := by
          rw [← show w2.setCells gb (i * 6) (kpC x) = W3 from hW]
          exact rw_gsets _ _ _ HG2.out
        clear hW HO2 HG2
        go_roundw
        case rel =>
          refine ⟨i + 1, j + 1, by go_num, by go_num, by omega, ?_, by omega, hG3, M.set i x, by rw [List.length_set]; exact HMM.out, ?_, fun t ht => ?_, hO3⟩
          · rw [HS.out, hq, if_neg (by simp), List.length_append, ← HII.out]; rfl
          · rw [HS.out, hq, if_neg (by simp), ← HK.out]
            have hiM : i < M.length := by have := HMM.out; omega
            rw [List.take_succ_eq_append_getElem (by simpa using hiM), List.getElem_set_self, List.take_set_of_le (Nat.le_refl _)]
          · rw [List.getD_eq_getElem?_getD, List.getElem?_set_ne (by omega), ← List.getD_eq_getElem?_getD]
            exact HD.out t (by omega)
        case measure => simp [intOf]; omega
      · rw [hq] at HCALL
        go_wp2_with (go_at_fn g; refine HCALL.mono ?_; rintro e w2 ⟨rfl, hb2⟩)
        go_roundw
        case rel => exact ⟨i, j + 1, rfl, by go_num, by omega, (by rw [HS.out, hq, if_pos rfl]; exact HII.out), by omega, (HG.out.andThen (World.grownBy_alloc _ _ (some gb)) (fun _ h => .inr h)).andThen (grownB hb2 (some gb)) (fun _ h => .inr h), M, HMM.out, by rw [HS.out, hq, if_pos rfl]; exact HK.out, fun t ht => HD.out t (by omega), rw_same HO.out fun k hk => (hb2.block k (by have := (HO.out.lt k hk).2; simp; omega)).trans (heap_alloc_old _ _ (HO.out.lt k hk).2)⟩
        case measure => simp [intOf]; omega
    · have hje : j = L.length := by omega
      subst hje
      have hdl : decide (L.length < L.length) = false := by simp
      rw [rwKept_all] at hi htk
      generalize hK : L.filter (fun e => !p e) = K at *
      subst hi
      have hic : K.length < cap := by omega
      have hce : ((K.length : Int) == (cap : Int)) = false := by simp; omega
      have hcl := fun ty => kp_clear wr ty gb (K.length * 6) (L.length - K.length) (cap - K.length) (by omega) (fun t ht => rw_some hown (by rw [hM]; omega)) (fun t _ => rw_froz hown _)
      have hsc := rw_setCells (Builtin.zeroCells kpZ (L.length - K.length)).toList (K.length * 6) wr _ (rw_cut hown (k := K.length) (by rw [hM]; omega))
      rw [rwC_take kpC_len, htk, rwSets_far _ _ _ (Nat.le_of_eq (rwC_length kpC_len _))] at hsc
      have hsg := rw_gsets (w := wr) (g := gb) (Builtin.zeroCells kpZ (L.length - K.length)).toList (K.length * 6) wr (World.grownBy.refl wr _)
      have HSC := Lib.hid hsc
      have HSG := Lib.hid hsg
      have HG := Lib.hid hg
      have HKK := Lib.hid hK
      clear hsc hg hdr hown htk hK hsg
      go_wp2_with fail
      go_ret
      rw [HKK.out]
      exact ⟨rfl, HG.out.andThen HSG.out (fun _ h => .inr h), HSC.out⟩

/-- slices.DeleteFunc, whatever goes. -/
theorem kp_del (A : Option Addr) (cap : Nat) (L : List Kp) (g : Nat) (lb : Array Value) (p : Kp → Bool) (w : World) (eg : ∀ args w, (callFunc g args).run Tryz.prog w = .ok (.enter g args) w)
    (h : kpOwn w 0 (.slice A L.length cap) L) (hl : L.length ≤ 1000000) (hp : ∀ wr, w.grownBy wr (Value.slice A L.length cap).ownBlock → kpPred g lb p L wr) :
    Calls Tryz.prog 21 #[.slice A L.length cap, .func (.func g) #[] lb] w
      fun e w' => e = .returned (.slice A (L.filter (fun e => !p e)).length cap) ∧ w.grownBy w' (Value.slice A L.length cap).ownBlock ∧
        kpOwn w' 0 (.slice A (L.filter (fun e => !p e)).length cap) (L.filter (fun e => !p e)) := by
  rcases rwIdx_any p L with ⟨h1, h2⟩ | ⟨h1, h2⟩
  · obtain ⟨i, hr⟩ := rwIdx_found h2
    obtain ⟨hi, _, _⟩ := rwIdx_spec (d := noKp) hr
    obtain ⟨gb, rfl⟩ : ∃ gb, A = some ⟨gb, 0, none⟩ := by
      rcases h.2 with ⟨h1, h2⟩ | ⟨g, cap', cur, h1, _⟩
      · omega
      · injection h1 with h1; exact ⟨g, h1⟩
    exact kp_delSome gb cap L g lb p w eg h hl hp i hi hr
  · have hall : ∀ e ∈ L, p e = false := fun e he => by
      cases hq : p e with
      | false => rfl
      | true => rw [List.any_eq_true.2 ⟨e, he, hq⟩] at h1; cases h1
    have hf : L.filter (fun e => !p e) = L := List.filter_eq_self.2 fun e he => by simp [hall e he]
    refine (kp_delNone A cap L g lb p w eg (rw_at' kpC_len h) hl (hp w (World.grownBy.refl w _)) h2).mono ?_
    rintro e w' ⟨rfl, hb⟩
    rw [hf]
    exact ⟨rfl, grownB hb _, rw_same h fun k hk => hb.block k (h.lt k hk).2⟩

theorem kp_info : (Tryz.prog.info? 66).map (fun i => (i.zero, i.size, i.bytes)) = some (some (.agg #[.string ⟨#[]⟩, .int .i64 0, .int .i64 0, .int .i64 0, .int .i64 0, .slice none 0 0]), 6, 72) := by kernel_rfl
theorem kpC_one (e : Kp) : ∀ u ∈ kpC e, u.oneCell' = true := by
  intro u hu
  simp only [kpC, List.mem_cons, List.not_mem_nil, or_false] at hu
  rcases hu with rfl | rfl | rfl | rfl | rfl | rfl <;> rfl
theorem kps_one (L : List Kp) : ∀ u ∈ rwC kpC L, u.oneCell' = true := by
  intro u hu
  obtain ⟨x, _, hx⟩ := List.mem_flatMap.1 hu
  exact kpC_one x u hx
/-- Cells of a row, one after the other. -/
theorem kp_flat {w : World} {b off : Nat} {L : List Kp} (h : kpAt w (some ⟨b, off, none⟩) L) (j : Nat) (u : Value) (hu : (rwC kpC L)[j]? = some u) : w.cell? ⟨b, off + j, none⟩ = some u := by
  have hj := (List.getElem?_eq_some_iff.1 hu).1
  rw [rwC_length kpC_len] at hj
  have hi : j / 6 < L.length := by omega
  obtain ⟨g, off', e, _, hc⟩ := h (j / 6) hi
  injection e with e
  simp only [Addr.mk.injEq, and_true] at e
  obtain ⟨rfl, rfl⟩ := e
  have hm : j = j / 6 * 6 + j % 6 := by omega
  rw [hm, rwC_at (d := noKp) kpC_len L _ _ hi (by omega)] at hu
  have := hc (j % 6) u hu
  rwa [Nat.add_assoc, ← hm] at this

theorem kp_setsMid (xs vs : List Value) (o : Nat) (h : o + vs.length ≤ xs.length) : rwSets xs o vs = xs.take o ++ vs ++ xs.drop (o + vs.length) := by
  have e : xs = xs.take o ++ (xs.drop o).take vs.length ++ xs.drop (o + vs.length) := by
    rw [List.append_assoc, ← List.drop_drop, List.take_append_drop, List.take_append_drop]
  have := rwSets_whole vs ((xs.drop o).take vs.length) (xs.drop (o + vs.length)) (xs.take o) (by simp; omega)
  rw [← e, List.length_take, Nat.min_eq_left (by omega)] at this
  exact this
theorem kpC_drop (M : List Kp) (k : Nat) : (rwC kpC M).drop (k * 6) = rwC kpC (M.drop k) := by
  have h1 := rwC_take kpC_len M k
  have h2 : rwC kpC M = rwC kpC (M.take k) ++ rwC kpC (M.drop k) := by
    unfold rwC
    rw [← List.flatMap_append, List.take_append_drop]
  rcases Nat.lt_or_ge k M.length with h | h
  · rw [h2, List.drop_append_of_le_length (by rw [rwC_length kpC_len]; simp; omega), List.drop_of_length_le (by rw [rwC_length kpC_len]; simp; omega)]
    rfl
  · rw [List.drop_of_length_le (by rw [rwC_length kpC_len]; omega), List.drop_of_length_le h]
    rfl
set_option maxHeartbeats 4000000 in
set_option maxRecDepth 1000000 in
/-- slices.Delete of element i. -/
theorem kp_cut (gb cap i : Nat) (L : List Kp) (w : World) (h : kpOwn w 0 (.slice (some ⟨gb, 0, none⟩) L.length cap) L) (hi : i < L.length) :
    Calls Tryz.prog 24 #[.slice (some ⟨gb, 0, none⟩) L.length cap, .int .i64 i, .int .i64 (i + 1 : Nat)] w
      fun e w' => e = .returned (.slice (some ⟨gb, 0, none⟩) (L.take i ++ L.drop (i + 1)).length cap) ∧ w.grownBy w' (some gb) ∧
        kpOwn w' 0 (.slice (some ⟨gb, 0, none⟩) (L.take i ++ L.drop (i + 1)).length cap) (L.take i ++ L.drop (i + 1)) := by
  obtain ⟨i0, hi0, hz0, hz1, hz2⟩ := info_parts kp_info
  have hcap := rw_cap h
  obtain ⟨news, hnews⟩ : ∃ news, news = rwC kpC (L.drop (i + 1)) := ⟨_, rfl⟩
  have hlen : news.length = (L.length - (i + 1)) * 6 := by rw [hnews, rwC_length kpC_len]; simp
  have hE : kpAt w (some ⟨gb, 0, none⟩) L := rw_at' kpC_len h
  have hnd : news = (rwC kpC L).drop ((i + 1) * 6) := by rw [hnews, kpC_drop]
  have hflat : ∀ t u, news[t]? = some u → w.cell? ⟨gb, (i + 1) * 6 + t, none⟩ = some u := by
    intro t u hu
    rw [hnd, List.getElem?_drop] at hu
    have := kp_flat hE _ u hu
    rwa [Nat.zero_add] at this
  obtain ⟨A, hA, hsrc⟩ : ∃ A : Addr, (if cap = i + 1 then some (⟨gb, 0, none⟩ : Addr) else some ⟨gb, (i + 1) * 6, none⟩) = some A ∧ Hid (∀ t u, news[t]? = some u → w.drew.cell? (A.add t) = some u) := by
    by_cases hci : cap = i + 1
    · refine ⟨⟨gb, 0, none⟩, by simp [hci], Lib.hid fun t u hu => ?_⟩
      have h0 : news.length = 0 := by rw [hlen]; omega
      rw [List.length_eq_zero_iff.1 h0] at hu
      simp at hu
    · refine ⟨⟨gb, (i + 1) * 6, none⟩, by simp [hci], Lib.hid fun t u hu => ?_⟩
      rw [Addr.add_lit]
      exact hflat t u hu
  have s1 : Hid (news.length = (L.length - (i + 1)) * 6) := Lib.hid hlen
  have s2 : Hid (∀ u ∈ news, u.oneCell' = true) := Lib.hid (by rw [hnews]; exact kps_one _)
  have s3 : Hid (∀ t, t < news.length → (w.drew.cell? ⟨gb, 0 + i * 6 + t, none⟩).isSome = true ∧ w.drew.frozen? ⟨gb, 0 + i * 6 + t, none⟩ = false) := Lib.hid (by
    intro t ht
    rw [hlen] at ht
    rw [Nat.zero_add]
    exact ⟨rw_some (w := w) h (by omega), rw_froz (w := w) h _⟩)
  obtain ⟨W1, hW1⟩ : ∃ W1, W1 = w.drew.setCells gb (0 + i * 6) news := ⟨_, rfl⟩
  have hd : kpOwn w.drew 0 (.slice (some ⟨gb, 0, none⟩) L.length cap) L := rw_same h fun _ _ => rfl
  have ho1 := rw_setCells news (0 + i * 6) _ _ hd
  rw [← hW1, Nat.zero_add, kp_setsMid _ _ _ (by rw [hlen, rwC_length kpC_len]; omega)] at ho1
  have hg1 : w.grownBy W1 (some gb) := by
    rw [hW1]
    exact rw_gsets _ _ _ (drew_grown (World.grownBy.refl _ _))
  have hK : (L.take i ++ L.drop (i + 1)).length = i + (L.length - (i + 1)) := by simp; omega
  have hkl : i + (L.length - (i + 1)) < L.length := by omega
  have ho2 := rw_cut ho1 (k := i + (L.length - (i + 1))) (by omega)
  have hrow : (((rwC kpC L).take (i * 6) ++ news ++ (rwC kpC L).drop (i * 6 + news.length)).take ((i + (L.length - (i + 1))) * 6)) = rwC kpC (L.take i ++ L.drop (i + 1)) := by
    have e1 : ((rwC kpC L).take (i * 6) ++ news).length = (i + (L.length - (i + 1))) * 6 := by
      rw [List.length_append, hlen, List.length_take, rwC_length kpC_len]; omega
    rw [List.take_append_of_le_length (by omega), List.take_of_length_le (by omega), rwC_take kpC_len, hnews]
    unfold rwC
    rw [List.flatMap_append]
  rw [hrow] at ho2
  have hcl : ∀ ty, (Builtin.clear_ #[54] ty #[.slice (some ⟨gb, (i + (L.length - (i + 1))) * 6, none⟩) (L.length - (i + (L.length - (i + 1)))) (cap - (i + (L.length - (i + 1))))]).run Tryz.prog W1 = .ok (.tuple #[]) (W1.setCells gb ((i + (L.length - (i + 1))) * 6) (Builtin.zeroCells kpZ (L.length - (i + (L.length - (i + 1))))).toList) :=
    fun ty => kp_clear W1 ty gb _ _ _ (by omega) (fun t ht => rw_some ho1 (by omega)) (fun t _ => rw_froz ho1 _)
  have ho3 := rw_setCells (Builtin.zeroCells kpZ (L.length - (i + (L.length - (i + 1))))).toList ((i + (L.length - (i + 1))) * 6) W1 _ ho2
  rw [rwSets_far _ _ _ (by rw [rwC_length kpC_len]; omega)] at ho3
  have hg3 := rw_gsets (w := w) (g := gb) (Builtin.zeroCells kpZ (L.length - (i + (L.length - (i + 1))))).toList ((i + (L.length - (i + 1))) * 6) W1 hg1
  have HO := Lib.hid ho3
  have HG := Lib.hid hg3
  have HK := Lib.hid hK
  have hW : Hid (W1 = w.drew.setCells gb (0 + i * 6) news) := Lib.hid hW1
  have hic : i ≤ cap := by omega
  have hjc : i + 1 ≤ cap := by omega
  have hie : ((i : Int) == ((i + 1 : Nat) : Int)) = false := by simp; omega
  have hcn : ¬ (cap = i + (L.length - (i + 1))) := by omega
  have mixed : Tryz.prog.follows .mixedOrders = true := by kernel_rfl
  have q1 : ((i : Int) + 1).toNat = i + 1 := by omega
  have q2 : 0 ≤ (i : Int) + 1 := by omega
  have q3 : (i : Int) + 1 ≤ (L.length : Int) := by omega
  have q4 : (i : Int) + 1 ≤ (cap : Int) := by omega
  clear hW1 ho1 ho2 ho3 hg1 hg3 hd h hE hflat hnd hnews hlen hrow hK hz0 hz2
  go_enter Tryz.func24, Tryz.ntmps24
  go_wp2_with fail
  go_region_law_o (refine step_append_room rfl (.tmp 22) (.tmp 25) 54 rfl 66 i0 6 Tryz.underlying54 hi0 hz1 gb 0 i cap (by simp [Act.eval, Act.put]) A (L.length - (i + 1)) (cap - (i + 1)) news (by simp [Act.eval, Act.put]) s1.out hsrc.out s2.out (by omega) s3.out ?_; rw [← hW.out])
  go_wp2_with fail
  go_ret
  refine ⟨by rw [HK.out]; rfl, HG.out, ?_⟩
  unfold kpOwn
  rw [HK.out]
  exact HO.out

end Go.Proofs.YtedpjecbfcogcaaGreatDoor
