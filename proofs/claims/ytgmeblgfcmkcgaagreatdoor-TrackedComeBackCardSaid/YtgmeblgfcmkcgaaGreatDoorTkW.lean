/- TrackedComeBack: the walk. -/
import Derived.Test.YtgmeblgfcmkcgaaGreatDoorTkI
import Derived.Test.YtgmeblgfcmkcgaaGreatDoorTkO
import Derived.Test.YtgmeblgfcmkcgaaGreatDoorTkN
import Derived.Test.YtgmeblgfcmkcgaaGreatDoorTkP
import Derived.Test.YtgmeblgfcmkcgaaGreatDoorRyF
namespace Go.Proofs.YtgmeblgfcmkcgaaGreatDoor
open Go.RowKit Go.Hw Go.Shelf

theorem DS.chg {w0 w w' : World} {b : Nat} {A : Option Addr} {cap : Nat} {l : List Int} {at_ m : Int} {bs : List Bk} {F : Nat → Prop} (h : DS w0 w b A cap l at_ m bs) (hc : Rchg F w w') (hF : ∀ k, F k → w0.heap.size ≤ k ∧ ∀ p ∈ bs, p.1 ≠ k) : DS w0 w' b A cap l at_ m bs := by
  obtain ⟨x, h1, h2, h3, h4⟩ := h.to
  have hb0 := h.b0
  have hl := h3.lt
  refine ⟨⟨x, h1, h2, h3.keep (hc.block b hl (fun e => by have := (hF b e).1; omega)) (fun p hp => World.cell?_of_block (hc.block p.block (by omega) (fun e => by have := (hF _ e).1; omega))), ⟨hc.os.trans h4.os, hc.tape.trans h4.tape, hc.output.trans h4.output, Nat.le_trans h4.size hc.size, fun k hk hn => ?_⟩⟩, fun p hp => ?_, h.own, h.ne, h.b0⟩
  · exact (hc.block k (Nat.lt_of_lt_of_le hk h4.size) (fun e => by have := (hF k e).1; omega)).trans (h4.block k hk hn)
  · exact (hc.block p.1 (lt_of_block (h.blk p hp)) (fun e => (hF _ e).2 p hp rfl)).trans (h.blk p hp)
theorem DS.sub {w0 w : World} {b : Nat} {A : Option Addr} {cap : Nat} {l : List Int} {at_ m : Int} {bs bs' : List Bk} (h : DS w0 w b A cap l at_ m bs) (hs : bs'.Sublist bs) : DS w0 w b A cap l at_ m bs' :=
  ⟨h.to, fun p hp => h.blk p (hs.subset hp), fun p hp => h.own p (hs.subset hp), (hs.map (·.1)).nodup h.ne, h.b0⟩
theorem DS.packet {w0 w : World} {b : Nat} {A : Option Addr} {cap : Nat} {l : List Int} {at_ m : Int} {bs : List Bk} (h : DS w0 w b A cap l at_ m bs) (hm : at_ + m < 1099511610000) :
    Calls Tryz.prog 6 #[.pointer (some ⟨b, 0, none⟩)] w fun e w' => (∃ p : Pk, PkOk p ∧ e = .returned (.agg (pkA p))) ∧ DS w0 w' b A cap l at_ (m + 100) bs ∧ w.grownBy w' (some b) :=
  h.call fun x _ hx hs => (rightPacket_any b A cap l x w hs (by omega)).mono fun e w' ⟨⟨p, pay, hp, he, _⟩, ht⟩ => ⟨⟨p, hp, he⟩, ht⟩
/-- How the ends are swapped: what is a cell of the packet that goes back stays one. -/
def VMix (Q : Nat) (p : Pk) (J : List Nat) : World → Value → Prop := fun w _ => ∀ j ∈ J, ∀ v, (pkA (backP p))[j]? = some v → w.cell? ⟨Q, j, none⟩ = some v
def GrMix (Q : Nat) (p : Pk) (w w' : World) : Prop := ∀ j v, (pkA (backP p))[j]? = some v → w.cell? ⟨Q, j, none⟩ = some v → w'.cell? ⟨Q, j, none⟩ = some v
def GMix (W1 : World) (b : Nat) (A : Option Addr) (cap : Nat) (l : List Int) (Q P T : Nat) (p : Pk) (w : World) : Prop :=
  ∃ cs : Array Value, cs.size = 19 ∧ (∀ i, i ∉ [0, 1, 2, 3, 4, 5, 8, 9] → cs[i]? = (pkA (backP p))[i]?) ∧ DS W1 w b A cap l 0 100 [(Q, cs, 37), (P, pkA (stillP p), 37), (T, tkB 0 none 0 0, 61)]
theorem GrMix.refl (Q : Nat) (p : Pk) (w : World) : GrMix Q p w w := fun _ _ _ h => h
theorem GrMix.trans {Q : Nat} {p : Pk} {w w1 w2 : World} (h : GrMix Q p w w1) (k : GrMix Q p w1 w2) : GrMix Q p w w2 := fun j v hv hc => k j v hv (h j v hv hc)
theorem VMix.stab {Q : Nat} {p : Pk} {J : List Nat} {w w' : World} {v : Value} (h : VMix Q p J w v) (hg : GrMix Q p w w') : VMix Q p J w' v := fun j hj u hu => hg j u hu (h j hj u hu)
theorem VMix.three {Q : Nat} {p : Pk} {a b c : Nat} {w : World} {x y z v : Value} (h1 : w.cell? ⟨Q, a, none⟩ = some x) (h2 : w.cell? ⟨Q, b, none⟩ = some y) (h3 : w.cell? ⟨Q, c, none⟩ = some z)
    (k1 : (pkA (backP p))[a]? = some x) (k2 : (pkA (backP p))[b]? = some y) (k3 : (pkA (backP p))[c]? = some z) : VMix Q p [a, b, c] w v := by
  intro j hj u hu
  simp only [List.mem_cons, List.mem_nil_iff, or_false] at hj
  rcases hj with rfl | rfl | rfl
  · rw [← hu, k1, h1]
  · rw [← hu, k2, h2]
  · rw [← hu, k3, h3]
theorem VMix.one {Q : Nat} {p : Pk} {a : Nat} {w : World} {x v : Value} (h1 : w.cell? ⟨Q, a, none⟩ = some x) (k1 : (pkA (backP p))[a]? = some x) : VMix Q p [a] w v := by
  intro j hj u hu
  obtain rfl := List.mem_singleton.1 hj
  rw [← hu, k1, h1]
section
variable {W1 w : World} {b : Nat} {A : Option Addr} {cap : Nat} {l : List Int} {Q P T : Nat} {p : Pk}
theorem GMix.start (h : DS W1 w b A cap l 0 100 [(Q, pkA (stillP p), 37), (P, pkA (stillP p), 37), (T, tkB 0 none 0 0, 61)]) : GMix W1 b A cap l Q P T p w.drew := by
  refine ⟨pkA (stillP p), rfl, fun i hi => ?_, h.dr⟩
  simp only [List.mem_cons, List.mem_nil_iff, or_false, not_or] at hi
  rcases i with _ | _ | _ | _ | _ | _ | _ | _ | _ | _ | _ | _ | _ | _ | _ | _ | _ | _ | _ | i <;> first | rfl | (exfalso; omega)
theorem mix_st (h : GMix W1 b A cap l Q P T p w) {j : Nat} {v : Value} (hv : (pkA (backP p))[j]? = some v) (hj : j ∈ [0, 1, 2, 3, 4, 5, 8, 9]) :
    GMix W1 b A cap l Q P T p (w.setCell ⟨Q, j, none⟩ v) ∧ GrMix Q p w (w.setCell ⟨Q, j, none⟩ v) ∧ (w.setCell ⟨Q, j, none⟩ v).cell? ⟨Q, j, none⟩ = some v := by
  obtain ⟨cs, h1, h2, hD⟩ := h
  have hD' := hD.set 0 j v rfl
  have hj19 : j < cs.size := by
    rw [h1]
    simp only [List.mem_cons, List.mem_nil_iff, or_false] at hj
    omega
  have hc := hD'.cell 0 j rfl (u := v) (by show (cs.setIfInBounds j v)[j]? = _; rw [Array.getElem?_setIfInBounds_self_of_lt hj19])
  refine ⟨⟨cs.setIfInBounds j v, by simp [h1], fun i hi => ?_, hD'⟩, fun i u hu hx => ?_, hc⟩
  · rw [Array.getElem?_setIfInBounds_ne (fun e => hi (by rw [← e]; exact hj))]
    exact h2 i hi
  · by_cases e : i = j
    · subst e
      rw [hv] at hu
      rw [← hu]
      exact hc
    · rw [World.cell?_setCell_other _ _ _ _ (by intro c; injection c with _ c2; exact e c2.symm)]
      exact hx
theorem mix_fin (h : GMix W1 b A cap l Q P T p w) {v1 v2 v3 : Value} (a1 : VMix Q p [0, 1, 2] w v1) (a2 : VMix Q p [3, 4, 5] w v2) (a3 : VMix Q p [8] w v3) (a4 : w.cell? ⟨Q, 9, none⟩ = some (.int .i64 p.f.fp)) :
    DS W1 w b A cap l 0 100 [(Q, pkA (backP p), 37), (P, pkA (stillP p), 37), (T, tkB 0 none 0 0, 61)] := by
  obtain ⟨cs, h1, h2, hD⟩ := h
  have hc : ∀ j, w.cell? ⟨Q, j, none⟩ = cs[j]? := fun j => cell_of (hD.blk _ (List.mem_of_getElem? (i := 0) rfl)) j
  have e : cs = pkA (backP p) := by
    apply Array.ext_getElem?
    intro i
    by_cases hi : i ∈ [0, 1, 2, 3, 4, 5, 8, 9]
    · rw [← hc]
      simp only [List.mem_cons, List.mem_nil_iff, or_false] at hi
      rcases hi with rfl | rfl | rfl | rfl | rfl | rfl | rfl | rfl
      · exact a1 0 (by simp) _ rfl
      · exact a1 1 (by simp) _ rfl
      · exact a1 2 (by simp) _ rfl
      · exact a2 3 (by simp) _ rfl
      · exact a2 4 (by simp) _ rfl
      · exact a2 5 (by simp) _ rfl
      · exact a3 8 (by simp) _ rfl
      · exact a4
    · exact h2 i hi
  rw [e] at hD
  exact hD
theorem mix_cells (h : GMix W1 b A cap l Q P T p w) : (w.cell? ⟨P, 0, none⟩ = some (.bool p.f.s6) ∧ w.cell? ⟨P, 1, none⟩ = some (.int .u64 p.f.sh) ∧ w.cell? ⟨P, 2, none⟩ = some (.int .u64 p.f.sl) ∧ w.cell? ⟨P, 3, none⟩ = some (.bool p.f.t6) ∧ w.cell? ⟨P, 4, none⟩ = some (.int .u64 p.f.th) ∧ w.cell? ⟨P, 5, none⟩ = some (.int .u64 p.f.tl) ∧ w.cell? ⟨P, 8, none⟩ = some (.int .i64 p.f.fp) ∧ w.cell? ⟨P, 9, none⟩ = some (.int .i64 p.f.tp)) ∧
    ((∃ x, w.cell? ⟨Q, 0, none⟩ = some x) ∧ (∃ x, w.cell? ⟨Q, 1, none⟩ = some x) ∧ (∃ x, w.cell? ⟨Q, 2, none⟩ = some x) ∧ (∃ x, w.cell? ⟨Q, 3, none⟩ = some x) ∧ (∃ x, w.cell? ⟨Q, 4, none⟩ = some x) ∧ (∃ x, w.cell? ⟨Q, 5, none⟩ = some x) ∧ (∃ x, w.cell? ⟨Q, 8, none⟩ = some x) ∧ (∃ x, w.cell? ⟨Q, 9, none⟩ = some x)) ∧
    w.frozen? ⟨Q, 0, none⟩ = false ∧ w.frozen? ⟨Q, 1, none⟩ = false ∧ w.frozen? ⟨Q, 2, none⟩ = false ∧ w.frozen? ⟨Q, 3, none⟩ = false ∧ w.frozen? ⟨Q, 4, none⟩ = false ∧ w.frozen? ⟨Q, 5, none⟩ = false ∧ w.frozen? ⟨Q, 8, none⟩ = false ∧ w.frozen? ⟨Q, 9, none⟩ = false := by
  obtain ⟨cs, h1, h2, hD⟩ := h
  have hc : ∀ j, j < 19 → ∃ x, w.cell? ⟨Q, j, none⟩ = some x := fun j hj => ⟨cs[j]'(by omega), (cell_of (hD.blk _ (List.mem_of_getElem? (i := 0) rfl)) j).trans (by simp)⟩
  exact ⟨⟨hD.cell 1 0 rfl rfl, hD.cell 1 1 rfl rfl, hD.cell 1 2 rfl rfl, hD.cell 1 3 rfl rfl, hD.cell 1 4 rfl rfl, hD.cell 1 5 rfl rfl, hD.cell 1 8 rfl rfl, hD.cell 1 9 rfl rfl⟩,
    ⟨hc 0 (by omega), hc 1 (by omega), hc 2 (by omega), hc 3 (by omega), hc 4 (by omega), hc 5 (by omega), hc 8 (by omega), hc 9 (by omega)⟩,
    hD.froz 0 0 rfl, hD.froz 0 1 rfl, hD.froz 0 2 rfl, hD.froz 0 3 rfl, hD.froz 0 4 rfl, hD.froz 0 5 rfl, hD.froz 0 8 rfl, hD.froz 0 9 rfl⟩
end
set_option maxRecDepth 100000 in
set_option maxHeartbeats 4000000 in
theorem trackedComeBack_any (A : Option Addr) (cap : Nat) (l : List Int) (w : World) (hA : ∀ i, i < l.length → ∃ g off, A = some ⟨g, off, none⟩ ∧ g < w.heap.size ∧ w.cell? ⟨g, off + i, none⟩ = some (.int .i64 (l.getD i 0)))
    (hfits : ∀ i, -9223372036854775808 ≤ l.getD i 0 ∧ l.getD i 0 ≤ 9223372036854775807) (hlong : l.length ≤ 17592186044416) (hmx : MxW w) :
    Calls Tryz.prog 3 #[.slice A l.length cap] w fun e w' => e = .returned (.bool true) ∧ Below w.heap.size w w' := by
  have hs0 : Str (w.alloc (.cells #[.slice A l.length cap, .int .i64 0] 25)) w.heap.size A cap l 0 := {
    cell := heap_alloc_new w _
    ints := fun i hi => by
      obtain ⟨g, off, h1, h2, h3⟩ := hA i hi
      exact ⟨g, off, h1, h2, by rw [World.cell?_alloc_lt _ _ _ h2]; exact h3⟩
    fits := hfits
    long := hlong
    low := by omega
    high := by omega }
  have hB0 : Below w.heap.size w (w.alloc (.cells #[.slice A l.length cap, .int .i64 0] 25)) := (Below.refl _ _).alloc (Nat.le_refl _) _
  have HS := Lib.hid hs0
  have HB := Lib.hid hB0
  have HM := Lib.hid hmx
  clear hs0 hB0 hA hfits hmx
  go_enter Tryz.func3, Tryz.ntmps3
  go_upto_region 2 with (fail)
  generalize hW : World.alloc _ _ = W1 at HS HB ⊢
  clear hW
  have D0 := DS.start HS.out
  have hb0 := HS.out.lt
  have al4 := Lib.hid (D0.alo (.cells #[.int .i64 10, .int .i64 100, .int .i64 5, .int .i64 50] 27))
  clear D0
  go_wp2_with fail
  refine (new_law _).mono ?_
  rintro e W2 ⟨T, rfl, hT, hTb, hb2⟩
  have D1 := (al4.out.bl hb2).view hTb (by simp at hT; omega) (by simp)
  clear al4 hb2 hTb
  go_wp2_with fail
  refine (D1.packet (by omega)).mono ?_
  rintro e W3 ⟨⟨p, hp, rfl⟩, D2, -⟩
  have D3 := D2.al (pkA noPk0) 37
  clear D1 D2
  dsimp only
  go_step
  go_step
  first | refine store_step (vs := pkA p) rfl rfl (D3.blk _ (List.mem_of_getElem? (i := 0) rfl)) (by rfl) (by kernel_rfl) (by simp [Value.oneCell', pkA]) (fun W4 hr => ?_) | (go_step; refine store_step (vs := pkA p) rfl rfl (D3.blk _ (List.mem_of_getElem? (i := 0) rfl)) (by rfl) (by kernel_rfl) (by simp [Value.oneCell', pkA]) (fun W4 hr => ?_)) | (go_step; go_step; refine store_step (vs := pkA p) rfl rfl (D3.blk _ (List.mem_of_getElem? (i := 0) rfl)) (by rfl) (by kernel_rfl) (by simp [Value.oneCell', pkA]) (fun W4 hr => ?_)) | (go_step; go_step; go_step; refine store_step (vs := pkA p) rfl rfl (D3.blk _ (List.mem_of_getElem? (i := 0) rfl)) (by rfl) (by kernel_rfl) (by simp [Value.oneCell', pkA]) (fun W4 hr => ?_))
  have D4 := D3.re 0 rfl hr
  clear D3 hr
  generalize hP : W3.heap.size = P at D4 ⊢
  clear hP
  have D5 : DS W1 W4 w.heap.size A cap l 0 100 [(P, pkA p, 37), (T, tkB 0 none 0 0, 61)] := D4
  clear D4
  have c11 := D5.cell 0 11 rfl rfl
  have c12 := D5.cell 0 12 rfl rfl
  have f11 := D5.froz 0 11 rfl
  have f12 := D5.froz 0 12 rfl
  go_upto_region 8 with (fail)
  generalize hW : World.setCell _ _ _ = W5
  have D6 : DS W1 W5 w.heap.size A cap l 0 100 [(P, pkA (stillP p), 37), (T, tkB 0 none 0 0, 61)] := by
    rw [← hW]
    exact (D5.set 0 11 _ rfl).set 0 12 _ rfl
  clear hW D5 c11 c12 f11 f12
  have D7 := D6.al (pkA noPk0) 37
  go_step
  go_step
  first | refine load_step rfl (D6.blk _ (List.mem_of_getElem? (i := 0) rfl)) (by kernel_rfl) (by kernel_rfl) ?_ | (go_step; refine load_step rfl (D6.blk _ (List.mem_of_getElem? (i := 0) rfl)) (by kernel_rfl) (by kernel_rfl) ?_) | (go_step; go_step; refine load_step rfl (D6.blk _ (List.mem_of_getElem? (i := 0) rfl)) (by kernel_rfl) (by kernel_rfl) ?_) | (go_step; go_step; go_step; refine load_step rfl (D6.blk _ (List.mem_of_getElem? (i := 0) rfl)) (by kernel_rfl) (by kernel_rfl) ?_)
  clear D6
  go_step
  go_step
  first | refine store_step (vs := pkA (stillP p)) rfl rfl (D7.blk _ (List.mem_of_getElem? (i := 0) rfl)) (by rfl) (by kernel_rfl) (by simp [Value.oneCell', pkA]) (fun W6 hr => ?_) | (go_step; refine store_step (vs := pkA (stillP p)) rfl rfl (D7.blk _ (List.mem_of_getElem? (i := 0) rfl)) (by rfl) (by kernel_rfl) (by simp [Value.oneCell', pkA]) (fun W6 hr => ?_)) | (go_step; go_step; refine store_step (vs := pkA (stillP p)) rfl rfl (D7.blk _ (List.mem_of_getElem? (i := 0) rfl)) (by rfl) (by kernel_rfl) (by simp [Value.oneCell', pkA]) (fun W6 hr => ?_)) | (go_step; go_step; go_step; refine store_step (vs := pkA (stillP p)) rfl rfl (D7.blk _ (List.mem_of_getElem? (i := 0) rfl)) (by rfl) (by kernel_rfl) (by simp [Value.oneCell', pkA]) (fun W6 hr => ?_))
  have D8 := D7.re 0 rfl hr
  clear D7 hr
  generalize hQ : W5.heap.size = Q at D8 ⊢
  clear hQ
  have D9 : DS W1 W6 w.heap.size A cap l 0 100 [(Q, pkA (stillP p), 37), (P, pkA (stillP p), 37), (T, tkB 0 none 0 0, 61)] := D8
  clear D8
  have hPQ : P ≠ Q := by
    have h := D9.ne
    simp at h
    exact fun e => h.1.1 e.symm
  have HD9 := Lib.hid D9
  clear D9
  go_upto_region 9 with (fail)
  go_cut [] (fun wc => DS W1 wc w.heap.size A cap l 0 100 [(Q, pkA (backP p), 37), (P, pkA (stillP p), 37), (T, tkB 0 none 0 0, 61)])
  case first =>
    -- REGION9 BEGIN
    refine wp_region_drawn 15 (fun f' => ⟨#[.slice A l.length cap, undef, .bool false, .pointer (some ⟨w.heap.size, 0, none⟩), .pointer (some ⟨W1.heap.size, 0, none⟩), .pointer (some ⟨T, 0, none⟩), .int .i64 0, .pointer (some ⟨P, 0, none⟩), .pointer (some ⟨Q, 0, none⟩), undef, undef, undef, undef, undef, undef, undef, undef, undef, undef, undef, .slice A l.length cap, .agg #[.slice A l.length cap, .int .i64 0], .pointer (some ⟨w.heap.size, 0, none⟩), .agg #[.int .i64 10, .int .i64 100, .int .i64 5, .int .i64 50], .tuple #[.pointer (some ⟨T, 0, none⟩), .int .i64 0], .agg #[.int .i64 10, .int .i64 100, .int .i64 5, .int .i64 50], .tuple #[.pointer (some ⟨T, 0, none⟩), .int .i64 0], .pointer (some ⟨T, 0, none⟩), .int .i64 0, .int .i64 0, .bool false, .bool false, .pointer (some ⟨T, 0, none⟩), .bool false, .bool false, .pointer (some ⟨w.heap.size, 0, none⟩), .agg (pkA p), .pointer (some ⟨P, 11, none⟩), .pointer (some ⟨P, 12, none⟩), .agg (pkA (stillP p)), f' 0, f' 1, f' 2, f' 3, f' 4, f' 5, f' 6, f' 7, f' 8, f' 10, f' 12, f' 14, undef, undef, undef, undef, undef, undef, undef, undef, undef, undef, undef, undef, undef, undef, undef, undef, undef, undef, undef, undef, undef, undef, undef, undef, undef, undef, undef, undef, undef, undef, undef, undef, undef, undef, undef, undef, undef, undef, undef, undef, undef, undef, undef, undef, undef, undef, undef, undef, undef, undef, undef, undef, undef, undef, undef, undef, undef, undef, undef, undef, undef, undef, undef, undef, undef, undef, undef, undef, undef, undef, undef, undef, undef, undef, undef, undef, undef, undef, undef, undef], []⟩) (VL [VIs (.pointer (some ⟨P, 3, none⟩)), VIs (.agg #[.bool p.f.t6, .int .u64 p.f.th, .int .u64 p.f.tl]), VIs (.pointer (some ⟨P, 0, none⟩)), VIs (.agg #[.bool p.f.s6, .int .u64 p.f.sh, .int .u64 p.f.sl]), VIs (.pointer (some ⟨P, 9, none⟩)), VIs (.int .i64 p.f.tp), VIs (.pointer (some ⟨P, 8, none⟩)), VIs (.int .i64 p.f.fp), VIs (.pointer (some ⟨Q, 0, none⟩)), VMix Q p [0, 1, 2], VIs (.pointer (some ⟨Q, 3, none⟩)), VMix Q p [3, 4, 5], VIs (.pointer (some ⟨Q, 8, none⟩)), VMix Q p [8], VIs (.pointer (some ⟨Q, 9, none⟩))]) (fun _ w' => GMix W1 w.heap.size A cap l Q P T p w') (GrMix Q p) (fun _ => undef) (show Tryz.prog.follows .mixedOrders = true from by kernel_rfl) (by kernel_rfl) ?_ ?_ ?_ (GMix.start HD9.out)
    · exact fun i w w' v h hg => VL.stabG (Gr := GrMix Q p) (by
        intro q hq w w' v hv hg
        simp only [List.mem_cons, List.mem_nil_iff, or_false] at hq
        rcases hq with rfl | rfl | rfl | rfl | rfl | rfl | rfl | rfl | rfl | rfl | rfl | rfl | rfl | rfl | rfl <;> first | exact hv | exact VMix.stab hv hg) i w w' v h hg
    · intro i o ho0 ho f' w' k hk hG hd
      obtain ⟨⟨p0, p1, p2, p3, p4, p5, p8, p9⟩, ⟨⟨x0, q0⟩, ⟨x1, q1⟩, ⟨x2, q2⟩, ⟨x3, q3⟩, ⟨x4, q4⟩, ⟨x5, q5⟩, ⟨x8, q8⟩, ⟨x9, q9⟩⟩, g0, g1, g2, g3, g4, g5, g8, g9⟩ := mix_cells hG
      have HG := Lib.hid hG
      clear hG
      have hcase : i = 0 ∨ i = 1 ∨ i = 2 ∨ i = 3 ∨ i = 4 ∨ i = 5 ∨ i = 6 ∨ i = 7 ∨ i = 8 ∨ i = 9 ∨ i = 10 ∨ i = 11 ∨ i = 12 ∨ i = 13 ∨ i = 14 := by omega
      rcases hcase with rfl | rfl | rfl | rfl | rfl | rfl | rfl | rfl | rfl | rfl | rfl | rfl | rfl | rfl | rfl <;> (replace ho := Option.some.inj ho; subst ho)
      · unfold Oper.wp
        go_simp
        exact ⟨_, (by simp [upd]), rfl, HG.out, GrMix.refl _ _ _⟩
      · have e0 : f' 0 = _ := hd ⟨0, .data⟩ (by simp) rfl
        unfold Oper.wp
        go_simp
        exact ⟨_, (by simp [upd, e0]), rfl, HG.out, GrMix.refl _ _ _⟩
      · unfold Oper.wp
        go_simp
        exact ⟨_, (by simp [upd]), rfl, HG.out, GrMix.refl _ _ _⟩
      · have e2 : f' 2 = _ := hd ⟨2, .data⟩ (by simp) rfl
        unfold Oper.wp
        go_simp
        exact ⟨_, (by simp [upd, e2]), rfl, HG.out, GrMix.refl _ _ _⟩
      · unfold Oper.wp
        go_simp
        exact ⟨_, (by simp [upd]), rfl, HG.out, GrMix.refl _ _ _⟩
      · have e4 : f' 4 = _ := hd ⟨4, .data⟩ (by simp) rfl
        unfold Oper.wp
        go_simp
        exact ⟨_, (by simp [upd, e4]), rfl, HG.out, GrMix.refl _ _ _⟩
      · unfold Oper.wp
        go_simp
        exact ⟨_, (by simp [upd]), rfl, HG.out, GrMix.refl _ _ _⟩
      · have e6 : f' 6 = _ := hd ⟨6, .data⟩ (by simp) rfl
        unfold Oper.wp
        go_simp
        exact ⟨_, (by simp [upd, e6]), rfl, HG.out, GrMix.refl _ _ _⟩
      · unfold Oper.wp
        go_simp
        exact ⟨_, (by simp [upd]), rfl, HG.out, GrMix.refl _ _ _⟩
      · have e8 : f' 8 = _ := hd ⟨8, .data⟩ (by simp) rfl
        have e1 : f' 1 = _ := hd ⟨1, .data⟩ (by simp) rfl
        unfold Oper.wp
        go_simp
        obtain ⟨G0, r0, z0⟩ := mix_st HG.out (j := 0) rfl (by simp)
        obtain ⟨G1, r1, z1⟩ := mix_st G0 (j := 1) rfl (by simp)
        obtain ⟨G2, r2, z2⟩ := mix_st G1 (j := 2) rfl (by simp)
        exact ⟨undef, (by simp [upd, e8, e1]), VMix.three (v := undef) (r2 _ _ rfl (r1 _ _ rfl z0)) (r2 _ _ rfl z1) z2 rfl rfl rfl, G2, (r0.trans r1).trans r2⟩
      · unfold Oper.wp
        go_simp
        exact ⟨_, (by simp [upd]), rfl, HG.out, GrMix.refl _ _ _⟩
      · have e10 : f' 10 = _ := hd ⟨10, .data⟩ (by simp) rfl
        have e3 : f' 3 = _ := hd ⟨3, .data⟩ (by simp) rfl
        unfold Oper.wp
        go_simp
        obtain ⟨G0, r0, z0⟩ := mix_st HG.out (j := 3) rfl (by simp)
        obtain ⟨G1, r1, z1⟩ := mix_st G0 (j := 4) rfl (by simp)
        obtain ⟨G2, r2, z2⟩ := mix_st G1 (j := 5) rfl (by simp)
        exact ⟨undef, (by simp [upd, e10, e3]), VMix.three (v := undef) (r2 _ _ rfl (r1 _ _ rfl z0)) (r2 _ _ rfl z1) z2 rfl rfl rfl, G2, (r0.trans r1).trans r2⟩
      · unfold Oper.wp
        go_simp
        exact ⟨_, (by simp [upd]), rfl, HG.out, GrMix.refl _ _ _⟩
      · have e12 : f' 12 = _ := hd ⟨12, .data⟩ (by simp) rfl
        have e5 : f' 5 = _ := hd ⟨5, .data⟩ (by simp) rfl
        unfold Oper.wp
        go_simp
        obtain ⟨G0, r0, z0⟩ := mix_st HG.out (j := 8) rfl (by simp)
        exact ⟨undef, (by simp [upd, e12, e5]), VMix.one (v := undef) z0 rfl, G0, r0⟩
      · unfold Oper.wp
        go_simp
        exact ⟨_, (by simp [upd]), rfl, HG.out, GrMix.refl _ _ _⟩
    · intro o ho f' w' k hk hG hd
      obtain ⟨⟨p0, p1, p2, p3, p4, p5, p8, p9⟩, ⟨⟨x0, q0⟩, ⟨x1, q1⟩, ⟨x2, q2⟩, ⟨x3, q3⟩, ⟨x4, q4⟩, ⟨x5, q5⟩, ⟨x8, q8⟩, ⟨x9, q9⟩⟩, g0, g1, g2, g3, g4, g5, g8, g9⟩ := mix_cells hG
      have e14 : f' 14 = _ := hd 14 (by omega)
      have e7 : f' 7 = _ := hd 7 (by omega)
      obtain ⟨G0, r0, z0⟩ := mix_st hG (j := 9) (v := .int .i64 p.f.fp) rfl (by simp)
      have HF := Lib.hid (mix_fin G0 (VMix.stab (show VMix Q p [0, 1, 2] w' (f' 9) from hd 9 (by omega)) r0) (VMix.stab (show VMix Q p [3, 4, 5] w' (f' 11) from hd 11 (by omega)) r0) (VMix.stab (show VMix Q p [8] w' (f' 13) from hd 13 (by omega)) r0) z0)
      clear hG G0 r0 z0
      replace ho := Option.some.inj ho
      subst ho
      unfold Oper.wp
      go_simp
      go_step
      go_meet
      exact HF.out
    -- REGION9 END
  case rest =>
    clear HD9
    go_upto_region 10 with (fail)
    go_wp2_with fail
    refine (hcut.range (by omega) 0 1000 (by omega) (by omega) (by omega) (by omega)).mono ?_
    rintro e W7 ⟨⟨t0, ht0, ht1, rfl⟩, D1, -⟩
    clear hcut
    go_wp2_with fail
    refine (D1.packet (by omega)).mono ?_
    rintro e W8 ⟨⟨r, hr, rfl⟩, D2, -⟩
    clear D1
    have D3 := D2.al (pkA noPk0) 37
    clear D2
    dsimp only
    go_step
    go_step
    first | (go_step; refine store_step (vs := pkA r) rfl rfl (D3.blk _ (List.mem_of_getElem? (i := 0) rfl)) (by rfl) (by kernel_rfl) (by simp [Value.oneCell', pkA]) (fun W9 hr9 => ?_)) | (go_step; go_step; refine store_step (vs := pkA r) rfl rfl (D3.blk _ (List.mem_of_getElem? (i := 0) rfl)) (by rfl) (by kernel_rfl) (by simp [Value.oneCell', pkA]) (fun W9 hr9 => ?_)) | (go_step; go_step; go_step; refine store_step (vs := pkA r) rfl rfl (D3.blk _ (List.mem_of_getElem? (i := 0) rfl)) (by rfl) (by kernel_rfl) (by simp [Value.oneCell', pkA]) (fun W9 hr9 => ?_)) | (go_step; go_step; go_step; go_step; refine store_step (vs := pkA r) rfl rfl (D3.blk _ (List.mem_of_getElem? (i := 0) rfl)) (by rfl) (by kernel_rfl) (by simp [Value.oneCell', pkA]) (fun W9 hr9 => ?_))
    have D4 := D3.re 0 rfl hr9
    clear D3 hr9
    generalize hO : W8.heap.size = O at D4 ⊢
    clear hO
    have D5 : DS W1 W9 w.heap.size A cap l 0 202 [(O, pkA r, 37), (Q, pkA (backP p), 37), (P, pkA (stillP p), 37), (T, tkB 0 none 0 0, 61)] := D4.le (by omega)
    clear D4
    have hTk : TkrAt W9 T 0 none 0 [] := ⟨D5.blk _ (List.mem_of_getElem? (i := 3) rfl), World.ownsRow_nil _ _ _ _, by simp [Value.ownBlock], by simp, by simp⟩
    have HIN := Lib.hid (in_any T 0 none 0 [] r t0 W9 hTk hr (by omega) (by omega) (by omega))
    clear hTk
    go_upto_region 12 with (fail)
    go_step
    go_step
    go_step
    first | refine load_step rfl (D5.blk _ (List.mem_of_getElem? (i := 0) rfl)) (by kernel_rfl) (by kernel_rfl) ?_ | (go_step; refine load_step rfl (D5.blk _ (List.mem_of_getElem? (i := 0) rfl)) (by kernel_rfl) (by kernel_rfl) ?_) | (go_step; go_step; refine load_step rfl (D5.blk _ (List.mem_of_getElem? (i := 0) rfl)) (by kernel_rfl) (by kernel_rfl) ?_)
    go_wp2_with fail
    refine HIN.out.mono ?_
    rintro e W10 ⟨y, K, rfl, hsee, hA, hc⟩
    clear HIN
    obtain ⟨rfl, rfl⟩ : y = false ∧ K = [] := by simpa [seeL] using hsee
    clear hsee
    have hne := D5.ne
    simp only [List.map_cons, List.map_nil, List.nodup_cons, List.mem_cons, List.mem_nil_iff, or_false, not_or] at hne
    have hQT : Q ≠ T := hne.2.1.2
    have hPT : P ≠ T := hne.2.2.1
    have hTo : W1.heap.size ≤ T := by simp at hT; omega
    have D6 := ((D5.sub (bs' := [(Q, pkA (backP p), 37), (P, pkA (stillP p), 37)]) (by simp)).chg hc (fun k hk => by
      rcases hk with rfl | e
      · exact ⟨hTo, by simpa using ⟨hQT, hPT⟩⟩
      · simp [Value.ownBlock] at e)).view hA.blk hTo (by simpa using ⟨hQT, hPT⟩)
    clear D5 hA hc hne
    go_wp2_with fail
    refine (D6.range (by omega) 0 20 (by omega) (by omega) (by omega) (by omega)).mono ?_
    rintro e W11 ⟨⟨wt, hwt0, hwt1, rfl⟩, D7, -⟩
    clear D6
    have hTk : TkrAt W11 T t0 none 0 [] := ⟨D7.blk _ (List.mem_of_getElem? (i := 0) rfl), World.ownsRow_nil _ _ _ _, by simp [Value.ownBlock], by simp, by simp⟩
    have HOUT := Lib.hid (out_any T t0 (stillP p) t0 W11 hTk hp.still rfl rfl (by omega) (by omega) (by omega))
    clear hTk
    go_upto_region 14 with (fail)
    go_step
    go_step
    go_step
    first | refine load_step rfl (D7.blk _ (List.mem_of_getElem? (i := 2) rfl)) (by kernel_rfl) (by kernel_rfl) ?_ | (go_step; refine load_step rfl (D7.blk _ (List.mem_of_getElem? (i := 2) rfl)) (by kernel_rfl) (by kernel_rfl) ?_) | (go_step; go_step; refine load_step rfl (D7.blk _ (List.mem_of_getElem? (i := 2) rfl)) (by kernel_rfl) (by kernel_rfl) ?_)
    go_wp2_with fail
    refine HOUT.out.mono ?_
    rintro e W12 ⟨g, gc, rfl, hg, hA, hc⟩
    clear HOUT
    have hQg : Q ≠ g := by have := D7.lt (k := 1) rfl; simp at this; omega
    have hPg : P ≠ g := by have := D7.lt (k := 2) rfl; simp at this; omega
    have hgo : W1.heap.size ≤ g := Nat.le_trans D7.size hg
    have D8 := (D7.sub (bs' := [(Q, pkA (backP p), 37), (P, pkA (stillP p), 37)]) (by simp)).chg hc (fun k hk => by
      rw [hk]
      exact ⟨hTo, by simpa using ⟨hQT, hPT⟩⟩)
    clear D7 hc hg
    have hF : ∀ k, tkF T (some ⟨g, 0, none⟩) k → W1.heap.size ≤ k ∧ ∀ q ∈ [(Q, pkA (backP p), 37), (P, pkA (stillP p), 37)], q.1 ≠ k := fun k hk => by
      rcases hk with rfl | e
      · exact ⟨hTo, by simpa using ⟨hQT, hPT⟩⟩
      · simp [Value.ownBlock] at e
        subst e
        exact ⟨hgo, by simpa using ⟨hQg, hPg⟩⟩
    have HF := Lib.hid hF
    have HIN := Lib.hid (in_any T t0 (some ⟨g, 0, none⟩) gc [⟨p.f, t0, false, false⟩] (backP p) (t0 + wt) W12 hA hp.back (by omega) (by omega) (by omega))
    have s1 : IntKind.i64.wrap (t0 + wt) = t0 + wt := IntWalk.i64_in _ (by omega)
    have s2 : IntKind.i64.wrap (t0 + wt + 49) = t0 + wt + 49 := IntWalk.i64_in _ (by omega)
    clear hA hF
    go_upto_region 15 with (fail)
    go_step
    go_step
    go_step
    first | refine load_step rfl (D8.blk _ (List.mem_of_getElem? (i := 0) rfl)) (by kernel_rfl) (by kernel_rfl) ?_ | (go_step; refine load_step rfl (D8.blk _ (List.mem_of_getElem? (i := 0) rfl)) (by kernel_rfl) (by kernel_rfl) ?_) | (go_step; go_step; refine load_step rfl (D8.blk _ (List.mem_of_getElem? (i := 0) rfl)) (by kernel_rfl) (by kernel_rfl) ?_)
    go_wp2_with fail
    refine HIN.out.mono ?_
    rintro e W13 ⟨y, K, rfl, hsee, hA, hc⟩
    clear HIN
    have D9 := D8.chg hc HF.out
    clear D8 hc
    have HIN := Lib.hid (in_any T (t0 + wt) (some ⟨g, 0, none⟩) gc K (backP p) (t0 + wt + 49) W13 hA hp.back (by omega) (by omega) (by omega))
    have HS1 := Lib.hid hsee
    clear hA hsee
    go_upto_region 16 with (fail)
    go_step
    go_step
    go_step
    first | refine load_step rfl (D9.blk _ (List.mem_of_getElem? (i := 0) rfl)) (by kernel_rfl) (by kernel_rfl) ?_ | (go_step; refine load_step rfl (D9.blk _ (List.mem_of_getElem? (i := 0) rfl)) (by kernel_rfl) (by kernel_rfl) ?_) | (go_step; go_step; refine load_step rfl (D9.blk _ (List.mem_of_getElem? (i := 0) rfl)) (by kernel_rfl) (by kernel_rfl) ?_)
    go_wp2_with fail
    refine HIN.out.mono ?_
    rintro e W14 ⟨z, K2, rfl, hsee, hA, hc⟩
    clear HIN
    have D10 := D9.chg hc HF.out
    clear D9 hc hA HF
    obtain ⟨hy, hz⟩ := law_plain p.f t0 wt hwt0 hwt1 y z K K2 HS1.out hsee
    have HZ := Lib.hid hz
    clear hsee HS1 hz
    have hBW : Below w.heap.size w W14 := HB.out.grown D10.grown HB.out.size (fun j e => by injection e with e; omega)
    have HBW := Lib.hid hBW
    have hrd := ready2 W14 (HM.out.below hBW)
    clear hBW
    have p0 : W14.cell? ⟨P, 0, none⟩ = some (.bool p.f.s6) := D10.cell 1 0 rfl rfl
    have p1 : W14.cell? ⟨P, 1, none⟩ = some (.int .u64 p.f.sh) := D10.cell 1 1 rfl rfl
    have p2 : W14.cell? ⟨P, 2, none⟩ = some (.int .u64 p.f.sl) := D10.cell 1 2 rfl rfl
    have p3 : W14.cell? ⟨P, 3, none⟩ = some (.bool p.f.t6) := D10.cell 1 3 rfl rfl
    have p4 : W14.cell? ⟨P, 4, none⟩ = some (.int .u64 p.f.th) := D10.cell 1 4 rfl rfl
    have p5 : W14.cell? ⟨P, 5, none⟩ = some (.int .u64 p.f.tl) := D10.cell 1 5 rfl rfl
    have p8 : W14.cell? ⟨P, 8, none⟩ = some (.int .i64 p.f.fp) := D10.cell 1 8 rfl rfl
    have p9 : W14.cell? ⟨P, 9, none⟩ = some (.int .i64 p.f.tp) := D10.cell 1 9 rfl rfl
    have lP : P < W14.heap.size := D10.lt (k := 1) rfl
    clear D10
    have gd : Tryz.prog.eqGuardType Tryz.prog.depth 34 = false := by kernel_rfl
    have hq0 := fun W => run_eq_addr 9998 p.f.s6 p.f.t6 p.f.sh p.f.th p.f.sl p.f.tl W
    generalize hae : (p.f.s6 == p.f.t6 && (p.f.sh == p.f.th && p.f.sl == p.f.tl)) = ae at hq0
    generalize hpe : (p.f.fp == p.f.tp) = pe
    have hself : (ae = true ∧ pe = true) ∨ z = y := by
      rcases HZ.out with h | h
      · exact .inr h
      · left
        have e6 : p.f.s6 = p.f.t6 := congrArg Fl.s6 h
        have eh : p.f.sh = p.f.th := congrArg Fl.sh h
        have el : p.f.sl = p.f.tl := congrArg Fl.sl h
        have ep : p.f.fp = p.f.tp := congrArg Fl.fp h
        exact ⟨by rw [← hae, e6, eh, el]; simp, by rw [← hpe, ep]; simp⟩
    clear HZ hae
    by_cases hw : wt < 10
    · have hyt : y = true := by rw [hy]; simp [hw]
      subst hyt
      have d1 : decide (wt < 10) = true := by simp [hw]
      clear hy hw
      cases ae <;> cases pe <;> cases z <;> first
        | (exfalso; revert hself; decide)
        | (
          clear hself
          go_wp2_with fail
          refine hrd.mono ?_
          rintro e w9 ⟨rfl, hb⟩
          have HBF := Lib.hid (HBW.out.trans (hb.mono HBW.out.size))
          clear hb
          go_wp2_with fail
          go_ret
          exact ⟨rfl, HBF.out⟩)
    · have hyt : y = false := by rw [hy]; simp [hw]
      subst hyt
      have d1 : decide (wt < 10) = false := by simp [hw]
      clear hy hw
      cases ae <;> cases pe <;> cases z <;> first
        | (exfalso; revert hself; decide)
        | (
          clear hself
          go_wp2_with fail
          refine hrd.mono ?_
          rintro e w9 ⟨rfl, hb⟩
          have HBF := Lib.hid (HBW.out.trans (hb.mono HBW.out.size))
          clear hb
          go_wp2_with fail
          go_ret
          exact ⟨rfl, HBF.out⟩)
end Go.Proofs.YtgmeblgfcmkcgaaGreatDoor
