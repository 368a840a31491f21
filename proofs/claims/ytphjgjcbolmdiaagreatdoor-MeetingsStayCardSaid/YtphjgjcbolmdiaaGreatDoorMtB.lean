/- Translators: pass, whatever goes. -/
import Derived.Test.YtphjgjcbolmdiaaGreatDoorMtA
namespace Go.Proofs.YtphjgjcbolmdiaaGreatDoor
open Go.RowKit Go.Hw

theorem TrAt.only {w w' : World} {F : Nat → Prop} {T : Nat} {n : NatC} {now next now' next' : Int} {A : Option Addr} {cap : Nat} {L K : List Ent} (h : TrAt w F T n now next A cap L) (hK : K.Sublist L)
    (hb : w'.heap[T]? = some (trObj n now' next' (.slice A K.length cap))) (ho : w'.ownsRow 0 97 11 (.slice A K.length cap) K.length (entsC K))
    (hk : ∀ k, k < w.heap.size → k ≠ T → (Value.slice A L.length cap).ownBlock ≠ some k → w'.heap[k]? = w.heap[k]?) : TrAt w' F T n now' next' A cap K where
  blk := hb
  own := ho
  sent := fun e he => own_same (h.sent e (hK.subset he)) fun k hk' => hk k ((h.sent e (hK.subset he)).lt k hk').2 (fun c => (h.hS e (hK.subset he)).1 (by rw [← c]; exact hk')) ((h.hS e (hK.subset he)).2 k hk')
  hA := fun e => h.hA (by cases A <;> exact e)
  hS := fun e he => ⟨(h.hS e (hK.subset he)).1, fun k hk c => (h.hS e (hK.subset he)).2 k hk (by cases A <;> exact c)⟩
  sep := h.sep.sublist hK
  fT := h.fT
  fA := fun k e => h.fA k (by cases A <;> exact e)
  fS := fun e he => h.fS e (hK.subset he)
theorem two_old {w W : World} {T : Nat} {n : NatC} {now next : Int} {lv : Value} {row : Option Nat} (h : w.heap[T]? = some (trObj n now next lv)) (hg : w.grownBy W row) (hr : row ≠ some T) : W.heap[T]? = some (trObj n now next lv) := (hg.block T (tr_lt h) (fun e => hr e.symm)).trans h
theorem oneAt_grown {w W : World} {b : Nat} {v : Value} {row : Option Nat} (h : OneAt w b v) (hg : w.grownBy W row) (hr : row ≠ some b) : OneAt W b v :=
  ⟨Nat.lt_of_lt_of_le h.1 hg.size, (World.cell?_of_block (w := w) (a := ⟨b, 0, none⟩) (hg.block b h.1 (fun e => hr e.symm))).trans h.2⟩
theorem drewG {W w1 : World} {r : Option Nat} (h : W.drew.grownBy w1 r) : W.grownBy w1 r := ⟨h.os, h.tape, h.output, h.size, h.block⟩
theorem tr_store2 {W w1 : World} {T : Nat} {n : NatC} {now next : Int} {lv : Value} {r : Option Nat} (hb : W.drew.grownBy w1 r) (hr : r ≠ some T) (h : W.heap[T]? = some (trObj n now next lv)) : w1.cell? ⟨T, 10, none⟩ = some lv ∧ w1.frozen? ⟨T, 10, none⟩ = false ∧ T < w1.heap.size := by
  have h1 := two_old h (drewG hb) hr
  refine ⟨?_, ?_, tr_lt h1⟩
  · have := tr_cell h1 10
    simpa using this
  · simp [World.frozen?, h1, trObj]

set_option maxRecDepth 100000 in
set_option maxHeartbeats 2000000 in
theorem pass_any (T : Nat) (n : NatC) (now next : Int) (F : Nat → Prop) (A : Option Addr) (cap : Nat) (L : List Ent) (at_ : Int) (w : World) (h : TrAt w F T n now next A cap L) (hl : L.length ≤ 1000000)
    (h0 : 0 ≤ at_) (h1 : at_ ≤ 1000) (hle : ∀ e ∈ L, 0 ≤ e.last ∧ e.last ≤ 1000) :
    Calls Tryz.prog 34 #[.pointer (some ⟨T, 0, none⟩), .int .i64 at_] w
      fun e w' => e = .returned (.tuple #[]) ∧ TrAt w' F T n at_ next A cap (L.filter (lasts n at_)) ∧ Chg F w w' := by
  have htl := tr_lt h.blk
  have hblk := h.blk
  have HH := Lib.hid h
  clear h
  go_enter Tryz.func34, Tryz.ntmps34
  have t8 := tr_cell hblk 8
  have f8 : w.frozen? ⟨T, 8, none⟩ = false := by simp [World.frozen?, hblk, trObj]
  simp only [List.getElem?_toArray, List.getElem?_cons_zero, List.getElem?_cons_succ] at t8
  go_wp2_with fail
  clear t8 f8
  generalize hW : World.alloc _ _ = W
  obtain ⟨b0', b1', hb⟩ := two _ _ _ _ hW
  have e0 : (w.setCell ⟨T, 8, none⟩ (.int .i64 at_)).heap.size = w.heap.size := by simp
  rw [e0] at b0' b1' hb
  have hT : W.heap[T]? = some (trObj n at_ next (.slice A L.length cap)) := (hb.block T htl).trans (tr_set8 hblk at_)
  have hg : w.grownBy W (some T) := (grown_set (World.grownBy.refl w _) 8 _).andThen (grown_of_below (by rw [e0]; exact hb) (some T)) (fun _ h => .inr h)
  have hTW := HH.out.turn hg hT
  have hne : (Value.slice A L.length cap).ownBlock ≠ some T := HH.out.hA
  have hn0 : (Value.slice A L.length cap).ownBlock ≠ some w.heap.size := fun e => by have := (HH.out.own.lt _ e).2; omega
  have hn1 : (Value.slice A L.length cap).ownBlock ≠ some (w.heap.size + 1) := fun e => by have := (HH.out.own.lt _ e).2; omega
  have hdel := delete_any A cap L _ #[.pointer (some ⟨w.heap.size + 1, 0, none⟩), .pointer (some ⟨w.heap.size, 0, none⟩)] (fun e => !lasts n at_ e) W.drew enters65 (own_same hTW.own fun _ _ => rfl) hl
    (fun wr hg2 => passPred T n at_ next (.slice A L.length cap) (w.heap.size + 1) w.heap.size at_ L wr (two_old hT (drewG hg2) hne) (oneAt_grown (oneAt_of (W := W) b1') (drewG hg2) hn1) (oneAt_grown (oneAt_of (W := W) b0') (drewG hg2) hn0) h0 h1 hle)
  rw [show L.filter (fun e => !(!lasts n at_ e)) = L.filter (lasts n at_) by simp] at hdel
  have k0 := cell_of_one b0'
  have t10 := tr_cell hT 10
  have htl' := tr_lt hT
  simp only [List.getElem?_toArray, List.getElem?_cons_zero, List.getElem?_cons_succ] at t10
  have HG := Lib.hid hg
  have HT := Lib.hid hT
  have HTW := Lib.hid hTW
  have HNE := Lib.hid hne
  have l0 := lt_of_block b0'
  have HB0 := Lib.hid b0'
  have HN0 := Lib.hid hn0
  clear hW hb b0' b1' e0 hblk hT hg hle hTW hne hn0 hn1
  have f10 : W.frozen? ⟨T, 10, none⟩ = false := by simp [World.frozen?, HT.out, trObj]
  go_region_with ((go_at_call 64; refine hdel.mono ?_; rintro e w1 ⟨rfl, hb1, ho1⟩; have z := tr_store2 hb1 HNE.out HT.out; have hT1 := two_old HT.out (drewG hb1) HNE.out; have y0 : w1.cell? ⟨w.heap.size, 0, none⟩ = some (.pointer (some ⟨T, 0, none⟩)) := (oneAt_grown (oneAt_of (W := W) HB0.out) (drewG hb1) HN0.out).2))
  all_goals (
    go_wp2_with fail
    go_end0
    have hsub : (L.filter (lasts n at_)).Sublist L := List.filter_sublist
    refine ⟨rfl, HTW.out.only hsub (tr_set10 hT1 _) (own_same ho1 fun k hk => heap_set_other (fun c => HNE.out (by rw [← c, ← hk]; cases A <;> rfl))) (fun k hk hkT hkA => (heap_set_other hkT).trans ((drewG hb1).block k hk (fun c => hkA c.symm))), ?_⟩
    have hc1 := Chg.of_grown (F := F) HG.out (fun k e _ => by injection e with e; rw [← e]; exact HH.out.fT)
    have hc2 := Chg.of_grown (F := Plus F w) (drewG hb1) (fun k e _ => .inl (HH.out.fA k e))
    exact (hc1.trans hc2).set (.inl HH.out.fT) _ _)
end Go.Proofs.YtphjgjcbolmdiaaGreatDoor
