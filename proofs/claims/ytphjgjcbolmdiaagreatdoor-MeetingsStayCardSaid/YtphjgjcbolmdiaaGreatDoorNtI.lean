/- Translators: pass, where no entry goes. -/
import Derived.Test.YtphjgjcbolmdiaaGreatDoorNtH
namespace Go.Proofs.YtphjgjcbolmdiaaGreatDoor
open Go.RowKit Go.Hw

theorem EntsAt.grown {w w' : World} {A : Option Addr} {L : List Ent} {row : Option Nat} (h : EntsAt w A L) (hg : w.grownBy w' row) (hne : ∀ a, A = some a → some a.block ≠ row) : EntsAt w' A L := fun i hi =>
  let ⟨g, off, h1, h2, h3⟩ := h i hi
  ⟨g, off, h1, Nat.lt_of_lt_of_le h2 hg.size, h3.keep fun p hp => World.cell?_of_block (hg.block p.block (by rw [hp]; exact h2) (by rw [hp]; exact hne _ h1))⟩

set_option maxRecDepth 100000 in
set_option maxHeartbeats 400000 in
theorem delete_none (A : Option Addr) (cap : Nat) (L : List Ent) (g : Nat) (lb : Array Value) (p : Ent → Bool) (w : World) (eg : ∀ args w, (callFunc g args).run Tryz.prog w = .ok (.enter g args) w)
    (h : EntsAt w A L) (hl : L.length ≤ 1000000) (hp : PredE g lb p L w) (hno : ∀ e ∈ L, p e = false) :
    Calls Tryz.prog 64 #[.slice A L.length cap, .func (.func g) #[] lb] w fun e w' => e = .returned (.slice A L.length cap) ∧ Below w.heap.size w w' := by
  have hcall := idxEnt_any A cap L g lb p w eg h hl hp
  have hr : idxP p L = -1 := by
    rcases idxP_any p L with ⟨h1, _⟩ | ⟨_, h2⟩
    · rw [List.any_eq_true] at h1
      obtain ⟨e, he, h1⟩ := h1
      rw [hno e he] at h1
      cases h1
    · exact h2
  rw [hr] at hcall
  clear hr hp h hno
  go_enter Tryz.func64, Tryz.ntmps64
  go_wp2_with fail
  refine hcall.mono ?_
  rintro e w1 ⟨rfl, hb⟩
  go_wp2_with fail
  go_ret
  exact ⟨rfl, hb⟩

theorem tr_store {W w1 : World} {T : Nat} {n : NatC} {now next : Int} {lv : Value} (hb : Below W.drew.heap.size W.drew w1) (h : W.heap[T]? = some (trObj n now next lv)) : w1.cell? ⟨T, 10, none⟩ = some lv ∧ w1.frozen? ⟨T, 10, none⟩ = false ∧ T < w1.heap.size := by
  have h1 := (hb.block T (tr_lt h)).trans h
  refine ⟨?_, ?_, tr_lt h1⟩
  · have := tr_cell h1 10
    simpa using this
  · simp [World.frozen?, h1, trObj]

theorem set_same {w1 : World} {T : Nat} {n : NatC} {now next : Int} {lv : Value} (h : w1.heap[T]? = some (trObj n now next lv)) (v : Value) : (w1.setCell ⟨T, 10, none⟩ v).cell? ⟨T, 10, none⟩ = some v := by
  have := tr_cell (tr_set10 h v) 10
  simpa using this

theorem two (w : World) (o1 o2 : Obj) : ∀ W, (w.alloc o1).alloc o2 = W → W.heap[w.heap.size]? = some o1 ∧ W.heap[w.heap.size + 1]? = some o2 ∧ Below w.heap.size w W := by
  rintro W rfl
  have e1 := fun (v : World) (o : Obj) => (show (v.alloc o).heap.size = v.heap.size + 1 by simp)
  refine ⟨?_, ?_, ?_⟩
  · rw [Below.heap_alloc _ _ _ (by rw [e1]; omega), heap_alloc_new]
  · have h := heap_alloc_new (w.alloc o1) o2
    rw [e1] at h
    exact h
  · exact ((Below.refl _ _).alloc (Nat.le_refl _) _).alloc (by simp) _

set_option maxRecDepth 100000 in
set_option maxHeartbeats 2000000 in
theorem pass_none (T : Nat) (n : NatC) (now next : Int) (A : Option Addr) (cap : Nat) (L : List Ent) (at_ : Int) (w : World) (h : w.heap[T]? = some (trObj n now next (.slice A L.length cap))) (hE : EntsAt w A L) (hAT : ∀ a, A = some a → some a.block ≠ some T) (hl : L.length ≤ 1000000)
    (h0 : 0 ≤ at_) (h1 : at_ ≤ 1000) (hle : ∀ e ∈ L, 0 ≤ e.last ∧ e.last ≤ 1000) (hno : ∀ e ∈ L, lasts n at_ e = true) :
    Calls Tryz.prog 34 #[.pointer (some ⟨T, 0, none⟩), .int .i64 at_] w
      fun e w' => e = .returned (.tuple #[]) ∧ w'.heap[T]? = some (trObj n at_ next (.slice A L.length cap)) ∧ w.grownBy w' (some T) := by
  have htl := tr_lt h
  go_enter Tryz.func34, Tryz.ntmps34
  have t8 := tr_cell h 8
  have f8 : w.frozen? ⟨T, 8, none⟩ = false := by simp [World.frozen?, h, trObj]
  simp only [List.getElem?_toArray, List.getElem?_cons_zero, List.getElem?_cons_succ] at t8
  go_wp2_with fail
  clear t8 f8
  generalize hW : World.alloc _ _ = W
  obtain ⟨b0', b1', hb⟩ := two _ _ _ _ hW
  have e0 : (w.setCell ⟨T, 8, none⟩ (.int .i64 at_)).heap.size = w.heap.size := by simp
  rw [e0] at b0' b1' hb
  have hT : W.heap[T]? = some (trObj n at_ next (.slice A L.length cap)) := (hb.block T htl).trans (tr_set8 h at_)
  have hg : w.grownBy W (some T) := (grown_set (World.grownBy.refl w _) 8 _).andThen (grown_of_below (by rw [e0]; exact hb) (some T)) (fun _ h => .inr h)
  have hE' := hE.grown hg hAT
  have hdel := delete_none A cap L _ _ _ W.drew enters65 (hE'.below (Below.refl _ _).drew) hl (passPred T n at_ next (.slice A L.length cap) (w.heap.size + 1) w.heap.size at_ L W.drew hT (oneAt_of (W := W) b1') (oneAt_of (W := W) b0') h0 h1 hle) (fun e he => by rw [hno e he]; rfl)
  have k0 := cell_of_one b0'
  have t10 := tr_cell hT 10
  have htl' := tr_lt hT
  simp only [List.getElem?_toArray, List.getElem?_cons_zero, List.getElem?_cons_succ] at t10
  have HG := Lib.hid hg
  have HT := Lib.hid hT
  have l0 := lt_of_block b0'
  clear hW hb b0' b1' e0 hE hE' h hT hg hno hle
  go_region_held3 (fun w' => w'.cell? ⟨w.heap.size, 0, none⟩ = some (.pointer (some ⟨T, 0, none⟩)) ∧ w'.cell? ⟨T, 10, none⟩ = some (.slice A L.length cap)) (first | (go_keep; done) | ((repeat' apply And.intro) <;> (repeat (first | with_reducible assumption | rw [cell_drew] | rw [Below.cell hb1 (by simp; omega)] | rw [World.cell?_setCell_far _ _ _ _ (by simp; omega)] | exact set_same hT1 _))))
    ((go_at_call 64; refine hdel.mono ?_; rintro e w1 ⟨rfl, hb1⟩; have z := tr_store hb1 HT.out; have hT1 := (hb1.block T htl').trans HT.out))
  go_wp2_with fail
  go_end0
  exact ⟨rfl, tr_set10 hT1 _, grown_set (HG.out.andThen (grown_of_below (drewB hb1) (some T)) (fun _ h => .inr h)) 10 _⟩
end Go.Proofs.YtphjgjcbolmdiaaGreatDoor
