/- A struct that is stored whole, as one step. -/
import Derived.Test.YtcmfkheohhfpiaaGreatDoorRwB
import Derived.Laws.IdiomCopy
import Derived.Laws.Cells
namespace Go.Proofs.YtcmfkheohhfpiaaGreatDoor
open Go.RowKit Go.Hw

theorem re_setCells {R : Nat} {T : TypeId} {w : World} : ∀ (vs : List Value) (o : Nat) (W : World) (xs : List Value), Re w W R xs.toArray T → Re w (W.setCells R o vs) R (rwSets xs o vs).toArray T
  | [], _, _, _, h => h
  | v :: vs, o, W, xs, h => re_setCells vs (o + 1) _ (xs.set o v) (by
    have := h.set o v
    simpa using this)
theorem re_whole {R : Nat} {T : TypeId} {w : World} {cs vs : Array Value} (hb : w.heap[R]? = some (.cells cs T (0, 0))) (hn : cs.size = vs.size) : Re w (w.setCells R 0 vs.toList) R vs T := by
  have h := re_setCells vs.toList 0 w cs.toList (by simpa using Re.refl hb)
  have e := rwSets_whole vs.toList cs.toList [] [] (by simpa using hn)
  simp at e
  rw [e] at h
  simpa using h
theorem store_run {P : Program} {T T' : TypeId} {w : World} {R : Nat} {cs vs : Array Value} (hb : w.heap[R]? = some (.cells cs T' (0, 0))) (hn : cs.size = vs.size) (hs : (sizeOf T).run P w = .ok vs.size w) (h1 : ∀ v ∈ vs.toList, v.oneCell' = true) :
    (Instr.storeAt T (.pointer (some ⟨R, 0, none⟩)) (.agg vs)).run P w = .ok () (w.setCells R 0 vs.toList) := by
  have hc : ∀ j, j < vs.toList.length → (w.cell? ⟨R, 0 + 0 + j, none⟩).isSome = true := fun j hj => by
    have : j < cs.size := by simp at hj; omega
    simp [World.cell?, hb, this]
  have hf : ∀ j, j < vs.toList.length → w.frozen? ⟨R, 0 + 0 + j, none⟩ = false := fun j hj => by simp [World.frozen?, hb]
  have hst := run_storeCells_cells (P := P) R 0 vs.toList 0 w hc hf h1
  show (storeVar T ⟨R, 0, none⟩ (.agg vs)).run P w = _
  unfold storeVar
  rw [Sem.run_bind, hs]
  have hcells : (Value.agg vs).cells = vs := rfl
  simp only [hcells, ne_eq, not_true_eq_false, if_false, Result.andThen]
  simpa [go_sem] using hst
theorem store_step {P : Program} {a : Act} {w : World} {K : Act → World → Prop} {Q : Exit → Act → World → Prop} {T T' ty : TypeId} {x y : Operand} {pos : String} {after : Array Edge} {guard : Option (Nat × Bool)} {R : Nat} {cs vs : Array Value}
    (hx : a.eval x = .pointer (some ⟨R, 0, none⟩)) (hy : a.eval y = .agg vs) (hb : w.heap[R]? = some (.cells cs T' (0, 0))) (hn : cs.size = vs.size) (hs : (sizeOf T).run P w = .ok vs.size w) (h1 : ∀ v ∈ vs.toList, v.oneCell' = true)
    (hK : ∀ W, Re w W R vs T' → K a W) : Oper.wp P { dst := none, op := Op.store T x y, type := ty, pos := pos, after := after, guard := guard } a w K Q := by
  have hr := store_run (P := P) hb hn hs h1
  have hk := hK _ (re_whole hb hn)
  have hex : (execOp a.eval { dst := none, op := Op.store T x y, type := ty, pos := pos, after := after, guard := guard }).run P w = .ok .skip (w.setCells R 0 vs.toList) := by
    show ((Instr.storeAt T (a.eval x) (a.eval y)) >>= fun _ => (pure Next.skip : Sem Next)).run P w = _
    rw [hx, hy, Sem.run_bind, hr]
    rfl
  unfold Oper.wp
  rw [hex]
  exact hk
theorem load_run {P : Program} {T T' : TypeId} {w : World} {R : Nat} {cs : Array Value} (hb : w.heap[R]? = some (.cells cs T' (0, 0))) (ha : (isAgg T).run P w = .ok true w) (hs : (sizeOf T).run P w = .ok cs.size w) :
    (Instr.loadAt T (.pointer (some ⟨R, 0, none⟩))).run P w = .ok (.agg cs) w := by
  have hl := run_loadCells_list (P := P) w ⟨R, 0, none⟩ cs.toList (fun j v hv => by
    have hadd : (⟨R, 0, none⟩ : Addr).add j = ⟨R, j, none⟩ := by unfold Addr.add; split <;> simp_all
    rw [hadd, cell_of hb j]
    simpa using hv)
  show (loadVar T ⟨R, 0, none⟩).run P w = _
  unfold loadVar
  rw [Sem.run_bind, ha]
  show (do let n ← sizeOf T; let c ← loadCells ⟨R, 0, none⟩ n; pure (Value.agg c) : Sem Value).run P w = _
  rw [Sem.run_bind, hs]
  show (do let c ← loadCells ⟨R, 0, none⟩ cs.size; pure (Value.agg c) : Sem Value).run P w = _
  have hl' : (loadCells ⟨R, 0, none⟩ cs.size).run P w = .ok cs w := by
    have := hl
    simp at this
    simpa [loadCells] using this
  rw [Sem.run_bind, hl']
  rfl
theorem load_step {P : Program} {a : Act} {w : World} {K : Act → World → Prop} {Q : Exit → Act → World → Prop} {T T' ty : TypeId} {x : Operand} {d : Option Tmp} {pos : String} {after : Array Edge} {guard : Option (Nat × Bool)} {R : Nat} {cs : Array Value}
    (hx : a.eval x = .pointer (some ⟨R, 0, none⟩)) (hb : w.heap[R]? = some (.cells cs T' (0, 0))) (ha : (isAgg T).run P w = .ok true w) (hs : (sizeOf T).run P w = .ok cs.size w)
    (hK : K (a.put d (.agg cs)) w) : Oper.wp P { dst := d, op := Op.load T x, type := ty, pos := pos, after := after, guard := guard } a w K Q := by
  have hex : (execOp a.eval { dst := d, op := Op.load T x, type := ty, pos := pos, after := after, guard := guard }).run P w = .ok (.value (.agg cs)) w := by
    show ((Instr.loadAt T (a.eval x)) >>= fun v => (pure (Next.value v) : Sem Next)).run P w = _
    rw [hx, Sem.run_bind, load_run hb ha hs]
    rfl
  unfold Oper.wp
  rw [hex]
  exact hK
end Go.Proofs.YtcmfkheohhfpiaaGreatDoor
