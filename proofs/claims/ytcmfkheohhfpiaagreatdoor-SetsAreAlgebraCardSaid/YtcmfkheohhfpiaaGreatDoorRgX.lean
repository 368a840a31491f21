/- Structs that are loaded and stored whole, wherever they lie. -/
import Derived.Test.YtcmfkheohhfpiaaGreatDoorRgS
import Derived.Test.YtcmfkheohhfpiaaGreatDoorRgE
namespace Go.Proofs.YtcmfkheohhfpiaaGreatDoor
open Go.RowKit Go.Hw

theorem load_runR {P : Program} {T : TypeId} {w : World} {R off n : Nat} {cs : List Value} (hc : RwCells w R off cs) (ha : (isAgg T).run P w = .ok true w) (hn : cs.length = n) (hs : (sizeOf T).run P w = .ok n w) :
    (Instr.loadAt T (.pointer (some ⟨R, off, none⟩))).run P w = .ok (.agg cs.toArray) w := by
  subst hn
  have hl := run_loadCells_list (P := P) w ⟨R, off, none⟩ cs (fun j v hv => by
    rw [Addr.add_lit]
    exact hc j v hv)
  show (loadVar T ⟨R, off, none⟩).run P w = _
  unfold loadVar
  rw [Sem.run_bind, ha]
  show (do let n ← sizeOf T; let c ← loadCells ⟨R, off, none⟩ n; pure (Value.agg c) : Sem Value).run P w = _
  rw [Sem.run_bind, hs]
  show (do let c ← loadCells ⟨R, off, none⟩ cs.length; pure (Value.agg c) : Sem Value).run P w = _
  have hl' : (loadCells ⟨R, off, none⟩ cs.length).run P w = .ok cs.toArray w := by
    simpa [loadCells] using hl
  rw [Sem.run_bind, hl']
  rfl
theorem load_stepR {P : Program} {a : Act} {w : World} {K : Act → World → Prop} {Q : Exit → Act → World → Prop} {T ty : TypeId} {x : Operand} {d : Option Tmp} {pos : String} {after : Array Edge} {guard : Option (Nat × Bool)} {R off n : Nat} {cs : List Value}
    (hx : a.eval x = .pointer (some ⟨R, off, none⟩)) (hc : RwCells w R off cs) (ha : (isAgg T).run P w = .ok true w) (hn : cs.length = n) (hs : (sizeOf T).run P w = .ok n w)
    (hK : K (a.put d (.agg cs.toArray)) w) : Oper.wp P { dst := d, op := Op.load T x, type := ty, pos := pos, after := after, guard := guard } a w K Q := by
  have hex : (execOp a.eval { dst := d, op := Op.load T x, type := ty, pos := pos, after := after, guard := guard }).run P w = .ok (.value (.agg cs.toArray)) w := by
    show ((Instr.loadAt T (a.eval x)) >>= fun v => (pure (Next.value v) : Sem Next)).run P w = _
    rw [hx, Sem.run_bind, load_runR hc ha hn hs]
    rfl
  unfold Oper.wp
  rw [hex]
  exact hK
theorem store_runR {P : Program} {T : TypeId} {w : World} {R off n : Nat} {vs : List Value} (hc : ∀ j, j < vs.length → (w.cell? ⟨R, off + j, none⟩).isSome = true) (hf : ∀ j, w.frozen? ⟨R, j, none⟩ = false) (hn : vs.length = n) (hs : (sizeOf T).run P w = .ok n w) (h1 : ∀ v ∈ vs, v.oneCell' = true) :
    (Instr.storeAt T (.pointer (some ⟨R, off, none⟩)) (.agg vs.toArray)).run P w = .ok () (w.setCells R off vs) := by
  subst hn
  have hst := run_storeCells_cells (P := P) R off vs 0 w (fun j hj => by simpa using hc j hj) (fun j _ => hf _) h1
  show (storeVar T ⟨R, off, none⟩ (.agg vs.toArray)).run P w = _
  unfold storeVar
  rw [Sem.run_bind, hs]
  have hcells : (Value.agg vs.toArray).cells = vs.toArray := rfl
  simp only [hcells, ne_eq, List.size_toArray, not_true_eq_false, if_false, Result.andThen]
  simpa [go_sem] using hst
theorem store_stepR {P : Program} {a : Act} {w : World} {K : Act → World → Prop} {Q : Exit → Act → World → Prop} {T ty : TypeId} {x y : Operand} {pos : String} {after : Array Edge} {guard : Option (Nat × Bool)} {R off n : Nat} {vs : List Value}
    (hx : a.eval x = .pointer (some ⟨R, off, none⟩)) (hy : a.eval y = .agg vs.toArray) (hc : ∀ j, j < vs.length → (w.cell? ⟨R, off + j, none⟩).isSome = true) (hf : ∀ j, w.frozen? ⟨R, j, none⟩ = false) (hn : vs.length = n) (hs : (sizeOf T).run P w = .ok n w) (h1 : ∀ v ∈ vs, v.oneCell' = true)
    (hK : K a (w.setCells R off vs)) : Oper.wp P { dst := none, op := Op.store T x y, type := ty, pos := pos, after := after, guard := guard } a w K Q := by
  have hr := store_runR (P := P) hc hf hn hs h1
  have hex : (execOp a.eval { dst := none, op := Op.store T x y, type := ty, pos := pos, after := after, guard := guard }).run P w = .ok .skip (w.setCells R off vs) := by
    show ((Instr.storeAt T (a.eval x) (a.eval y)) >>= fun _ => (pure Next.skip : Sem Next)).run P w = _
    rw [hx, hy, Sem.run_bind, hr]
    rfl
  unfold Oper.wp
  rw [hex]
  exact hK
end Go.Proofs.YtcmfkheohhfpiaaGreatDoor
