/- Packets as bytes: an append of bytes, whatever lies there. -/
import Derived.Test.YtfakfhbcpldeoaaGreatDoorPxC
import Derived.Maps.AppendAt
namespace Go.Proofs.YtfakfhbcpldeoaaGreatDoor
open Go.RowKit Go.Hw

theorem bAt.new {w : World} {g : Nat} {cs : Array Value} {T : TypeId} {ys : List UInt8} (h : w.heap[g]? = some (.cells cs T (0, 0))) (hy : cs = (bV ys).toArray) : bAt w (some ⟨g, 0, none⟩) ys := fun i c hc =>
  ⟨g, 0, rfl, lt_of_block h, by rw [Nat.zero_add, cell_of h i, hy]; simp [bV, hc]⟩
set_option maxRecDepth 100000 in
theorem run_app_b (base : Nat) (A : Option Addr) (k cap : Nat) (bs : List UInt8) (w : World) (ho : bOwn w base A k cap bs) (hb : base ≤ w.heap.size) (A2 : Option Addr) (m c : Nat) (ys : List UInt8) (h2 : bAt w A2 ys) (hm : ys.length = m) (hn : A2 = none → c = 0) (hs : k + m ≤ 1000000) :
    ∃ A' cap' w', (Builtin.append_ #[29, 29] 29 #[.slice A k cap, .slice A2 m c]).run Tryz.prog w = .ok (.slice A' (k + m) cap') w' ∧ bOwn w' base A' (k + m) cap' (bs ++ ys) ∧ bGrow w w' A A' := by
  obtain ⟨i0, hi, hz0, hz1, hz2⟩ := info_parts infoB
  have ht := Tryz.underlying29
  cases A2 with
  | none =>
    have hy : ys = [] := by
      rcases ys with _ | ⟨y, ys⟩
      · rfl
      · obtain ⟨g, off, e, _⟩ := h2 0 y rfl
        cases e
    subst hy
    obtain rfl : m = 0 := by simpa using hm.symm
    obtain rfl := hn rfl
    refine ⟨A, cap, w, ?_, by simpa using ho, bGrow.refl _ _⟩
    rcases ho.2.2 with ⟨h1, h3⟩ | ⟨g, cap', cur, h1, h3, h4, h5, h6, h7, h8⟩
    · injection h1 with e1 e2 e3
      subst e1 e2 e3
      simp [Builtin.append_, run_underlying ht, sizeOf, typeInfo, hi, Builtin.lenOf, Builtin.firstCells]
    · injection h1 with e1 e2 e3
      subst e1 e3
      simp [Builtin.append_, run_underlying ht, sizeOf, typeInfo, hi, Builtin.lenOf, Builtin.firstCells, loadCells, storeCells, h5]
  | some ad =>
    have hnews : ∀ j u, (bV ys)[j]? = some u → w.cell? (ad.add j) = some u := fun j u hu => by
      simp only [bV, List.getElem?_map, Option.map_eq_some_iff] at hu
      obtain ⟨y, hy, rfl⟩ := hu
      obtain ⟨g, off, e, _, hx⟩ := h2 j y hy
      injection e with e
      subst e
      have : (⟨g, off, none⟩ : Addr).add j = ⟨g, off + j, none⟩ := by unfold Addr.add; split <;> simp_all
      rw [this]
      exact hx
    obtain ⟨v', w', hr, h3, h4, -, h5⟩ := run_append_own_at (P := Tryz.prog) w base 29 29 5 i0 (.int .u8 0) 1 1 ht hi hz0 hz1 hz2 rfl (by omega) (.slice A k cap) k (bV bs) ho.2 ad m c (bV ys) (by simp [bV, hm]) hnews (by intro u hu; simp only [bV, List.mem_map] at hu; obtain ⟨y, _, rfl⟩ := hu; rfl) (by unfold maxLen; omega) (by omega) hb
    have hv : ∃ A' cap', v' = .slice A' (k + m) cap' := by
      rcases h3.2 with ⟨h1, h6⟩ | ⟨g, cap', cur, h1, _⟩
      · exact ⟨none, 0, by rw [h1, h6]⟩
      · exact ⟨_, _, h1⟩
    obtain ⟨A', cap', rfl⟩ := hv
    refine ⟨A', cap', w', hr, ⟨by rw [List.length_append, ho.1, hm], by rw [bV_app]; exact h3⟩, ?_, fun j hj => ?_⟩
    · rw [ownN_eq] at h4; exact h4
    · rw [ownN_eq, ownN_eq] at h5
      rcases h5 with h | h
      · exact .inl (h ▸ hj)
      · rw [hj] at h
        injection h with h
        exact .inr (by omega)
theorem wp_app_b {w : World} {o : Oper} {a : Act} {K : Act → World → Prop} {Q : Exit → Act → World → Prop} (s x : Operand)
    (ho : o.op = .call { callee := .builtin .append, args := #[s, x], argTypes := #[29, 29] }) (hty : o.type = 29) {base k cap m c : Nat} {A A2 : Option Addr} {bs ys : List UInt8} (hs : a.eval s = .slice A k cap) (hown : bOwn w base A k cap bs) (hb : base ≤ w.heap.size)
    (hx : a.eval x = .slice A2 m c) (h2 : bAt w A2 ys) (hm : ys.length = m) (hn : A2 = none → c = 0) (hsm : k + m ≤ 1000000)
    (h : ∀ A' cap' w', bOwn w' base A' (k + m) cap' (bs ++ ys) → bGrow w w' A A' → K (a.put o.dst (.slice A' (k + m) cap')) w') : o.wp Tryz.prog a w K Q := by
  obtain ⟨A', cap', w', hr, h3, h4⟩ := run_app_b base A k cap bs w hown hb A2 m c ys h2 hm hn hsm
  unfold Oper.wp execOp
  simp only [ho, hty, resolve, invoke, builtin, Sem.run_bind, Sem.run_pure, Result.andThen_ok, List.map_toArray, List.map_cons, List.map_nil, hs, hx, hr]
  exact h A' cap' w' h3 h4
theorem wpList_app_b {w : World} {ops : Array Oper} {rest : List Oper} {o : Oper} {a : Act} {Q : Exit → Act → World → Prop} (hgd : o.guard = none) (s x : Operand)
    (ho : o.op = .call { callee := .builtin .append, args := #[s, x], argTypes := #[29, 29] }) (hty : o.type = 29) {base k cap m c : Nat} {A A2 : Option Addr} {bs ys : List UInt8} (hs : a.eval s = .slice A k cap) (hown : bOwn w base A k cap bs) (hb : base ≤ w.heap.size)
    (hx : a.eval x = .slice A2 m c) (h2 : bAt w A2 ys) (hm : ys.length = m) (hn : A2 = none → c = 0) (hsm : k + m ≤ 1000000)
    (h : ∀ A' cap' w', bOwn w' base A' (k + m) cap' (bs ++ ys) → bGrow w w' A A' → wpList Tryz.prog ops Q rest (a.put o.dst (.slice A' (k + m) cap')) w') : wpList Tryz.prog ops Q (o :: rest) a w :=
  wpList_plain hgd fun _ hK => wp_app_b s x ho hty hs hown hb hx h2 hm hn hsm fun A' cap' w' h3 h4 => hK _ _ (h A' cap' w' h3 h4)
theorem step_app_b {w : World} {ops : Array Oper} {o : Oper} {a : Act} {K : Act → World → Prop} {Q : Exit → Act → World → Prop} {E : Prop} (hgd : o.guard = none) (s x : Operand)
    (ho : o.op = .call { callee := .builtin .append, args := #[s, x], argTypes := #[29, 29] }) (hty : o.type = 29) {base k cap m c : Nat} {A A2 : Option Addr} {bs ys : List UInt8} (hs : a.eval s = .slice A k cap) (hown : bOwn w base A k cap bs) (hb : base ≤ w.heap.size)
    (hx : a.eval x = .slice A2 m c) (h2 : bAt w A2 ys) (hm : ys.length = m) (hn : A2 = none → c = 0) (hsm : k + m ≤ 1000000)
    (h : ∀ A' cap' w', bOwn w' base A' (k + m) cap' (bs ++ ys) → bGrow w w' A A' → K (a.put o.dst (.slice A' (k + m) cap')) w') : if Region.wanted o (yielded ops a.tmps) = true then Oper.wp Tryz.prog o a w K Q else E := by
  have hw : Region.wanted o (yielded ops a.tmps) = true := by simp [Region.wanted, hgd]
  rw [if_pos hw]
  exact wp_app_b s x ho hty hs hown hb hx h2 hm hn hsm h
end Go.Proofs.YtfakfhbcpldeoaaGreatDoor
