/- A region that draws its order, by an invariant: one proof an operation, whatever the number of orders. What the operations of a drawn region of draws yield. A region that draws its order, whose last two operations stand behind all others: the last but one may do anything. -/
import Derived.Tactics
import Derived.Orders
import Derived.Test.YtajifionclpphaaGreatDoorProg
import Derived.Test.YtajifionclpphaaGreatDoorDsA
namespace Go.Proofs.YtajifionclpphaaGreatDoor

theorem count_set_false : ∀ (l : List Bool) (i : Nat), l[i]? = some false → (l.set i true).count false + 1 = l.count false
  | [], i, h => by simp at h
  | b :: l, 0, h => by simp at h; subst h; simp
  | b :: l, i + 1, h => by
    have := count_set_false l i (by simpa using h)
    cases b <;> simp <;> omega
theorem count_none : ∀ (l : List Bool), l.count false = 0 → ∀ i, i < l.length → l[i]? = some true
  | [], _, i, h => by simp at h
  | b :: l, hc, i, h => by
    cases b
    · simp at hc
    · rcases i with _ | i
      · simp
      · have := count_none l (by simpa using hc) i (by simpa using h)
        simpa using this
section
variable {P : Program} {ops : Array Oper} {Q : Exit → Act → World → Prop} {md : Region.Mode}
theorem getD_list {l : Array Bool} {i : Nat} (d : Bool) (h : i < l.size) : l.toList[i]? = some (l.getD i d) := by
  simp [Array.getD, h]
theorem wpAny_inv (I : Array Bool → Act → World → Prop)
    (hback : ∀ (i : Nat) (o : Oper), ops[i]? = some o → ∀ e ∈ o.after, Region.binds md e = true → e.on < i)
    (hstep : ∀ (i : Nat) (o : Oper) (listed : Array Bool) (a : Act) (w : World), ops[i]? = some o → listed.size = ops.size → listed.getD i true = false → (∀ e ∈ o.after, Region.binds md e = true → listed.getD e.on false = true) → I listed a w → Region.wanted o (yielded ops a.tmps) = true ∧ o.wp P a w (fun a' w' => I (listed.setIfInBounds i true) a' w') Q)
    (hend : ∀ (listed : Array Bool) (a : Act) (w : World), listed.size = ops.size → (∀ i, i < ops.size → listed.getD i false = true) → I listed a w → Q .normal a w) :
    ∀ (fuel : Nat) (listed : Array Bool) (a : Act) (w : World), listed.size = ops.size → listed.toList.count false ≤ fuel → I listed a w → wpAny P md ops Q fuel listed a w := by
  have hall : ∀ listed : Array Bool, listed.size = ops.size → Region.ready md ops listed = [] → ∀ i, i < ops.size → listed.getD i false = true := by
    intro listed hs hr i
    induction i using Nat.strongRecOn with
    | _ i ih =>
      intro hi
      cases hc : listed.getD i false
      · exfalso
        have hmem : i ∈ Region.ready md ops listed := by
          unfold Region.ready
          refine List.mem_filter.2 ⟨List.mem_range.2 hi, ?_⟩
          have h1 : listed.getD i true = false := by
            have : i < listed.size := by omega
            simp [Array.getD, this] at hc ⊢
            exact hc
          have ho : ops[i]? = some ops[i] := by simp [hi]
          rw [h1, ho]
          simp only [Bool.not_false, Bool.true_and, Option.map_some, Option.getD_some, Array.all_eq_true', Bool.or_eq_true, Bool.not_eq_true']
          intro e he
          cases hb : Region.binds md e
          · exact .inl rfl
          · right
            have hlt := hback i _ ho e he hb
            have := ih e.on hlt (by omega)
            have hsz : e.on < listed.size := by omega
            exact this
        rw [hr] at hmem
        cases hmem
      · rfl
  intro fuel
  induction fuel with
  | zero =>
    intro listed a w hs hc hI
    have hl : ∀ i, i < ops.size → listed.getD i false = true := by
      intro i hi
      have h1 := count_none listed.toList (by omega) i (by simp; omega)
      rw [getD_list false (by omega)] at h1
      exact Option.some.inj h1
    refine ⟨?_, hend listed a w hs hl hI⟩
    unfold Region.ready
    refine List.filter_eq_nil_iff.2 fun i hi => ?_
    have hi' := List.mem_range.1 hi
    have := hl i hi'
    have hsz : i < listed.size := by omega
    simp [Array.getD, hsz] at this ⊢
    intro h
    rw [this] at h
    cases h
  | succ fuel ih =>
    intro listed a w hs hc hI
    refine ⟨fun hr => hend listed a w hs (hall listed hs hr) hI, fun i hi => ?_⟩
    unfold Region.ready at hi
    obtain ⟨hr, hp⟩ := List.mem_filter.1 hi
    have hlt := List.mem_range.1 hr
    have ho : ops[i]? = some ops[i] := by simp [hlt]
    rw [ho] at hp
    simp only [Option.map_some, Option.getD_some, Bool.and_eq_true, Bool.not_eq_true', Array.all_eq_true', Bool.or_eq_true] at hp
    obtain ⟨hf, hd⟩ := hp
    unfold wpOp
    rw [ho]
    have hst := hstep i _ listed a w ho hs hf (fun e he hb => by
      rcases hd e he with h | h
      · rw [hb] at h; cases h
      · exact h) hI
    simp only [hst.1, if_true]
    left
    refine Oper.wp_mono (fun a' w' hI' => ih _ a' w' (by simpa using hs) ?_ hI') hst.2
    · have h1 : listed.toList[i]? = some false := by rw [getD_list true (by omega), hf]
      have := count_set_false listed.toList i h1
      simp
      omega
theorem wp_region_inv {id : Nat} {a : Act} {w : World} (I : Array Bool → Act → World → Prop) (hm : P.follows .mixedOrders = true)
    (hback : ∀ (i : Nat) (o : Oper), ops[i]? = some o → ∀ e ∈ o.after, Region.binds .any e = true → e.on < i)
    (hstep : ∀ (i : Nat) (o : Oper) (listed : Array Bool) (a : Act) (w : World), ops[i]? = some o → listed.size = ops.size → listed.getD i true = false → (∀ e ∈ o.after, Region.binds .any e = true → listed.getD e.on false = true) → I listed a w → Region.wanted o (yielded ops a.tmps) = true ∧ o.wp P a w (fun a' w' => I (listed.setIfInBounds i true) a' w') Q)
    (hend : ∀ (listed : Array Bool) (a : Act) (w : World), listed.size = ops.size → (∀ i, i < ops.size → listed.getD i false = true) → I listed a w → Q .normal a w)
    (h0 : I (Array.replicate ops.size false) a { w with drawn := w.drawn + 1 }) : (Code.region id ops true).wp P Q a w :=
  wp_region_any hm (wpAny_inv I hback hstep hend _ _ _ _ (by simp) (by simp) h0)
def upd (f : Nat → Value) (i : Nat) (v : Value) : Nat → Value := fun j => if j = i then v else f j
theorem upd_same (f : Nat → Value) (i : Nat) (v : Value) : upd f i v i = v := if_pos rfl
theorem upd_ne (f : Nat → Value) (i j : Nat) (v : Value) (h : j ≠ i) : upd f i v j = f j := if_neg h
theorem getD_set (l : Array Bool) (i j : Nat) (d : Bool) (h : i < l.size) : (l.setIfInBounds i true).getD j d = if j = i then true else l.getD j d := by
  by_cases e : j = i
  · subst e
    simp [Array.getD, h]
  · rw [if_neg e]
    simp only [Array.getD_eq_getD_getElem?, Array.getElem?_setIfInBounds_ne (Ne.symm e)]
theorem getD_tf {l : Array Bool} {i : Nat} (h : i < l.size) : l.getD i true = l.getD i false := by simp [Array.getD, h]
/-- The last operation waits for all others; of each other one there is what its value is (V), which nothing takes back (Gr). -/
theorem wp_region_draws {id n : Nat} {w : World} (A : (Nat → Value) → Act) (V : Nat → World → Value → Prop) (G : Nat → World → Prop) (Gr : World → World → Prop) (f0 : Nat → Value)
    (hm : P.follows .mixedOrders = true) (hsz : ops.size = n + 1)
    (hback : ∀ (i : Nat) (o : Oper), ops[i]? = some o → ∀ e ∈ o.after, Region.binds .any e = true → e.on < i)
    (hsink : ∀ D : Nat → Prop, (∀ (j : Nat) (o : Oper), ops[j]? = some o → (j = n ∨ D j) → ∀ e ∈ o.after, Region.binds .any e = true → D e.on) → ∀ i, i < n → D i)
    (stable : ∀ i w w' v, V i w v → Gr w w' → V i w' v)
    (step : ∀ (i : Nat) (o : Oper), i < n → ops[i]? = some o → ∀ (f : Nat → Value) (w : World) (k : Nat), k ≤ n → G k w → (∀ e ∈ o.after, Region.binds .any e = true → V e.on w (f e.on)) →
      Region.wanted o (yielded ops (A f).tmps) = true ∧ o.wp P (A f) w (fun a' w' => ∃ v, a' = A (upd f i v) ∧ V i w' v ∧ G (k + 1) w' ∧ Gr w w') Q)
    (last : ∀ (o : Oper), ops[n]? = some o → ∀ (f : Nat → Value) (w : World) (k : Nat), k ≤ n → G k w → (∀ j, j < n → V j w (f j)) → Region.wanted o (yielded ops (A f).tmps) = true ∧ o.wp P (A f) w (fun a' w' => Q .normal a' w') Q)
    (h0 : G 0 { w with drawn := w.drawn + 1 }) : (Code.region id ops true).wp P Q (A f0) w := by
  refine wp_region_inv (fun listed a w => (listed.getD n false = true ∧ (∀ j, j < n → listed.getD j false = true) ∧ Q .normal a w) ∨ (listed.getD n false = false ∧ ∃ f k, a = A f ∧ k + listed.toList.count false = n + 1 ∧ (∀ (j : Nat) (o : Oper), ops[j]? = some o → listed.getD j false = true → ∀ e ∈ o.after, Region.binds .any e = true → listed.getD e.on false = true) ∧ G k w ∧ ∀ j, j < n → listed.getD j false = true → V j w (f j))) hm hback ?_ ?_ ?_
  · intro i o listed a w ho hs hf hd hI
    have hin : i < ops.size := (Array.getElem?_eq_some_iff.1 ho).1
    have hil : i < listed.size := by omega
    have hf' : listed.getD i false = false := by rw [← getD_tf hil]; exact hf
    have hcnt := count_set_false listed.toList i (by rw [getD_list true hil, hf])
    rcases hI with ⟨h1, h2, h3⟩ | ⟨h1, f, k, rfl, hk, hcl, hG, hV⟩
    · exfalso
      by_cases e : i = n
      · rw [e, h1] at hf'; cases hf'
      · rw [h2 i (by omega)] at hf'; cases hf'
    · by_cases e : i = n
      · subst e
        have hall : ∀ j, j < i → listed.getD j false = true := hsink (fun j => listed.getD j false = true) (fun j o' ho' hj e he hb => by
          rcases hj with rfl | hj
          · rw [ho] at ho'; injection ho' with ho'; subst ho'; exact hd e he hb
          · exact hcl j o' ho' hj e he hb)
        have hla := last o ho f w k (by omega) hG (fun j hj => hV j hj (hall j hj))
        refine ⟨hla.1, Oper.wp_mono (fun a' w' hq => .inl ⟨?_, fun j hj => ?_, hq⟩) hla.2⟩
        · rw [getD_set _ _ _ _ hil, if_pos rfl]
        · rw [getD_set _ _ _ _ hil, if_neg (by omega)]; exact hall j hj
      · have hla := step i o (by omega) ho f w k (by omega) hG (fun e he hb => hV e.on (by have := hback i o ho e he hb; omega) (hd e he hb))
        refine ⟨hla.1, Oper.wp_mono (fun a' w' hq => ?_) hla.2⟩
        obtain ⟨v, rfl, hv, hG', hgr⟩ := hq
        refine .inr ⟨by rw [getD_set _ _ _ _ hil, if_neg (fun c => e c.symm)]; exact h1, upd f i v, k + 1, rfl, by simp; omega, fun j o' ho' hj ed hed hb => ?_, hG', fun j hj hl => ?_⟩
        · rw [getD_set _ _ _ _ hil] at hj ⊢
          by_cases ee : ed.on = i
          · rw [if_pos ee]
          · rw [if_neg ee]
            by_cases ej : j = i
            · subst ej
              rw [ho] at ho'; injection ho' with ho'; subst ho'
              exact hd ed hed hb
            · rw [if_neg ej] at hj
              exact hcl j o' ho' hj ed hed hb
        by_cases ej : j = i
        · subst ej; rw [upd_same]; exact hv
        · rw [upd_ne _ _ _ _ ej]
          rw [getD_set _ _ _ _ hil, if_neg ej] at hl
          exact stable _ _ _ _ (hV j hj hl) hgr
  · intro listed a w hs hl hI
    rcases hI with ⟨_, _, h⟩ | ⟨h, _⟩
    · exact h
    · rw [hl n (by omega)] at h; cases h
  · refine .inr ⟨by simp [Array.getD, hsz], f0, 0, rfl, by simp [hsz], fun j o' ho' hj => by simp [Array.getD] at hj, h0, fun j hj hl => ?_⟩
    simp [Array.getD] at hl
end
def afterOf (ops : Array Oper) (j : Nat) : List Nat := match ops[j]? with | some o => (o.after.toList.filter (fun e => Region.binds .any e)).map (fun e => e.on) | none => []
/-- What the last operation waits for, directly or through others. -/
def reachS (ops : Array Oper) (n : Nat) : Nat → List Nat
  | 0 => afterOf ops n
  | k + 1 => let S := reachS ops n k; (List.range n).filter (fun i => S.contains i || S.any (fun j => (afterOf ops j).contains i))
theorem afterOf_mem {ops : Array Oper} {j i : Nat} (h : i ∈ afterOf ops j) : ∃ o, ops[j]? = some o ∧ ∃ e ∈ o.after, Region.binds .any e = true ∧ e.on = i := by
  unfold afterOf at h
  split at h
  · rename_i o ho
    obtain ⟨e, he, hi⟩ := List.mem_map.1 h
    obtain ⟨h1, h2⟩ := List.mem_filter.1 he
    exact ⟨o, ho, e, Array.mem_toList_iff.1 h1, h2, hi⟩
  · cases h
theorem reachS_sink {ops : Array Oper} {n : Nat} (D : Nat → Prop) (hD : ∀ (j : Nat) (o : Oper), ops[j]? = some o → (j = n ∨ D j) → ∀ e ∈ o.after, Region.binds .any e = true → D e.on) : ∀ k i, i ∈ reachS ops n k → D i
  | 0, i, h => by
    obtain ⟨o, ho, e, he, hb, rfl⟩ := afterOf_mem h
    exact hD n o ho (.inl rfl) e he hb
  | k + 1, i, h => by
    have ih := reachS_sink D hD k
    obtain ⟨-, h2⟩ := List.mem_filter.1 h
    simp only [Bool.or_eq_true, List.contains_iff_mem, List.any_eq_true] at h2
    rcases h2 with h2 | ⟨j, hj, hi⟩
    · exact ih i h2
    · obtain ⟨o, ho, e, he, hb, rfl⟩ := afterOf_mem hi
      exact hD j o ho (.inr (ih j hj)) e he hb
/-- What a region must be for the law of draws; checked by the kernel. -/
def regOk (ops : Array Oper) (n : Nat) : Bool :=
  ops.size == n + 1 && (List.range ops.size).all (fun i => match ops[i]? with | some o => o.guard.isNone && o.after.toList.all (fun e => !Region.binds .any e || decide (e.on < i)) | none => true) &&
    (List.range n).all (fun i => (reachS ops n 4).contains i)
theorem wp_region_drawn {P : Program} {ops : Array Oper} {Q : Exit → Act → World → Prop} {id : Nat} (n : Nat) {w : World} (A : (Nat → Value) → Act) (V : Nat → World → Value → Prop) (G : Nat → World → Prop) (Gr : World → World → Prop) (f0 : Nat → Value)
    (hm : P.follows .mixedOrders = true) (hok : regOk ops n = true)
    (stable : ∀ i w w' v, V i w v → Gr w w' → V i w' v)
    (step : ∀ (i : Nat) (o : Oper), i < n → ops[i]? = some o → ∀ (f : Nat → Value) (w : World) (k : Nat), k ≤ n → G k w → (∀ e ∈ o.after, Region.binds .any e = true → V e.on w (f e.on)) →
      o.wp P (A f) w (fun a' w' => ∃ v, a' = A (upd f i v) ∧ V i w' v ∧ G (k + 1) w' ∧ Gr w w') Q)
    (last : ∀ (o : Oper), ops[n]? = some o → ∀ (f : Nat → Value) (w : World) (k : Nat), k ≤ n → G k w → (∀ j, j < n → V j w (f j)) → o.wp P (A f) w (fun a' w' => Q .normal a' w') Q)
    (h0 : G 0 { w with drawn := w.drawn + 1 }) : (Code.region id ops true).wp P Q (A f0) w := by
  unfold regOk at hok
  simp only [Bool.and_eq_true, beq_iff_eq, List.all_eq_true, List.mem_range] at hok
  obtain ⟨⟨h1, h2⟩, h3⟩ := hok
  have hg : ∀ (i : Nat) (o : Oper), ops[i]? = some o → o.guard = none := by
    intro i o ho
    have := h2 i (Array.getElem?_eq_some_iff.1 ho).1
    rw [ho] at this
    simp only [Bool.and_eq_true, Option.isNone_iff_eq_none] at this
    exact this.1
  refine wp_region_draws A V G Gr f0 hm h1 ?_ ?_ stable (fun i o hi ho f w k hk hG hd => ⟨by simp [Region.wanted, hg i o ho], step i o hi ho f w k hk hG hd⟩) (fun o ho f w k hk hG hV => ⟨by simp [Region.wanted, hg n o ho], last o ho f w k hk hG hV⟩) h0
  · intro i o ho e he hb
    have := h2 i (Array.getElem?_eq_some_iff.1 ho).1
    rw [ho] at this
    simp only [Bool.and_eq_true, List.all_eq_true, Bool.or_eq_true, Bool.not_eq_true', decide_eq_true_eq] at this
    rcases this.2 e (Array.mem_toList_iff.2 he) with h | h
    · rw [hb] at h; cases h
    · exact h
  · intro D hD i hi
    have := h3 i hi
    exact reachS_sink D hD 4 i (by simpa using this)
end Go.Proofs.YtajifionclpphaaGreatDoor

namespace Go.Proofs.YtajifionclpphaaGreatDoor
open Go.RowKit Go.Hw

def VIs (u : Value) : World → Value → Prop := fun _ v => v = u
/-- A literal slice in a block of its own. -/
def VBox (b : Nat) (cs : Array Value) (T : TypeId) (n : Nat) : World → Value → Prop := fun w v => ∃ g, v = .slice (some ⟨g, 0, none⟩) n n ∧ w.heap[g]? = some (.cells cs T (0, 0)) ∧ b ≠ g
def VInt (S : Int → Prop) : World → Value → Prop := fun _ v => ∃ d, S d ∧ v = .int .i64 d
def VVal (S : Value → Prop) : World → Value → Prop := fun _ v => S v
/-- A new block. -/
def VNew (b base : Nat) (cs : Array Value) (T : TypeId) : World → Value → Prop := fun w v => ∃ P, v = .pointer (some ⟨P, 0, none⟩) ∧ w.heap[P]? = some (.cells cs T (0, 0)) ∧ base ≤ P ∧ b ≠ P
def Stab (b : Nat) (V : World → Value → Prop) : Prop := ∀ w w' v, V w v → w.grownBy w' (some b) → V w' v
theorem VIs.stab (b : Nat) (u : Value) : Stab b (VIs u) := fun _ _ _ h _ => h
theorem VInt.stab (b : Nat) (S : Int → Prop) : Stab b (VInt S) := fun _ _ _ h _ => h
theorem VVal.stab (b : Nat) (S : Value → Prop) : Stab b (VVal S) := fun _ _ _ h _ => h
theorem VBox.stab (b : Nat) (cs : Array Value) (T : TypeId) (n : Nat) : Stab b (VBox b cs T n) := fun _ _ _ ⟨g, h1, h2, h3⟩ hg => ⟨g, h1, gk hg h2 h3, h3⟩
theorem VNew.stab (b base : Nat) (cs : Array Value) (T : TypeId) : Stab b (VNew b base cs T) := fun _ _ _ ⟨P, h1, h2, h3, h4⟩ hg => ⟨P, h1, gk hg h2 h4, h3, h4⟩
/-- The values of the operations, by a list. -/
def VL (l : List (World → Value → Prop)) (i : Nat) : World → Value → Prop := l.getD i (VIs undef)
theorem VL.stab {b : Nat} {l : List (World → Value → Prop)} (h : ∀ p ∈ l, Stab b p) (i : Nat) (w w' : World) (v : Value) (hv : VL l i w v) (hg : w.grownBy w' (some b)) : VL l i w' v := by
  unfold VL at *
  by_cases hi : i < l.length
  · exact h _ (getD_mem hi) w w' v hv hg
  · rw [List.getD_eq_getElem?_getD, List.getElem?_eq_none (by omega)] at hv ⊢
    exact hv
/-- What a draw in a region keeps: the stream, the blocks in view; the heap only grows. -/
def GD (w0 w2 : World) (b : Nat) (A : Option Addr) (cap : Nat) (l : List Int) (at_ m : Int) (bs : List DBk) (k : Nat) (w : World) : Prop := DS w0 w b A cap l at_ (m + k) bs ∧ w2.heap.size ≤ w.heap.size
theorem GD.start {w0 w : World} {b : Nat} {A : Option Addr} {cap : Nat} {l : List Int} {at_ m : Int} {bs : List DBk} (h : DS w0 w b A cap l at_ m bs) : GD w0 w b A cap l at_ m bs 0 w.drew := ⟨by simpa using h.dr, Nat.le_refl _⟩
theorem GD.same {w0 w2 w : World} {b : Nat} {A : Option Addr} {cap : Nat} {l : List Int} {at_ m : Int} {bs : List DBk} {k : Nat} (h : GD w0 w2 b A cap l at_ m bs k w) : GD w0 w2 b A cap l at_ m bs (k + 1) w := ⟨h.1.le (by omega), h.2⟩
theorem GD.alo {w0 w2 w : World} {b : Nat} {A : Option Addr} {cap : Nat} {l : List Int} {at_ m : Int} {bs : List DBk} {k : Nat} (h : GD w0 w2 b A cap l at_ m bs k w) (o : Obj) : GD w0 w2 b A cap l at_ m bs (k + 1) (w.alloc o) := ⟨(h.1.alo o).le (by omega), by have := h.2; simp; omega⟩
theorem GD.ext {w0 w2 w w' : World} {b : Nat} {A : Option Addr} {cap : Nat} {l : List Int} {at_ m : Int} {bs : List DBk} {k : Nat} (h : GD w0 w2 b A cap l at_ m bs k w) (hd : DS w0 w' b A cap l at_ (m + k + 1) bs) (hg : w.grownBy w' (some b)) : GD w0 w2 b A cap l at_ m bs (k + 1) w' := ⟨hd.le (by omega), Nat.le_trans h.2 hg.size⟩
theorem gr_refl (w : World) (b : Nat) : w.grownBy w (some b) := World.grownBy.refl _ _
theorem gr_alo (w : World) (b : Nat) (o : Obj) : w.grownBy (w.alloc o) (some b) := World.grownBy_alloc _ _ _
end Go.Proofs.YtajifionclpphaaGreatDoor

namespace Go.Proofs.YtajifionclpphaaGreatDoor

section
variable {P : Program} {ops : Array Oper} {Q : Exit → Act → World → Prop}
theorem wp_region_tail0 {id n : Nat} {w : World} (A : (Nat → Value) → Act) (V : Nat → World → Value → Prop) (G : Nat → World → Prop) (Gr : World → World → Prop) (f0 : Nat → Value) (R : Act → World → Prop)
    (hm : P.follows .mixedOrders = true) (hsz : ops.size = n + 2)
    (hback : ∀ (i : Nat) (o : Oper), ops[i]? = some o → ∀ e ∈ o.after, Region.binds .any e = true → e.on < i)
    (hsink : ∀ D : Nat → Prop, (∀ (j : Nat) (o : Oper), ops[j]? = some o → (j = n ∨ D j) → ∀ e ∈ o.after, Region.binds .any e = true → D e.on) → ∀ i, i < n → D i)
    (hlast : ∀ (o : Oper), ops[n + 1]? = some o → ∃ e ∈ o.after, Region.binds .any e = true ∧ e.on = n)
    (stable : ∀ i w w' v, V i w v → Gr w w' → V i w' v)
    (step : ∀ (i : Nat) (o : Oper), i < n → ops[i]? = some o → ∀ (f : Nat → Value) (w : World) (k : Nat), k ≤ n → G k w → (∀ e ∈ o.after, Region.binds .any e = true → V e.on w (f e.on)) →
      Region.wanted o (yielded ops (A f).tmps) = true ∧ o.wp P (A f) w (fun a' w' => ∃ v, a' = A (upd f i v) ∧ V i w' v ∧ G (k + 1) w' ∧ Gr w w') Q)
    (last : ∀ (o : Oper), ops[n]? = some o → ∀ (f : Nat → Value) (w : World) (k : Nat), k ≤ n → G k w → (∀ j, j < n → V j w (f j)) → Region.wanted o (yielded ops (A f).tmps) = true ∧ o.wp P (A f) w R Q)
    (last2 : ∀ (o : Oper), ops[n + 1]? = some o → ∀ (a : Act) (w : World), R a w → Region.wanted o (yielded ops a.tmps) = true ∧ o.wp P a w (fun a' w' => Q .normal a' w') Q)
    (h0 : G 0 { w with drawn := w.drawn + 1 }) : (Code.region id ops true).wp P Q (A f0) w := by
  refine wp_region_inv (fun listed a w => (listed.getD n false = true ∧ listed.getD (n + 1) false = true ∧ (∀ j, j < n → listed.getD j false = true) ∧ Q .normal a w) ∨
    (listed.getD n false = true ∧ listed.getD (n + 1) false = false ∧ (∀ j, j < n → listed.getD j false = true) ∧ R a w) ∨
    (listed.getD n false = false ∧ listed.getD (n + 1) false = false ∧ ∃ f k, a = A f ∧ k + listed.toList.count false = n + 2 ∧ (∀ (j : Nat) (o : Oper), ops[j]? = some o → listed.getD j false = true → ∀ e ∈ o.after, Region.binds .any e = true → listed.getD e.on false = true) ∧ G k w ∧ ∀ j, j < n → listed.getD j false = true → V j w (f j))) hm hback ?_ ?_ ?_
  · intro i o listed a w ho hs hf hd hI
    have hin : i < ops.size := (Array.getElem?_eq_some_iff.1 ho).1
    have hil : i < listed.size := by omega
    have hf' : listed.getD i false = false := by rw [← getD_tf hil]; exact hf
    have hcnt := count_set_false listed.toList i (by rw [getD_list true hil, hf])
    rcases hI with ⟨h1, h2, h3, h4⟩ | ⟨h1, h2, h3, h4⟩ | ⟨h1, h2, f, k, rfl, hk, hcl, hG, hV⟩
    · exfalso
      by_cases e : i = n
      · rw [e, h1] at hf'; cases hf'
      · by_cases e2 : i = n + 1
        · rw [e2, h2] at hf'; cases hf'
        · rw [h3 i (by omega)] at hf'; cases hf'
    · have e : i = n + 1 := by
        by_cases e : i = n
        · rw [e, h1] at hf'; cases hf'
        · by_cases e2 : i < n
          · rw [h3 i e2] at hf'; cases hf'
          · omega
      subst e
      have hla := last2 o ho a w h4
      refine ⟨hla.1, Oper.wp_mono (fun a' w' hq => .inl ⟨?_, ?_, fun j hj => ?_, hq⟩) hla.2⟩
      · rw [getD_set _ _ _ _ hil, if_neg (by omega)]; exact h1
      · rw [getD_set _ _ _ _ hil, if_pos rfl]
      · rw [getD_set _ _ _ _ hil, if_neg (by omega)]; exact h3 j hj
    · by_cases e : i = n
      · subst e
        have hall : ∀ j, j < i → listed.getD j false = true := hsink (fun j => listed.getD j false = true) (fun j o' ho' hj e he hb => by
          rcases hj with rfl | hj
          · rw [ho] at ho'; injection ho' with ho'; subst ho'; exact hd e he hb
          · exact hcl j o' ho' hj e he hb)
        have hcn : 2 ≤ listed.toList.count false := by
          have h2' : (listed.toList.set i true)[i + 1]? = some false := by
            rw [List.getElem?_set_ne (by omega)]
            rw [getD_list false (by omega), h2]
          have := count_set_false _ _ h2'
          omega
        have hla := last o ho f w k (by omega) hG (fun j hj => hV j hj (hall j hj))
        refine ⟨hla.1, Oper.wp_mono (fun a' w' hq => .inr (.inl ⟨?_, ?_, fun j hj => ?_, hq⟩)) hla.2⟩
        · rw [getD_set _ _ _ _ hil, if_pos rfl]
        · rw [getD_set _ _ _ _ hil, if_neg (by omega)]; exact h2
        · rw [getD_set _ _ _ _ hil, if_neg (by omega)]; exact hall j hj
      · by_cases e2 : i = n + 1
        · exfalso
          subst e2
          obtain ⟨ed, he, hb, hon⟩ := hlast o ho
          have := hd ed he hb
          rw [hon, h1] at this
          cases this
        · have hcn : 2 ≤ (listed.toList.set i true).count false := by
            have ha : (listed.toList.set i true)[n]? = some false := by
              rw [List.getElem?_set_ne (by omega), getD_list false (by omega), h1]
            have h3 := count_set_false _ _ ha
            have hb : ((listed.toList.set i true).set n true)[n + 1]? = some false := by
              rw [List.getElem?_set_ne (by omega), List.getElem?_set_ne (by omega), getD_list false (by omega), h2]
            have h4 := count_set_false _ _ hb
            omega
          have hla := step i o (by omega) ho f w k (by omega) hG (fun e he hb => hV e.on (by have := hback i o ho e he hb; omega) (hd e he hb))
          refine ⟨hla.1, Oper.wp_mono (fun a' w' hq => ?_) hla.2⟩
          obtain ⟨v, rfl, hv, hG', hgr⟩ := hq
          refine .inr (.inr ⟨by rw [getD_set _ _ _ _ hil, if_neg (fun c => e c.symm)]; exact h1, by rw [getD_set _ _ _ _ hil, if_neg (fun c => e2 c.symm)]; exact h2, upd f i v, k + 1, rfl, by simp; omega, fun j o' ho' hj ed hed hb => ?_, hG', fun j hj hl => ?_⟩)
          · rw [getD_set _ _ _ _ hil] at hj ⊢
            by_cases ee : ed.on = i
            · rw [if_pos ee]
            · rw [if_neg ee]
              by_cases ej : j = i
              · subst ej
                rw [ho] at ho'; injection ho' with ho'; subst ho'
                exact hd ed hed hb
              · rw [if_neg ej] at hj
                exact hcl j o' ho' hj ed hed hb
          · by_cases ej : j = i
            · subst ej; rw [upd_same]; exact hv
            · rw [upd_ne _ _ _ _ ej]
              rw [getD_set _ _ _ _ hil, if_neg ej] at hl
              exact stable _ _ _ _ (hV j hj hl) hgr
  · intro listed a w hs hl hI
    rcases hI with ⟨_, _, _, h⟩ | ⟨_, h, _⟩ | ⟨h, _⟩
    · exact h
    · rw [hl (n + 1) (by omega)] at h; cases h
    · rw [hl n (by omega)] at h; cases h
  · refine .inr (.inr ⟨by simp [Array.getD, hsz], by simp [Array.getD, hsz], f0, 0, rfl, by simp [hsz], fun j o' ho' hj => by simp [Array.getD] at hj, h0, fun j hj hl => ?_⟩)
    simp [Array.getD] at hl
end
def regTail (ops : Array Oper) (n : Nat) : Bool :=
  ops.size == n + 2 && (List.range ops.size).all (fun i => match ops[i]? with | some o => o.after.toList.all (fun e => !Region.binds .any e || decide (e.on < i)) | none => true) &&
    (List.range n).all (fun i => (reachS ops n 4).contains i) && (afterOf ops (n + 1)).contains n
theorem wp_region_tail {P : Program} {ops : Array Oper} {Q : Exit → Act → World → Prop} {id : Nat} (n : Nat) {w : World} (A : (Nat → Value) → Act) (V : Nat → World → Value → Prop) (G : Nat → World → Prop) (Gr : World → World → Prop) (f0 : Nat → Value) (R : Act → World → Prop)
    (hm : P.follows .mixedOrders = true) (hok : regTail ops n = true)
    (stable : ∀ i w w' v, V i w v → Gr w w' → V i w' v)
    (step : ∀ (i : Nat) (o : Oper), i < n → ops[i]? = some o → ∀ (f : Nat → Value) (w : World) (k : Nat), k ≤ n → G k w → (∀ e ∈ o.after, Region.binds .any e = true → V e.on w (f e.on)) →
      Region.wanted o (yielded ops (A f).tmps) = true ∧ o.wp P (A f) w (fun a' w' => ∃ v, a' = A (upd f i v) ∧ V i w' v ∧ G (k + 1) w' ∧ Gr w w') Q)
    (last : ∀ (o : Oper), ops[n]? = some o → ∀ (f : Nat → Value) (w : World) (k : Nat), k ≤ n → G k w → (∀ j, j < n → V j w (f j)) → Region.wanted o (yielded ops (A f).tmps) = true ∧ o.wp P (A f) w R Q)
    (last2 : ∀ (o : Oper), ops[n + 1]? = some o → ∀ (a : Act) (w : World), R a w → Region.wanted o (yielded ops a.tmps) = true ∧ o.wp P a w (fun a' w' => Q .normal a' w') Q)
    (h0 : G 0 { w with drawn := w.drawn + 1 }) : (Code.region id ops true).wp P Q (A f0) w := by
  unfold regTail at hok
  simp only [Bool.and_eq_true, beq_iff_eq, List.all_eq_true, List.mem_range] at hok
  obtain ⟨⟨⟨h1, h2⟩, h3⟩, h4⟩ := hok
  refine wp_region_tail0 A V G Gr f0 R hm h1 ?_ ?_ ?_ stable step last last2 h0
  · intro i o ho e he hb
    have := h2 i (Array.getElem?_eq_some_iff.1 ho).1
    rw [ho] at this
    simp only [List.all_eq_true, Bool.or_eq_true, Bool.not_eq_true', decide_eq_true_eq] at this
    rcases this e (Array.mem_toList_iff.2 he) with h | h
    · rw [hb] at h; cases h
    · exact h
  · intro D hD i hi
    have := h3 i hi
    exact reachS_sink D hD 4 i (by simpa using this)
  · intro o ho
    obtain ⟨o', ho', e, he, hb, hon⟩ := afterOf_mem (by simpa using h4)
    rw [ho] at ho'
    injection ho' with ho'
    subst ho'
    exact ⟨e, he, hb, hon⟩
end Go.Proofs.YtajifionclpphaaGreatDoor
