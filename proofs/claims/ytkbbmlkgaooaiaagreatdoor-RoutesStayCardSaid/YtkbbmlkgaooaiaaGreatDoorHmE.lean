/- What is wrong with probes: route.CheckProbes tells 0 only of probes that are right; homeFault. route.homes, homeFault, Homes: they end, and change nothing that was there. route.homeFault, Homes: they end, and change nothing that was there. -/
import Derived.Test.YtkbbmlkgaooaiaaGreatDoorPbD
import Derived.Test.YtkbbmlkgaooaiaaGreatDoorHlA
import Derived.Test.YtkbbmlkgaooaiaaGreatDoorMkE
import Derived.Test.YtkbbmlkgaooaiaaGreatDoorBgB
namespace Go.Proofs.YtkbbmlkgaooaiaaGreatDoor
open Go.RowKit Go.Hw Go.Shelf

/-- Probe i is right. -/
def PbOne (xs : List Pb) (i : Nat) : Prop :=
  (isKey (xs.getD i noPb).relay = true ∧ isMom (xs.getD i noPb).at_ = true) ∧ (-1 ≤ (xs.getD i noPb).millis ∧ (xs.getD i noPb).millis ≤ 1000000) ∧ (0 < i → (xs.getD (i - 1) noPb).at_ ≤ (xs.getD i noPb).at_)
theorem orOf_three {a b c : Int} (h : ¬ 0 ≤ orOf [a, b, c]) : a < 0 ∨ a = 0 := by
  unfold orOf at h
  split at h
  · exact .inr (by assumption)
  · omega

set_option maxRecDepth 100000 in
set_option maxHeartbeats 1000000 in
theorem checkProbes_any (A : Option Addr) (cap : Nat) (xs : List Pb) (w : World) (h : qpAt w A xs) (hl : xs.length ≤ 2000) (ht : ∀ i, PbT (xs.getD i noPb)) :
    Calls Tryz.prog 64 #[.slice A xs.length cap] w fun e w' => ∃ c : Int, e = .returned (.int .i64 c) ∧ (c = 0 → ∀ i, i < xs.length → PbOne xs i) ∧ Below w.heap.size w w' := by
  have H := Lib.hid h
  have HS := Lib.hid ht
  clear h ht
  go_enter Tryz.func64, Tryz.ntmps64
  go_wp2_with fail
  go_loopw [11] (fun i wr => ∃ k : Nat, k ≤ xs.length ∧ i = .int .i64 k ∧ Hid (∀ j, j < k → PbOne xs j) ∧ Below w.heap.size w wr) (fun i _ => xs.length - (intOf i).toNat)
  case atStart => exact ⟨0, Nat.zero_le _, rfl, Lib.hid (fun j h => absurd h (by omega)), Below.refl _ _⟩
  case round =>
    obtain ⟨k, hk, rfl, hrel, hb⟩ := hrel
    by_cases hlt : k < xs.length
    · obtain ⟨g, off, rfl, hg, hcc⟩ := (H.out.below hb) k hlt
      obtain ⟨c0, c1, c2, c3⟩ := qp_cells hcc
      have hone : PbOne xs k = PbOne xs k := rfl
      conv at hone => rhs; unfold PbOne
      have HC := Lib.hid hone
      have s1 := HS.out k
      clear hone hcc
      generalize xs.getD k noPb = x at *
      obtain ⟨xa, xn, xr, xm⟩ := x
      unfold PbT at s1
      simp only at c0 c1 c2 c3 s1
      have s2 : xn.size ≤ maxLen := by unfold maxLen; omega
      have s3 : xr.size ≤ maxLen := by unfold maxLen; omega
      have hb1 : Below w.heap.size w (wr.alloc (.cells #[.int .i64 xa, .string xn, .string xr, .int .i64 xm] 61)) := hb.alloc hb.size _
      clear s1
      cases kt : isMom xa
      · go_wp2_with fail
        refine (isMom_any xa _).mono ?_
        rintro e w1 ⟨rfl, rfl⟩
        rw [kt]
        go_wp2_with fail
        go_ret
        exact ⟨1, rfl, fun h => absurd h (by decide), hb1⟩
      cases ka : isKey xn
      · go_wp2_with fail
        refine (isMom_any xa _).mono ?_
        rintro e w1 ⟨rfl, rfl⟩
        rw [kt]
        go_wp2_with fail
        refine (isKey_any xn _ s2).mono ?_
        rintro e w1 ⟨rfl, rfl⟩
        rw [ka]
        go_wp2_with fail
        go_ret
        exact ⟨5, rfl, fun h => absurd h (by decide), hb1⟩
      cases kb : isKey xr
      · go_wp2_with fail
        refine (isMom_any xa _).mono ?_
        rintro e w1 ⟨rfl, rfl⟩
        rw [kt]
        go_wp2_with fail
        refine (isKey_any xn _ s2).mono ?_
        rintro e w1 ⟨rfl, rfl⟩
        rw [ka]
        go_wp2_with fail
        refine (isKey_any xr _ s3).mono ?_
        rintro e w1 ⟨rfl, rfl⟩
        rw [kb]
        go_wp2_with fail
        go_ret
        exact ⟨5, rfl, fun h => absurd h (by decide), hb1⟩
      by_cases km : -1 ≤ xm ∧ xm ≤ 1000000
      rotate_left
      · have hin : (decide (xm < (-1 : Int)) || decide (1000000 < xm)) = true := by simp; omega
        clear km
        go_wp2_with fail
        refine (isMom_any xa _).mono ?_
        rintro e w1 ⟨rfl, rfl⟩
        rw [kt]
        go_wp2_with fail
        refine (isKey_any xn _ s2).mono ?_
        rintro e w1 ⟨rfl, rfl⟩
        rw [ka]
        go_wp2_with fail
        refine (isKey_any xr _ s3).mono ?_
        rintro e w1 ⟨rfl, rfl⟩
        rw [kb]
        go_wp2_with fail
        refine (outside_any _ _ _ _).mono ?_
        rintro e w1 ⟨rfl, rfl⟩
        rw [hin]
        go_wp2_with fail
        go_ret
        exact ⟨1, rfl, fun h => absurd h (by decide), hb1⟩
      have hin : (decide (xm < (-1 : Int)) || decide (1000000 < xm)) = false := by simp; omega
      have KM := Lib.hid km
      clear km
      by_cases k0 : k = 0
      · have HN : Hid (PbOne xs k) := Lib.hid (by rw [HC.out]; exact ⟨⟨kb, kt⟩, KM.out, fun h => absurd h (by omega)⟩)
        have hd : ((k : Int) == 0) = true := by rw [beq_iff_eq]; omega
        have HR : Hid (∀ j, j < k + 1 → PbOne xs j) := Lib.hid (fun j hj => by
          by_cases e : j = k
          · rw [e]; exact HN.out
          · exact hrel.out j (by omega))
        clear k0 hrel
        go_wp2_with fail
        refine (isMom_any xa _).mono ?_
        rintro e w1 ⟨rfl, rfl⟩
        rw [kt]
        go_wp2_with fail
        refine (isKey_any xn _ s2).mono ?_
        rintro e w1 ⟨rfl, rfl⟩
        rw [ka]
        go_wp2_with fail
        refine (isKey_any xr _ s3).mono ?_
        rintro e w1 ⟨rfl, rfl⟩
        rw [kb]
        go_wp2_with fail
        refine (outside_any _ _ _ _).mono ?_
        rintro e w1 ⟨rfl, rfl⟩
        rw [hin]
        go_wp2_with fail
        go_roundw
        case rel => exact ⟨k + 1, by omega, by go_num, HR, hb1⟩
        case measure => simp [intOf]; omega
      · obtain ⟨g', off', e', hg', hpp⟩ := (H.out.below hb1) (k - 1) (by omega)
        injection e' with e'
        injection e' with e1 e2
        subst e1 e2
        obtain ⟨p0, p1, p2, p3⟩ := qp_cells hpp
        have HK0 := Lib.hid k0
        have hd : ((k : Int) == 0) = false := by rw [beq_eq_false_iff_ne]; omega
        have hk1 : 0 ≤ (k : Int) - 1 := by omega
        have hk2 : (k : Int) - 1 < (xs.length : Int) := by omega
        have s1' : (1 : Int) ≤ (k : Int) := by omega
        have s0 : IntKind.i64.wrap ((k : Int) - 1) = (k : Int) - 1 := IntWalk.i64_in _ (by omega)
        have s2' : ((k : Int) - 1).toNat = k - 1 := by omega
        clear k0 hpp
        generalize xs.getD (k - 1) noPb = p at *
        obtain ⟨pa, pn, pr, pm⟩ := p
        simp only at p0 p1 p2 p3
        go_wp2_with fail
        refine (isMom_any xa _).mono ?_
        rintro e w1 ⟨rfl, rfl⟩
        rw [kt]
        go_wp2_with fail
        refine (isKey_any xn _ s2).mono ?_
        rintro e w1 ⟨rfl, rfl⟩
        rw [ka]
        go_wp2_with fail
        refine (isKey_any xr _ s3).mono ?_
        rintro e w1 ⟨rfl, rfl⟩
        rw [kb]
        go_wp2_with fail
        refine (outside_any _ _ _ _).mono ?_
        rintro e w1 ⟨rfl, rfl⟩
        rw [hin]
        have hbx : ((wr.alloc (.cells #[.int .i64 xa, .string xn, .string xr, .int .i64 xm] 61)).alloc (.cells #[.int .i64 pa, .string pn, .string pr, .int .i64 pm] 61)).heap[wr.heap.size]? = some (.cells #[.int .i64 xa, .string xn, .string xr, .int .i64 xm] 61 (0, 0)) := (heap_alloc_old _ _ (by simp)).trans (heap_alloc_new wr _)
        have hbp : ((wr.alloc (.cells #[.int .i64 xa, .string xn, .string xr, .int .i64 xm] 61)).alloc (.cells #[.int .i64 pa, .string pn, .string pr, .int .i64 pm] 61)).heap[wr.heap.size + 1]? = some (.cells #[.int .i64 pa, .string pn, .string pr, .int .i64 pm] 61 (0, 0)) := by
          have := heap_alloc_new (wr.alloc (.cells #[.int .i64 xa, .string xn, .string xr, .int .i64 xm] 61)) (.cells #[.int .i64 pa, .string pn, .string pr, .int .i64 pm] 61)
          simp only [Re_size] at this
          exact this
        obtain ⟨⟨x0, x1, x2, x3⟩, -⟩ := res4 hbx
        obtain ⟨⟨q0, q1, q2, q3⟩, -⟩ := res4 hbp
        have HBW := Lib.hid (hb1.alloc hb1.size (.cells #[.int .i64 pa, .string pn, .string pr, .int .i64 pm] 61))
        have hlw : wr.heap.size < ((wr.alloc (.cells #[.int .i64 xa, .string xn, .string xr, .int .i64 xm] 61)).alloc (.cells #[.int .i64 pa, .string pn, .string pr, .int .i64 pm] 61)).heap.size := by simp; omega
        have hlw1 : wr.heap.size + 1 < ((wr.alloc (.cells #[.int .i64 xa, .string xn, .string xr, .int .i64 xm] 61)).alloc (.cells #[.int .i64 pa, .string pn, .string pr, .int .i64 pm] 61)).heap.size := by simp
        clear hbx hbp
        go_wp2_with fail
        generalize hW : World.alloc (World.alloc wr _) _ = W at *
        clear hW x3 q3 p0 p1 p2 p3 c0 c1 c2 c3
        go_region_held3 (fun w' => w'.cell? ⟨wr.heap.size, 0, none⟩ = some (.int .i64 xa) ∧ w'.cell? ⟨wr.heap.size, 1, none⟩ = some (.string xn) ∧ w'.cell? ⟨wr.heap.size, 2, none⟩ = some (.string xr) ∧ w'.cell? ⟨wr.heap.size + 1, 0, none⟩ = some (.int .i64 pa) ∧ w'.cell? ⟨wr.heap.size + 1, 1, none⟩ = some (.string pn) ∧ w'.cell? ⟨wr.heap.size + 1, 2, none⟩ = some (.string pr))
          (first | exact ⟨x0, x1, x2, q0, q1, q2⟩ | ((repeat' apply And.intro) <;> (first | (go_simp; done) | with_reducible assumption)))
          ((first | (go_at_call 33; refine (cmpI_any _ _ _).mono ?_; rintro e w' ⟨rfl, rfl⟩) | (go_at_call 31; refine (cmp_any _ _ _).mono ?_; rintro e w' ⟨rfl, rfl⟩) | (go_at_call 29; refine (or_any W.heap.size [cmpI pa xa, Lib.compareBytes pn.data.toList xn.data.toList, Lib.compareBytes pr.data.toList xr.data.toList] _ (by exact heap_alloc_new W _) 3 3 rfl (by simp)).mono ?_; rintro e w' ⟨rfl, rfl⟩)))
        have hw : Below w.heap.size w (W.alloc (.cells #[.int .i64 (cmpI pa xa), .int .i64 (Lib.compareBytes pn.data.toList xn.data.toList), .int .i64 (Lib.compareBytes pr.data.toList xr.data.toList)] 3)).drew := (HBW.out.alloc HBW.out.size _).drew
        by_cases ho : 0 ≤ orOf [cmpI pa xa, Lib.compareBytes pn.data.toList xn.data.toList, Lib.compareBytes pr.data.toList xr.data.toList]
        · generalize orOf [cmpI pa xa, Lib.compareBytes pn.data.toList xn.data.toList, Lib.compareBytes pr.data.toList xr.data.toList] = o at *
          go_wp2_with fail
          go_ret
          exact ⟨7, rfl, fun h => absurd h (by decide), hw⟩
        · have HR : Hid (∀ j, j < k + 1 → PbOne xs j) := Lib.hid (fun j hj => by
            by_cases e : j = k
            · rw [e, HC.out]; exact ⟨⟨kb, kt⟩, KM.out, fun _ => cmpI_le (orOf_three ho)⟩
            · exact hrel.out j (by omega))
          clear hrel
          generalize orOf [cmpI pa xa, Lib.compareBytes pn.data.toList xn.data.toList, Lib.compareBytes pr.data.toList xr.data.toList] = o at *
          go_wp2_with fail
          go_roundw
          case rel => exact ⟨k + 1, by omega, by go_num, HR, hw⟩
          case measure => simp [intOf]; omega
    · have : k = xs.length := by omega
      subst this
      have HF := Lib.hid hrel.out
      clear hrel
      go_wp2_with fail
      go_ret
      exact ⟨0, rfl, fun _ => HF.out, hb⟩
end Go.Proofs.YtkbbmlkgaooaiaaGreatDoor

namespace Go.Proofs.YtkbbmlkgaooaiaaGreatDoor
open Go.RowKit Go.Hw Go.Shelf

theorem begins_from {l : List Tn} {t : Int} {r : ByteArray} {y : Tn} (h : y ∈ beginsP l t r) : (∃ z ∈ l, y.from_ = z.from_) ∨ y.from_ = t := by
  have hsnoc : ∀ (l1 : List Tn), (∀ y ∈ l1, ∃ z ∈ l, y.from_ = z.from_) → y ∈ l1 ++ [⟨r, t, endT⟩] → (∃ z ∈ l, y.from_ = z.from_) ∨ y.from_ = t := by
    intro l1 h1 hy
    rcases List.mem_append.1 hy with hy | hy
    · exact .inl (h1 y hy)
    · simp at hy; subst hy; exact .inr rfl
  have hself : ∀ y ∈ l, ∃ z ∈ l, y.from_ = z.from_ := fun y hy => ⟨y, hy, rfl⟩
  unfold beginsP at h
  split at h
  · split at h
    · exact .inl (hself y h)
    · exact hsnoc l hself h
  · rename_i x hx
    have hxm : x ∈ l := List.mem_of_getLast? hx
    have hdrop : ∀ y ∈ l.dropLast, ∃ z ∈ l, y.from_ = z.from_ := fun y hy => ⟨y, List.dropLast_subset l hy, rfl⟩
    split at h
    · split at h
      · exact .inl (hself y h)
      · have hl1 : ∀ y ∈ (if x.from_ = t then l.dropLast else l.dropLast ++ [{ x with to_ := t }]), ∃ z ∈ l, y.from_ = z.from_ := by
          intro y hy
          split at hy
          · exact hdrop y hy
          · rcases List.mem_append.1 hy with hy | hy
            · exact hdrop y hy
            · simp at hy; subst hy; exact ⟨x, hxm, rfl⟩
        dsimp only at h
        split at h
        · exact .inl (hl1 y h)
        · exact hsnoc _ hl1 h
    · split at h
      · exact .inl (hself y h)
      · exact hsnoc l hself h
theorem begins_len (l : List Tn) (t : Int) (r : ByteArray) : (beginsP l t r).length ≤ l.length + 1 := by
  unfold beginsP
  split
  · split <;> simp
  · rename_i y hy
    have : l ≠ [] := by rintro rfl; simp at hy
    have := List.length_pos_iff.2 this
    split
    · split
      · omega
      · dsimp only
        split <;> split <;> simp <;> omega
    · split <;> simp
/-- Probes in order. -/
theorem pb_sorted {xs : List Pb} (h : ∀ i, i < xs.length → PbOne xs i) : xs.Pairwise (fun a b => a.at_ ≤ b.at_) := by
  rw [List.pairwise_iff_getElem]
  intro i j hi hj hij
  have : ∀ d, i + d < xs.length → (xs.getD i noPb).at_ ≤ (xs.getD (i + d) noPb).at_ := by
    intro d
    induction d with
    | zero => intro _; exact Int.le_refl _
    | succ d ih =>
      intro hd
      have h1 := ih (by omega)
      have h2 := (h (i + (d + 1)) hd).2.2 (by omega)
      rw [show i + (d + 1) - 1 = i + d from by omega] at h2
      exact Int.le_trans h1 h2
  have h1 := this (j - i) (by omega)
  rw [show i + (j - i) = j from by omega, List.getD_eq_getElem?_getD, List.getD_eq_getElem?_getD, List.getElem?_eq_getElem hi, List.getElem?_eq_getElem hj] at h1
  exact h1
theorem pb_get_le {xs : List Pb} (h : xs.Pairwise (fun a b => a.at_ ≤ b.at_)) {i j : Nat} (hij : i ≤ j) (hj : j < xs.length) : (xs.getD i noPb).at_ ≤ (xs.getD j noPb).at_ := by
  rcases Nat.lt_or_eq_of_le hij with h1 | rfl
  · have h2 := List.pairwise_iff_getElem.1 h i j (by omega) hj h1
    rw [List.getD_eq_getElem?_getD, List.getD_eq_getElem?_getD, List.getElem?_eq_getElem (show i < xs.length by omega), List.getElem?_eq_getElem hj]
    exact h2
  · exact Int.le_refl _
def PbGood (x : Pb) : Prop := x.relay.size ≠ 0 ∧ (-1 ≤ x.millis ∧ x.millis ≤ 1000000)
theorem pb_good {xs : List Pb} (h : ∀ i, i < xs.length → PbOne xs i) : ∀ x ∈ xs, PbGood x := by
  intro x hx
  obtain ⟨i, hi, rfl⟩ := List.getElem_of_mem hx
  have h1 := h i hi
  have he : xs.getD i noPb = xs[i] := by rw [List.getD_eq_getElem?_getD, List.getElem?_eq_getElem hi]; rfl
  unfold PbOne at h1
  rw [he] at h1
  have h2 := h1.1.1
  unfold isKey at h2
  simp at h2
  exact ⟨by omega, h1.2.1⟩
theorem run_lenS {α : Type} {w : World} {b : Nat} {f : α → Value} {m : List (ByteArray × α)} {P : Program} {t kt et : TypeId} (h : MapIs w b f m) (ht : P.underlying t = some (.map kt et)) (ty : TypeId) : (Builtin.len_ #[t] ty #[.map (some b)]).run P w = .ok (.int .i64 (m.length : Nat)) w := by
  obtain ⟨es, clock, hb, hst, he⟩ := h
  have e1 := congrArg List.length he
  simp only [List.length_map, Array.length_toList] at e1
  rw [← e1]
  simp [Builtin.len_, run_underlying ht, MapKept.run_getObj_map hb, goInt, Result.andThen]

theorem enters_home : ∀ args w, (callFunc 68 args).run Tryz.prog w = .ok (.enter 68 args) w := enters_of Tryz.func68 (by kernel_rfl) rfl
set_option maxRecDepth 100000 in
set_option maxHeartbeats 400000 in
theorem home_clos (y : Pb) (node : ByteArray) (g : Nat) (W : World) (hg : W.heap[g]? = some (.cells #[.string node] 9 (0, 0))) :
    Calls Tryz.prog 68 #[.agg #[.int .i64 y.at_, .string y.node, .string y.relay, .int .i64 y.millis], .pointer (some ⟨g, 0, none⟩)] W
    fun en w' => en = .returned (.bool (!(y.node.toList == node.toList))) ∧ Below W.heap.size W w' := by
  obtain ⟨ya, yn, yr, ym⟩ := y
  have c0 := cell_of hg 0
  have hlt := lt_of_block hg
  simp only [List.getElem?_toArray, List.getElem?_cons_zero] at c0
  clear hg
  go_enter Tryz.func68, Tryz.ntmps68
  go_wp2_with fail
  go_ret
  exact ⟨rfl, (Below.refl W.heap.size W).alloc (Nat.le_refl _) _⟩

/-- Ahead of a moment. -/
def HmI (w2 : World) (O : List Pb) (v7 v8 v10 : Value) (wr : World) : Prop :=
  ∃ (i : Nat) (out : List Tn) (home : ByteArray) (sv : Value), sv = v7 ∧ v8 = .string home ∧ v10 = .int .i64 i ∧ i ≤ O.length ∧ Below w2.heap.size w2 wr ∧ TnsOwn wr w2.heap.size sv out ∧ out.length ≤ i ∧
    (∀ y ∈ out, ∀ q, i ≤ q → q < O.length → y.from_ < (O.getD q noPb).at_)
/-- While the answers of a moment are laid into the map. -/
def HnI (wr : World) (t : Int) (i : Nat) (O : List Pb) (v10 : Value) (wi : World) : Prop :=
  ∃ (k : Nat) (m : List (ByteArray × Int)), v10 = .int .i64 k ∧ i ≤ k ∧ k ≤ O.length ∧ (∀ q, i ≤ q → q < k → (O.getD q noPb).at_ = t) ∧ MapIs wi wr.heap.size (Value.int .i64) m ∧
    (∀ p n, get m p = some n → p.size ≠ 0 ∧ (0 ≤ n ∧ n ≤ 1000000)) ∧ Below wr.heap.size wr wi

set_option maxRecDepth 100000 in
set_option maxHeartbeats 2000000 in
theorem homes_any (A : Option Addr) (cap : Nat) (xs : List Pb) (gain : Int) (node : ByteArray) (w : World) (h : qpAt w A xs) (h0 : A = none → xs = []) (hl : xs.length ≤ 2000) (hp : ∀ i, i < xs.length → PbOne xs i) (hg : 0 ≤ gain ∧ gain ≤ 1000000) :
    Calls Tryz.prog 38 #[.slice A xs.length cap, .int .i64 gain, .string node] w fun e w' => ∃ v out, e = .returned v ∧ TnsOwn w' w.heap.size v out ∧ Below w.heap.size w w' := by
  have hbx := heap_alloc_new w (.cells #[.string node] 9)
  have hsz0 : (w.alloc (.cells #[.string node] 9)).heap.size = w.heap.size + 1 := by simp
  have hcl := qp_clone A cap xs (w.alloc (.cells #[.string node] 9)) (h.below (below_alloc w _)) h0 (by omega)
  have HB0 := Lib.hid ((Below.refl w.heap.size w).alloc (Nat.le_refl _) (.cells #[.string node] 9))
  have HBX := Lib.hid hbx
  have HS := Lib.hid (pb_sorted hp)
  have HG := Lib.hid (pb_good hp)
  have HSZ := Lib.hid hsz0
  clear h hp hbx hsz0
  have hmm := @run_makeMap Tryz.prog
  go_enter Tryz.func38, Tryz.ntmps38
  go_wp2_with fail
  refine hcl.mono ?_
  rintro e w1 ⟨v1, rfl, ho1, hb1⟩
  have hbx1 := (hb1.block w.heap.size (by simp)).trans HBX.out
  obtain ⟨A1, c1, rfl, hat1⟩ := rw_at (d := noPb) qpC_len ho1
  have hlow : ∀ k, (Value.slice A1 xs.length c1).ownBlock = some k → w.heap.size + 1 ≤ k ∧ k < w1.heap.size := fun k hk => by have := ho1.lt k hk; have e := HSZ.out; omega
  have hpred : ∀ wr, w1.grownBy wr (Value.slice A1 xs.length c1).ownBlock → qpPred 68 #[.pointer (some ⟨w.heap.size, 0, none⟩)] (fun y => !(y.node.toList == node.toList)) xs wr := by
    intro wr hgr W e _ hbW
    have hbw : W.heap[w.heap.size]? = some (.cells #[.string node] 9 (0, 0)) := by
      refine (hbW.block _ ?_).trans ((hgr.block w.heap.size (lt_of_block hbx1) (fun e => ?_)).trans hbx1)
      · have := hgr.size; have := lt_of_block hbx1; omega
      · have := hlow _ e.symm; omega
    exact home_clos e node w.heap.size W hbw
  have hdel := qp_del A1 c1 xs 68 #[.pointer (some ⟨w.heap.size, 0, none⟩)] (fun y => !(y.node.toList == node.toList)) w1 enters_home (own_base ho1 (Nat.zero_le _)) (by omega) hpred
  have HB1 := Lib.hid (HB0.out.trans (hb1.mono (by rw [HSZ.out]; omega)))
  have HLOW := Lib.hid hlow
  clear hb1 hbx1 hat1 hlow hpred hcl ho1
  go_wp2_with fail
  refine hdel.mono ?_
  rintro e w2 ⟨rfl, hg2, ho2⟩
  have HB2 := Lib.hid (HB1.out.grown hg2 HB1.out.size (fun j hj => by have := HLOW.out j hj; omega))
  clear hdel hg2
  have hOl : (xs.filter (fun e => !(!(e.node.toList == node.toList)))).length ≤ 2000 := Nat.le_trans (List.length_filter_le _ _) hl
  have hOs := HS.out.filter (fun e => !(!(e.node.toList == node.toList)))
  have hOg : ∀ x ∈ xs.filter (fun e => !(!(e.node.toList == node.toList))), PbGood x := fun x hx => HG.out x (List.mem_filter.1 hx).1
  generalize xs.filter (fun e => !(!(e.node.toList == node.toList))) = O at *
  have HOS := Lib.hid hOs
  have HOG := Lib.hid hOg
  have hat : qpAt w2 A1 O := rw_at' qpC_len ho2
  have HAT := Lib.hid hat
  clear hat
  have hI0 : HmI w2 O (.slice none 0 0) (.string ⟨#[]⟩) (.int .i64 (0 : Nat)) w2 := ⟨0, [], ⟨#[]⟩, _, rfl, rfl, rfl, by omega, Below.refl _ _, World.ownsRow_nil _ _ _ _, by simp, by simp⟩
  have HI0 := Lib.hid hI0
  clear hOs hOg ho2 HLOW HB1 HSZ HBX HB0 HS HG hI0 hl h0
  go_wp2_with fail
  go_loopw [7, 8, 10] (fun v7 v8 v10 wr => HmI w2 O v7 v8 v10 wr) (fun _ _ v10 _ => O.length - (intOf v10).toNat)
  case atStart => exact HI0.out
  case round =>
    clear HI0
    obtain ⟨i, out, home, sv, rfl, rfl, rfl, hi, hb, hO, hol, hfr⟩ := hrel
    by_cases hlt : i < O.length
    · obtain ⟨g, off, rfl, hgB, hcc⟩ := (HAT.out.below hb) i hlt
      obtain ⟨c0, -, -, -⟩ := qp_cells hcc
      have hd : decide (i < O.length) = true := by simp; omega
      have hH0 : HnI wr (O.getD i noPb).at_ i O (.int .i64 i) (wr.alloc (.map #[] 0)) := ⟨i, [], rfl, Nat.le_refl _, hi, fun q h1 h2 => by omega, MapIs.made wr _, fun p n hpn => (by rw [get_nil] at hpn; cases hpn), (Below.refl _ _).alloc (Nat.le_refl _) _⟩
      have HH0 := Lib.hid hH0
      have HB := Lib.hid hb
      have HO := Lib.hid hO
      have HFR := Lib.hid hfr
      clear hcc hb hO hfr hH0
      generalize hti : (O.getD i noPb).at_ = t at *
      have HTI := Lib.hid hti
      clear hti
      go_wp2_with fail
      clear c0
      obtain ⟨wx, rfl⟩ : ∃ wx : World, wx = wr := ⟨_, rfl⟩
      go_loopw [10] (fun v10 wi => HnI wx t i O v10 wi) (fun v10 _ => O.length - (intOf v10).toNat)
      case atStart => exact HH0.out
      case round =>
        clear HH0 hd
        obtain ⟨k, m, rfl, hik, hkO, hall, hM, hkeys, hbi⟩ := hrel
        have hbw : Below w2.heap.size w2 wr := HB.out.trans (hbi.mono HB.out.size)
        by_cases hc : k < O.length ∧ (O.getD k noPb).at_ = t
        · obtain ⟨hlt2, hat2⟩ := hc
          obtain ⟨g', off', e', hgB', hcc⟩ := (HAT.out.below hbw) k hlt2
          injection e' with e'
          injection e' with e1 e2
          subst e1 e2
          obtain ⟨c0, -, c2, c3⟩ := qp_cells hcc
          have hgd := HOG.out _ (rw_mem (d := noPb) hlt2)
          have hall' : ∀ q, i ≤ q → q < k + 1 → (O.getD q noPb).at_ = t := fun q h1 h2 => by
            by_cases e : q = k
            · rw [e]; exact hat2
            · exact hall q h1 (by omega)
          have hd : decide (k < O.length) = true := by simp; omega
          have HALL := Lib.hid hall'
          have HKEYS := Lib.hid hkeys
          have HM := Lib.hid hM
          have HBI := Lib.hid hbi
          unfold PbGood at hgd
          clear hcc hall hall' hkeys hM hbi hbw
          generalize O.getD k noPb = x at *
          obtain ⟨xa, xn, xr, xm⟩ := x
          simp only at c0 c2 c3 hat2 hgd
          have hbe : (xa == t) = true := by rw [beq_iff_eq]; exact hat2
          clear hat2
          by_cases hz : 0 ≤ xm
          · obtain ⟨w5, hput, hM5, hg5, _⟩ := run_put HM.out.drew (P := Tryz.prog) Tryz.underlying130 Tryz.underlying9 xr xm
            have hgw : g < wr.heap.size := by have := HBI.out.size; omega
            have y2 := (hg5.cell_far ⟨g, off + k * 4 + 2, none⟩ hgw (by simp; omega)).trans c2
            have y3 := (hg5.cell_far ⟨g, off + k * 4 + 3, none⟩ hgw (by simp; omega)).trans c3
            have hb5 : Below wx.heap.size wx w5 := HBI.out.drew.grown hg5 (by simpa using HBI.out.size) (fun j hj => by injection hj with hj; omega)
            have hk5 : ∀ p n, get (Hw.put m xr xm) p = some n → p.size ≠ 0 ∧ (0 ≤ n ∧ n ≤ 1000000) := fun p n hpn => by
              rw [get_put] at hpn
              split at hpn
              · rename_i e; injection hpn with hpn; subst e hpn; exact ⟨hgd.1, hz, hgd.2.2⟩
              · exact HKEYS.out p n hpn
            have HN := Lib.hid (show HnI wx t i O (.int .i64 ((k + 1 : Nat) : Int)) w5 from ⟨k + 1, _, rfl, by omega, by omega, HALL.out, hM5, hk5, hb5⟩)
            have hz1 : decide (0 ≤ xm) = true := by simpa using hz
            clear hM5 hg5 hb5 hk5 HM HKEYS HBI hgd
            go_wp2_with fail
            go_region_held3 (fun w' => w'.cell? ⟨g, off + k * 4 + 2, none⟩ = some (.string xr) ∧ w'.cell? ⟨g, off + k * 4 + 3, none⟩ = some (.int .i64 xm))
              (first | go_keep | exact ⟨c2, c3⟩ | exact ⟨y2, y3⟩) (fail)
            clear y2 y3 hput
            go_wp2_with fail
            go_roundw
            case rel => exact HN.out
            case measure => simp [intOf]; omega
          · have HN := Lib.hid (show HnI wx t i O (.int .i64 ((k + 1 : Nat) : Int)) wr from ⟨k + 1, m, rfl, by omega, by omega, HALL.out, HM.out, HKEYS.out, HBI.out⟩)
            have hz1 : decide (0 ≤ xm) = false := by simpa using hz
            clear HM HKEYS HBI hgd
            go_wp2_with fail
            go_roundw
            case rel => exact HN.out
            case measure => simp [intOf]; omega
        · have HM := Lib.hid hM
          have HKEYS := Lib.hid hkeys
          have HBI := Lib.hid hbi
          have HALL := Lib.hid hall
          have hkn : i < k := by
            rcases Nat.lt_or_eq_of_le hik with h1 | rfl
            · exact h1
            · exact absurd ⟨hlt, HTI.out⟩ hc
          have hlater : ∀ q, k ≤ q → q < O.length → t < (O.getD q noPb).at_ := fun q h1 h2 => by
            have hkl : k < O.length := by omega
            have h3 := pb_get_le HOS.out (show i ≤ k by omega) hkl
            have h4 := pb_get_le HOS.out h1 h2
            rw [HTI.out] at h3
            have h5 : (O.getD k noPb).at_ ≠ t := fun e => hc ⟨hkl, e⟩
            omega
          have HLATER := Lib.hid hlater
          clear hM hkeys hbi hall hlater
          have hlen := fun ty => run_lenS HM.out (P := Tryz.prog) Tryz.underlying130 ty
          by_cases hm0 : m.length = 0
          · have hm1 : ((m.length : Int) == 0) = true := by rw [beq_iff_eq]; omega
            rcases (show k = O.length ∨ (k < O.length ∧ (O.getD k noPb).at_ ≠ t) from by
              by_cases h1 : k < O.length
              · exact .inr ⟨h1, fun e => hc ⟨h1, e⟩⟩
              · exact .inl (by omega)) with hend | ⟨hlt2, hne⟩
            case' inl =>
              have hd : decide (k < O.length) = false := by simp; omega
              clear hc hbw hend
              go_wp2_with fail
            case' inr =>
              obtain ⟨g', off', e', hgB', hcc⟩ := (HAT.out.below hbw) k hlt2
              injection e' with e'
              injection e' with e1 e2
              subst e1 e2
              obtain ⟨c0, -, -, -⟩ := qp_cells hcc
              have hd : decide (k < O.length) = true := by simp; omega
              have hbe : ((O.getD k noPb).at_ == t) = false := by rw [beq_eq_false_iff_ne]; exact hne
              clear hc hbw hcc hne
              generalize (O.getD k noPb).at_ = xa at c0 hbe
              go_wp2_with fail
              clear c0
            all_goals
              have HN := Lib.hid (show HmI w2 O sv (.string home) (.int .i64 (k : Nat)) wr from ⟨k, out, home, sv, rfl, rfl, rfl, hkO, HB.out.trans (HBI.out.mono HB.out.size), own_below HO.out HBI.out (Nat.le_refl _), by omega, fun y hy q h1 h2 => HFR.out y hy q (by omega) h2⟩)
              clear hm0
              go_wp2_with fail
              go_roundw
              case rel => exact HN.out
              case measure => simp [intOf]; omega
          · have hm1 : ((m.length : Int) == 0) = false := by rw [beq_eq_false_iff_ne]; omega
            rcases (show k = O.length ∨ (k < O.length ∧ (O.getD k noPb).at_ ≠ t) from by
              by_cases h1 : k < O.length
              · exact .inr ⟨h1, fun e => hc ⟨h1, e⟩⟩
              · exact .inl (by omega)) with hend | ⟨hlt2, hne⟩
            case' inl =>
              have hd : decide (k < O.length) = false := by simp; omega
              clear hc hbw hend
              go_wp2_with fail
            case' inr =>
              obtain ⟨g', off', e', hgB', hcc⟩ := (HAT.out.below hbw) k hlt2
              injection e' with e'
              injection e' with e1 e2
              subst e1 e2
              obtain ⟨c0, -, -, -⟩ := qp_cells hcc
              have hd : decide (k < O.length) = true := by simp; omega
              have hbe : ((O.getD k noPb).at_ == t) = false := by rw [beq_eq_false_iff_ne]; exact hne
              clear hc hbw hcc hne
              generalize (O.getD k noPb).at_ = xa at c0 hbe
              go_wp2_with fail
              clear c0
            all_goals
              have hkk : ∀ p ∈ m, p.1.size ≠ 0 ∧ (0 ≤ p.2 ∧ p.2 ≤ 1000000) := fun p hp => HKEYS.out p.1 p.2 (get_of_mem HM.out.keys hp)
              have hch := choose_any wx.heap.size m home gain wr HM.out hkk hg
              clear hm0 hkk
              go_wp2_with fail
              refine hch.mono ?_
              rintro e w7 ⟨r, rfl, -, hb7⟩
              have HB7 := Lib.hid (HBI.out.trans (hb7.mono HBI.out.size))
              have hO7 := own_below HO.out HB7.out (Nat.le_refl _)
              have hbg := begins_any w2.heap.size sv out t r w7 hO7 (by omega) (fun y hy => by have := HFR.out y hy i (Nat.le_refl _) hlt; rw [HTI.out] at this; exact this) (by have := HB.out.size; have := HB7.out.size; omega)
              have hlenb := begins_len out t r
              clear hch hb7 hO7
              go_wp2_with fail
              refine hbg.mono ?_
              rintro e w8 ⟨v8, rfl, hO8, hb8⟩
              have HN := Lib.hid (show HmI w2 O v8 (.string r) (.int .i64 (k : Nat)) w8 from ⟨k, _, r, v8, rfl, rfl, rfl, hkO, (HB.out.trans (HB7.out.mono HB.out.size)).trans (hb8), hO8, by omega, fun y hy q h1 h2 => by
                rcases begins_from hy with ⟨z, hz, e⟩ | e
                · rw [e]; exact HFR.out z hz q (by omega) h2
                · rw [e]; exact HLATER.out q h1 h2⟩)
              clear hbg hO8 hb8
              go_wp2_with fail
              go_roundw
              case rel => exact HN.out
              case measure => simp [intOf]; omega
    · have : i = O.length := by omega
      subst this
      have hd : decide (O.length < O.length) = false := by simp
      have HFIN := Lib.hid (show TnsOwn wr w.heap.size sv out ∧ Below w.heap.size w wr from ⟨own_base hO HB2.out.size, HB2.out.trans (hb.mono HB2.out.size)⟩)
      clear hb hO hfr
      go_wp2_with fail
      go_ret
      exact ⟨_, _, rfl, HFIN.out.1, HFIN.out.2⟩
end Go.Proofs.YtkbbmlkgaooaiaaGreatDoor

namespace Go.Proofs.YtkbbmlkgaooaiaaGreatDoor
open Go.RowKit Go.Hw Go.Shelf

theorem gainFault_any (gain : Int) (w : World) (h : 0 ≤ gain ∧ gain ≤ 1000000) : Calls Tryz.prog 65 #[.int .i64 gain] w fun e w' => e = .returned (.int .i64 0) ∧ w = w' := by
  have hin : (decide (gain < (0 : Int)) || decide (1000000 < gain)) = false := by simp; omega
  go_enter Tryz.func65, Tryz.ntmps65
  go_wp2_with fail
  refine (outside_any _ _ _ _).mono ?_
  rintro e w3 ⟨rfl, rfl⟩
  rw [hin]
  go_wp2_with fail
  go_ret
  exact ⟨rfl, rfl⟩

set_option maxRecDepth 100000 in
set_option maxHeartbeats 1000000 in
theorem homeFault_any (A : Option Addr) (cap : Nat) (xs : List Pb) (gain : Int) (node : ByteArray) (w : World) (h : qpAt w A xs) (hl : xs.length ≤ 2000) (ht : ∀ i, PbT (xs.getD i noPb)) (hg : 0 ≤ gain ∧ gain ≤ 1000000) (hk : isKey node = true) (hs : node.size ≤ maxLen) :
    Calls Tryz.prog 37 #[.slice A xs.length cap, .int .i64 gain, .string node] w fun e w' => ∃ c : Int, e = .returned (.int .i64 c) ∧ (c = 0 → ∀ i, i < xs.length → PbOne xs i) ∧ Below w.heap.size w w' := by
  have hc := checkProbes_any A cap xs w h hl ht
  clear h ht
  go_enter Tryz.func37, Tryz.ntmps37
  go_wp2_with fail
  refine hc.mono ?_
  rintro e w1 ⟨c, rfl, hone, hb1⟩
  have HONE := Lib.hid hone
  have HB := Lib.hid hb1
  clear hc hone hb1
  by_cases hz : c = 0
  · have hz1 : (c != 0) = false := by simp [hz]
    have HO := Lib.hid (HONE.out hz)
    clear hz HONE
    go_wp2_with fail
    refine (gainFault_any gain w1 hg).mono ?_
    rintro e w2 ⟨rfl, rfl⟩
    go_wp2_with fail
    refine (isKey_any node _ hs).mono ?_
    rintro e w2 ⟨rfl, rfl⟩
    rw [hk]
    go_wp2_with fail
    go_ret
    exact ⟨0, rfl, fun _ => HO.out, HB.out⟩
  · have hz1 : (c != 0) = true := by simpa using hz
    have HZ := Lib.hid hz
    clear hz HONE
    go_wp2_with fail
    go_ret
    exact ⟨c, rfl, fun h => absurd h HZ.out, HB.out⟩

set_option maxRecDepth 100000 in
set_option maxHeartbeats 1000000 in
theorem Homes_any (A : Option Addr) (cap : Nat) (xs : List Pb) (gain : Int) (node : ByteArray) (w : World) (h : qpAt w A xs) (hl : xs.length ≤ 2000) (ht : ∀ i, PbT (xs.getD i noPb)) (hg : 0 ≤ gain ∧ gain ≤ 1000000) (hk : isKey node = true) (hs : node.size ≤ maxLen) :
    Calls Tryz.prog 12 #[.slice A xs.length cap, .int .i64 gain, .string node] w fun e w' => ∃ (v : Value) (c : Int), e = .returned (.tuple #[v, .int .i64 c]) ∧ Below w.heap.size w w' := by
  have hc := homeFault_any A cap xs gain node w h hl ht hg hk hs
  have H := Lib.hid h
  have h0 : A = none → xs = [] := fun e => by
    rcases Nat.eq_zero_or_pos xs.length with h1 | h1
    · exact List.length_eq_zero_iff.1 h1
    · obtain ⟨g, off, e2, _⟩ := h 0 h1
      rw [e] at e2; cases e2
  have H0 := Lib.hid h0
  clear h ht hk hs h0
  go_enter Tryz.func12, Tryz.ntmps12
  go_wp2_with fail
  refine hc.mono ?_
  rintro e w1 ⟨c, rfl, hone, hb1⟩
  have HONE := Lib.hid hone
  have HB := Lib.hid hb1
  clear hc hone hb1
  by_cases hz : c = 0
  · have hz1 : (c != 0) = false := by simp [hz]
    have hh := homes_any A cap xs gain node w1 (H.out.below HB.out) H0.out hl (HONE.out hz) hg
    clear hz HONE
    go_wp2_with fail
    refine hh.mono ?_
    rintro e w2 ⟨v, out, rfl, hO, hb2⟩
    have HB2 := Lib.hid (HB.out.trans (hb2.mono HB.out.size))
    clear hh hb2 hO
    go_wp2_with fail
    go_ret2
    exact ⟨v, 0, rfl, HB2.out⟩
  · have hz1 : (c != 0) = true := by simpa using hz
    clear hz HONE
    go_wp2_with fail
    go_ret2
    exact ⟨_, c, rfl, HB.out⟩
end Go.Proofs.YtkbbmlkgaooaiaaGreatDoor
