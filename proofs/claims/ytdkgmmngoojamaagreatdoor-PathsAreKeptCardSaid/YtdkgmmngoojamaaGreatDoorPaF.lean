/- route.begins. -/
import Derived.Test.YtdkgmmngoojamaaGreatDoorPaE
import Derived.Test.YtdkgmmngoojamaaGreatDoorPaB
namespace Go.Proofs.YtdkgmmngoojamaaGreatDoor
open Go.RowKit Go.Hw Go.Shelf

def tnCells (x : Tn) : List Value := [.string x.who, .int .i64 x.from_, .int .i64 x.to_]
def tnsCells (xs : List Tn) : List Value := xs.flatMap tnCells
theorem tns_snoc (xs : List Tn) (x : Tn) : tnsCells (xs ++ [x]) = tnsCells xs ++ tnCells x := by simp [tnsCells]
theorem tns_length (xs : List Tn) : (tnsCells xs).length = xs.length * 3 := by
  induction xs with
  | nil => rfl
  | cons x xs ih => simp only [tnsCells, List.flatMap_cons, List.length_append, List.length_cons] at ih ⊢; rw [ih]; simp [tnCells]; omega
theorem Tryz.infoTurn : (Tryz.prog.info? 51).map (fun i => (i.zero, i.size, i.bytes)) = some (some (.agg #[.string ⟨#[]⟩, .int .i64 0, .int .i64 0]), 3, 32) := by kernel_rfl
/-- Turns that the call owns. -/
def TnsOwn (w : World) (base : Nat) (v : Value) (l : List Tn) : Prop := w.ownsRow base 51 3 v l.length (tnsCells l)
/-- The last one in memory. -/
theorem TnsOwn.last {w : World} {base : Nat} {v : Value} {l0 : List Tn} {y : Tn} (h : TnsOwn w base v (l0 ++ [y])) :
    ∃ g cap, v = .slice (some ⟨g, 0, none⟩) (l0.length + 1) cap ∧ base ≤ g ∧ g < w.heap.size ∧ l0.length + 1 ≤ cap ∧ w.cell? ⟨g, l0.length * 3, none⟩ = some (.string y.who) ∧ w.cell? ⟨g, l0.length * 3 + 1, none⟩ = some (.int .i64 y.from_) ∧
      w.cell? ⟨g, l0.length * 3 + 2, none⟩ = some (.int .i64 y.to_) ∧ w.frozen? ⟨g, l0.length * 3 + 2, none⟩ = false := by
  have h' := h
  obtain ⟨_, h1⟩ := h
  rcases h1 with ⟨_, h1⟩ | ⟨g, cap, cur, h3, h4, h5, h6, h7, h8, h9⟩
  · simp at h1
  · have hc : ∀ j u, (tnsCells (l0 ++ [y]))[j]? = some u → w.cell? ⟨g, j, none⟩ = some u := by
      intro j u hu
      have := World.ownsRow.cells (g := g) h' (by rw [h3]; rfl) j u hu
      have hadd : (⟨g, 0, none⟩ : Addr).add j = ⟨g, j, none⟩ := by unfold Addr.add; split <;> simp_all
      rwa [hadd] at this
    have hl : ∀ i u, (tnCells y)[i]? = some u → (tnsCells (l0 ++ [y]))[l0.length * 3 + i]? = some u := by
      intro i u hu
      rw [tns_snoc, List.getElem?_append_right (by rw [tns_length]; omega), tns_length]
      rw [show l0.length * 3 + i - l0.length * 3 = i from by omega]
      exact hu
    exact ⟨g, cap, by simpa using h3, h4, (Array.getElem?_eq_some_iff.1 h5).1, by simpa using h6, hc _ _ (hl 0 _ rfl), hc _ _ (hl 1 _ rfl), hc _ _ (hl 2 _ rfl), by simp [World.frozen?, h5]⟩
/-- The last one is closed. -/
theorem TnsOwn.close {w : World} {base g cap : Nat} {l0 : List Tn} {y : Tn} (h : TnsOwn w base (.slice (some ⟨g, 0, none⟩) (l0.length + 1) cap) (l0 ++ [y])) (t : Int) :
    TnsOwn (w.setCell ⟨g, l0.length * 3 + 2, none⟩ (.int .i64 t)) base (.slice (some ⟨g, 0, none⟩) (l0.length + 1) cap) (l0 ++ [{ y with to_ := t }]) ∧ w.grownBy (w.setCell ⟨g, l0.length * 3 + 2, none⟩ (.int .i64 t)) (some g) := by
  have h0 : w.ownsRow base 51 3 (.slice (some ⟨g, 0, none⟩) (l0.length + 1) cap) (l0.length + 1) (tnsCells (l0 ++ [y])) := by
    unfold TnsOwn at h
    simpa using h
  unfold TnsOwn
  have h1 := World.ownsRow.stored h0 (l0.length * 3 + 2) (.int .i64 t)
  refine ⟨?_, ⟨rfl, rfl, rfl, by simp [World.setCell], fun i _ hi => Below.heap_setCell w _ _ i (fun e => hi (by rw [e]))⟩⟩
  have h2 := h1.1
  rw [tns_snoc] at h2 ⊢
  rw [List.set_append, if_neg (by rw [tns_length]; omega), tns_length, show l0.length * 3 + 2 - l0.length * 3 = 2 from by omega] at h2
  simpa [tnCells] using h2
theorem TnsOwn.keep {w w' : World} {base : Nat} {v : Value} {l : List Tn} {row : Option Nat} (h : TnsOwn w base v l) (hg : w.grownBy w' row) (hr : ∀ k, row = some k → k < base) : TnsOwn w' base v l := by
  refine World.ownsRow.kept h hg ?_
  cases hv : v.ownBlock with
  | none => exact .inl rfl
  | some j => exact .inr (fun e => by have := (World.ownsRow.lt h j hv).1; have := hr j e.symm; omega)

theorem bytes_ext {a b : ByteArray} (h : a.toList = b.toList) : a = b := by
  rw [ByteArray.toList_eq, ByteArray.toList_eq] at h
  cases a with | mk a => cases b with | mk b =>
  simp only [ByteArray.mk.injEq]
  exact Array.toList_inj.1 h
theorem own_cast {w : World} {base : Nat} {e : TypeId} {size : Nat} {v : Value} {n m : Nat} {xs ys : List Value} (h : w.ownsRow base e size v n xs) (hn : n = m) (hx : xs = ys) : w.ownsRow base e size v m ys := by
  subst hn hx
  exact h
/-- What begins does: all that lies below base stays. -/
def BegOut (w : World) (base : Nat) (l : List Tn) (w' : World) (e : Ending) : Prop := ∃ v', e = .returned v' ∧ TnsOwn w' base v' l ∧ Below base w w'

set_option maxRecDepth 100000 in
set_option maxHeartbeats 1000000 in
theorem begins_any (base : Nat) (v : Value) (l : List Tn) (t : Int) (r : ByteArray) (w : World) (h : TnsOwn w base v l) (hl : l.length ≤ 100000) (hf : ∀ y ∈ l, y.from_ < t) (hbase : base ≤ w.heap.size) :
    Calls Tryz.prog 81 #[v, .int .i64 t, .string r] w fun e w' => BegOut w base (beginsP l t r) w' e := by
  obtain ⟨i0, hi, hz0, hz1, hz2⟩ := info_parts Tryz.infoTurn
  rcases List.eq_nil_or_concat l with rfl | ⟨l0, y, hly⟩
  · have hv : v = .slice none 0 0 ∨ ∃ g cap, v = .slice (some ⟨g, 0, none⟩) 0 cap := by
      rcases h.2 with ⟨h1, _⟩ | ⟨g, cap, cur, h1, _⟩
      · exact .inl h1
      · exact .inr ⟨g, cap, by simpa using h1⟩
    have hnl : ∃ p cap, v = .slice p 0 cap := by
      rcases hv with h1 | ⟨g, cap, h1⟩
      · exact ⟨_, _, h1⟩
      · exact ⟨_, _, h1⟩
    obtain ⟨p, cap, rfl⟩ := hnl
    clear hv hf
    have H := Lib.hid h
    clear h
    by_cases hr : r.size = 0
    · have hre : r = ⟨#[]⟩ := size0 hr rfl
      subst hre
      have HR : Hid (beginsP [] t ⟨#[]⟩ = []) := Lib.hid rfl
      clear hr
      go_enter Tryz.func81, Tryz.ntmps81
      go_wp2_with fail
      go_ret
      exact ⟨_, rfl, by rw [HR.out]; exact H.out, Below.refl _ _⟩
    · obtain ⟨r1, r2⟩ := str_ne hr
      have HR : Hid (beginsP [] t r = [] ++ [⟨r, t, endT⟩]) := Lib.hid (by unfold beginsP; simp [hr])
      clear hr
      go_enter Tryz.func81, Tryz.ntmps81
      go_wp2_with (at_builtin; refine wpList_append_own _ rfl (.tmp 47) (.tmp 51) 45 rfl base 51 i0 (.agg #[.string ⟨#[]⟩, .int .i64 0, .int .i64 0]) 3 32 Tryz.underlying45 hi hz0 hz1 hz2 rfl (by decide) _ _ _ rfl (World.ownsRow.alloc H.out _) ⟨w.heap.size, 0, none⟩ 1 1 [.string r, .int .i64 t, .int .i64 345686400] rfl rfl ?c1 ?c2 ?c3 ?c4 ?c5 ?_)
      case c1 => exact cells_new w [.string r, .int .i64 t, .int .i64 345686400] _
      case c2 => simp [Value.oneCell']
      case c3 => simp [maxLen]
      case c4 => simp
      case c5 => simp; omega
      intro v' w3 ho3 hg4 _
      have hown : TnsOwn w3 base v' ([] ++ [⟨r, t, endT⟩]) := ho3
      have hb : Below base w w3 := ((Below.refl _ _).alloc hbase _).grown hg4 (by simp; omega) (fun j hj => (World.ownsRow.lt H.out j hj).1)
      clear ho3 hg4
      go_wp2_with fail
      go_ret
      exact ⟨_, rfl, by rw [HR.out]; exact hown, hb⟩
  · rw [List.concat_eq_append] at hly
    subst hly
    obtain ⟨g, cap, rfl, hgb, hgl, hcap, c0, c1, c2, fz⟩ := h.last
    have hfy := hf y (by simp)
    have hl0 : l0.length < 100000 := by simp at hl; omega
    have H := Lib.hid h
    have s0 : IntKind.i64.wrap (((l0.length + 1 : Nat) : Int) - 1) = (l0.length : Int) := by rw [IntWalk.i64_in _ (by omega)]; omega
    have s1 : ((l0.length + 1 : Nat) : Int) - 1 = (l0.length : Int) := by omega
    clear h hf hl
    obtain ⟨yw, yf, yt⟩ := y
    simp only at c0 c1 c2 hfy
    by_cases hto : yt = 345686400
    · subst hto
      by_cases hw : yw = r
      · subst hw
        have HR : Hid (beginsP (l0 ++ [⟨yw, yf, 345686400⟩]) t yw = l0 ++ [⟨yw, yf, 345686400⟩]) := Lib.hid (by unfold beginsP; simp [endT])
        have e1 : (yw.toList == yw.toList) = true := by simp
        go_enter Tryz.func81, Tryz.ntmps81
        go_wp2_with fail
        go_ret
        exact ⟨_, rfl, by rw [HR.out]; exact H.out, Below.refl _ _⟩
      · have hwe : (yw.toList == r.toList) = false := by
          rw [beq_eq_false_iff_ne]
          intro e
          exact hw (bytes_ext e)
        have hft : (yf == t) = false := by rw [beq_eq_false_iff_ne]; omega
        obtain ⟨ho1, hg1⟩ := H.out.close t
        have HO1 := Lib.hid ho1
        have HG1 := Lib.hid hg1
        clear ho1 hg1
        by_cases hr : r.size = 0
        · have hre : r = ⟨#[]⟩ := size0 hr rfl
          subst hre
          have HR : Hid (beginsP (l0 ++ [⟨yw, yf, 345686400⟩]) t ⟨#[]⟩ = l0 ++ [⟨yw, yf, t⟩]) := Lib.hid (by unfold beginsP; simp [endT, hw, show yf ≠ t from by omega]; rfl)
          obtain ⟨y1, y2⟩ := str_ne (s := yw) (fun e => hw (size0 e rfl))
          clear hr hw
          go_enter Tryz.func81, Tryz.ntmps81
          go_wp2_with fail
          go_ret
          exact ⟨_, rfl, by rw [HR.out]; simpa [TnsOwn] using HO1.out, (Below.refl _ _).grown HG1.out hbase (fun j hj => by injection hj with hj; omega)⟩
        · obtain ⟨r1, r2⟩ := str_ne hr
          have HR : Hid (beginsP (l0 ++ [⟨yw, yf, 345686400⟩]) t r = (l0 ++ [⟨yw, yf, t⟩]) ++ [⟨r, t, endT⟩]) := Lib.hid (by unfold beginsP; simp [endT, hw, show yf ≠ t from by omega, hr])
          clear hr hw
          go_enter Tryz.func81, Tryz.ntmps81
          go_wp2_with (at_builtin; refine wpList_append_own _ rfl (.tmp 47) (.tmp 51) 45 rfl base 51 i0 (.agg #[.string ⟨#[]⟩, .int .i64 0, .int .i64 0]) 3 32 Tryz.underlying45 hi hz0 hz1 hz2 rfl (by decide) _ _ _ rfl (World.ownsRow.alloc HO1.out _) ⟨w.heap.size, 0, none⟩ 1 1 [.string r, .int .i64 t, .int .i64 345686400] rfl rfl ?d1 ?d2 ?d3 ?d4 ?d5 ?_)
          case d2 => simp [Value.oneCell']
          case d3 => unfold maxLen; omega
          case d4 => omega
          case d5 => omega
          intro v' w3 ho3 hg4 _
          have hown : TnsOwn w3 base v' ((l0 ++ [⟨yw, yf, t⟩]) ++ [⟨r, t, endT⟩]) := by
            unfold TnsOwn
            rw [tns_snoc]
            exact own_cast ho3 (by simp) rfl
          have hb : Below base w w3 := (((Below.refl _ _).grown HG1.out hbase (fun j hj => by injection hj with hj; omega)).alloc (by simp; omega) _).grown hg4 (by simp; omega) (fun j hj => (World.ownsRow.lt HO1.out j hj).1)
          clear ho3 hg4
          go_wp2_with fail
          go_ret
          exact ⟨_, rfl, by rw [HR.out]; exact hown, hb⟩
    · have hte : (yt == 345686400) = false := by rw [beq_eq_false_iff_ne]; omega
      by_cases hr : r.size = 0
      · have hre : r = ⟨#[]⟩ := size0 hr rfl
        subst hre
        have HR : Hid (beginsP (l0 ++ [⟨yw, yf, yt⟩]) t ⟨#[]⟩ = l0 ++ [⟨yw, yf, yt⟩]) := Lib.hid (by unfold beginsP; simp [endT, hto]; rfl)
        clear hr hto
        go_enter Tryz.func81, Tryz.ntmps81
        go_wp2_with fail
        go_ret
        exact ⟨_, rfl, by rw [HR.out]; simpa [TnsOwn] using H.out, Below.refl _ _⟩
      · obtain ⟨r1, r2⟩ := str_ne hr
        have HR : Hid (beginsP (l0 ++ [⟨yw, yf, yt⟩]) t r = (l0 ++ [⟨yw, yf, yt⟩]) ++ [⟨r, t, endT⟩]) := Lib.hid (by unfold beginsP; simp [endT, hto, hr])
        clear hr hto
        go_enter Tryz.func81, Tryz.ntmps81
        go_wp2_with (at_builtin; refine wpList_append_own _ rfl (.tmp 47) (.tmp 51) 45 rfl base 51 i0 (.agg #[.string ⟨#[]⟩, .int .i64 0, .int .i64 0]) 3 32 Tryz.underlying45 hi hz0 hz1 hz2 rfl (by decide) _ _ _ rfl (World.ownsRow.alloc H.out _) ⟨w.heap.size, 0, none⟩ 1 1 [.string r, .int .i64 t, .int .i64 345686400] rfl rfl ?e1 ?e2 ?e3 ?e4 ?e5 ?_)
        case e1 => exact cells_new w [.string r, .int .i64 t, .int .i64 345686400] _
        case e2 => simp [Value.oneCell']
        case e3 => unfold maxLen; simp only [List.length_append, List.length_cons, List.length_nil]; omega
        case e4 => simp only [List.length_append, List.length_cons, List.length_nil]; omega
        case e5 => simp; omega
        intro v' w3 ho3 hg4 _
        have hown : TnsOwn w3 base v' ((l0 ++ [⟨yw, yf, yt⟩]) ++ [⟨r, t, endT⟩]) := by
          unfold TnsOwn
          rw [tns_snoc]
          exact own_cast ho3 (by simp) rfl
        have hb : Below base w w3 := ((Below.refl _ _).alloc hbase _).grown hg4 (by simp; omega) (fun j hj => (World.ownsRow.lt H.out j hj).1)
        clear ho3 hg4
        go_wp2_with fail
        go_ret
        exact ⟨_, rfl, by rw [HR.out]; exact hown, hb⟩
end Go.Proofs.YtdkgmmngoojamaaGreatDoor
