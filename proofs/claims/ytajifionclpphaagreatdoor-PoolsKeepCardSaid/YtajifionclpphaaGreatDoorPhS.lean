/- laneref2: the closure of joined, joined. laneref2: spansOf. laneref2: == of wide numbers; addr of an address; steps of prefixes. laneref2: prefixes. laneref2.LeastOf; Stream.Prefixes, Stream.RightSet. Sets in a law: what an operation hands back where it is small; the closure of SetsHold. Sets of numbers that blocks make, how many blocks a set has, and what a value that is a set is. No step of the program is in it. -/
import Derived.Test.YtajifionclpphaaGreatDoorSwD
import Derived.Test.YtajifionclpphaaGreatDoorSvL
import Derived.Test.YtajifionclpphaaGreatDoorAdS
namespace Go.Proofs.YtajifionclpphaaGreatDoor
open Go.RowKit Go.Hw
section
variable {α : Type}
theorem insR_sorted {lt : α → α → Bool} (has : ∀ x y, lt x y = true → lt y x = false) (htr : ∀ x y z, lt x y = false → lt y z = false → lt x z = false) (x : α) : ∀ L : List α, L.Pairwise (fun a b => lt a b = false) → (insR lt x L).Pairwise (fun a b => lt a b = false)
 | [], _ => by simp [insR]
 | y :: ys, h => by
  obtain ⟨h1, h2⟩ := List.pairwise_cons.1 h
  unfold insR
  cases hq : lt x y
  ·rw [if_neg (by simp)]
   exact List.pairwise_cons.2 ⟨fun z hz => (List.mem_cons.1 hz).elim (fun e => e ▸ hq) (fun hz => htr _ _ _ hq (h1 z hz)), h⟩
  ·rw [if_pos rfl]
   exact List.pairwise_cons.2 ⟨fun z hz => (insR_mem.1 hz).elim (fun e => e ▸ has _ _ hq) (fun hz => h1 z hz), insR_sorted has htr x ys h2⟩
theorem isortL_sorted {lt : α → α → Bool} (has : ∀ x y, lt x y = true → lt y x = false) (htr : ∀ x y z, lt x y = false → lt y z = false → lt x z = false) (L : List α) : (isortL lt L).Pairwise (fun a b => lt b a = false) := by
 unfold isortL
 rw [List.pairwise_reverse]
 unfold isortR
 have : ∀ (M acc : List α), acc.Pairwise (fun a b => lt a b = false) → (M.foldl (fun acc x => insR lt x acc) acc).Pairwise (fun a b => lt a b = false) := by
  intro M
  induction M with
  | nil => exact fun _ h => h
  | cons x M ih => exact fun acc h => ih _ (insR_sorted has htr x acc h)
 exact this L [] (by simp)
end
theorem RwCells.drop {w : World} {g o : Nat} {vs : List Value} (h : RwCells w g o vs) (n : Nat) : RwCells w g (o + n) (vs.drop n) := fun j u hu => by
 rw [List.getElem?_drop] at hu
 have := h (n + j) u hu
 rwa [← Nat.add_assoc] at this
/-- The row so far. -/
structure SjI (W1 : World) (M : List Rg) (k : Nat) (v : Value) (wr : World) : Prop where
 below : Below W1.heap.size W1 wr
 row : ∃ O : List Rg, spOwn wr W1.heap.size v O ∧ O.length ≤ k ∧ (∀ r ∈ O, okR r) ∧ O.map rgS = ((M.take k).map rgS).foldl stepJ []
theorem SjI.step {W1 wr : World} {M : List Rg} {k : Nat} {v : Value} {O O2 : List Rg} (hk : k < M.length) (hb : Below W1.heap.size W1 wr) (ho : spOwn wr W1.heap.size v O2) (hl : O2.length ≤ k + 1) (hok : ∀ r ∈ O2, okR r) (hm : O.map rgS = ((M.take k).map rgS).foldl stepJ []) (hs : O2.map rgS = stepJ (O.map rgS) (rgS (M.getD k noRg))) : SjI W1 M (k + 1) v wr := by
 refine ⟨hb, O2, ho, hl, hok, ?_⟩
 rw [hs, hm, List.take_succ_eq_append_getElem hk, List.map_append, List.foldl_append, List.getD_eq_getElem?_getD, List.getElem?_eq_getElem hk]
 rfl
end Go.Proofs.YtajifionclpphaaGreatDoor
namespace Go.Proofs.YtajifionclpphaaGreatDoor
open Go.RowKit Go.Hw
end Go.Proofs.YtajifionclpphaaGreatDoor

namespace Go.Proofs.YtajifionclpphaaGreatDoor
open Go.RowKit Go.Hw
/-- Are the digits the same? -/
def eqN (d e : Nat → Int) : Bool := (d 0 == e 0) && ((d 1 == e 1) && ((d 2 == e 2) && ((d 3 == e 3) && ((d 4 == e 4) && ((d 5 == e 5) && ((d 6 == e 6) && ((d 7 == e 7) && (d 8 == e 8))))))))
theorem run_eq_wide (d e : Nat → Int) (w : World) : (Op.equalIn 10000 169 (.agg #[.int .i64 (d 0), .int .i64 (d 1), .int .i64 (d 2), .int .i64 (d 3), .int .i64 (d 4), .int .i64 (d 5), .int .i64 (d 6), .int .i64 (d 7), .int .i64 (d 8)]) (.agg #[.int .i64 (e 0), .int .i64 (e 1), .int .i64 (e 2), .int .i64 (e 3), .int .i64 (e 4), .int .i64 (e 5), .int .i64 (e 6), .int .i64 (e 7), .int .i64 (e 8)])).run Tryz.prog w = .ok (eqN d e) w := by
 have u3 := Tryz.underlying3
 have hu : Tryz.prog.underlying 169 = some (.array 9 3) := by kernel_rfl
 obtain ⟨i0, hi, hz0, hz1, hz2⟩ := info_parts Tryz.infoIntW
 have hc : Tryz.prog.cellsOf 3 = 1 := by kernel_rfl
 rw [show (10000 : Nat) = 9999 + 1 from rfl, run_equalIn_array w 9999 _ _ hu hi, hc, show List.range 9 = [0, 1, 2, 3, 4, 5, 6, 7, 8] from rfl, show (9999 : Nat) = 9998 + 1 from rfl]
 have he : Tryz.prog.plainKey 3 = true := by kernel_rfl
 have step : ∀ (xs ys : Array Value) (j : Nat) (js : List Nat) (x y : Int), xs[j]? = some (.int .i64 x) → ys[j]? = some (.int .i64 y) → (Op.eqItems (9998 + 1) 3 1 xs ys (j :: js)).run Tryz.prog w = if (x == y) = true then (Op.eqItems (9998 + 1) 3 1 xs ys js).run Tryz.prog w else .ok false w := by
  intro xs ys j js x y hx hy
  have h1 := run_part_plain w he (off := j * 1) (by rw [Nat.mul_one]; exact hx)
  have h2 := run_part_plain w he (off := j * 1) (by rw [Nat.mul_one]; exact hy)
  have h3 := run_equalIn_int w 9998 3 .i64 .i64 x y u3
  simp only [Op.eqItems, Sem.run_bind, h1, h2, h3, Result.andThen_ok]
  cases x == y <;> simp
 rw [step _ _ 0 _ (d 0) (e 0) rfl rfl, step _ _ 1 _ (d 1) (e 1) rfl rfl, step _ _ 2 _ (d 2) (e 2) rfl rfl, step _ _ 3 _ (d 3) (e 3) rfl rfl, step _ _ 4 _ (d 4) (e 4) rfl rfl, step _ _ 5 _ (d 5) (e 5) rfl rfl, step _ _ 6 _ (d 6) (e 6) rfl rfl, step _ _ 7 _ (d 7) (e 7) rfl rfl, step _ _ 8 _ (d 8) (e 8) rfl rfl]
 unfold eqN
 generalize (d 0 == e 0) = c0
 generalize (d 1 == e 1) = c1
 generalize (d 2 == e 2) = c2
 generalize (d 3 == e 3) = c3
 generalize (d 4 == e 4) = c4
 generalize (d 5 == e 5) = c5
 generalize (d 6 == e 6) = c6
 generalize (d 7 == e 7) = c7
 generalize (d 8 == e 8) = c8
 cases c0
 ·simp
 cases c1
 ·simp
 cases c2
 ·simp
 cases c3
 ·simp
 cases c4
 ·simp
 cases c5
 ·simp
 cases c6
 ·simp
 cases c7
 ·simp
 cases c8 <;> simp [Op.eqItems]
theorem guard_wide : Tryz.prog.eqGuardType Tryz.prog.depth 169 = false := by kernel_rfl
theorem wideAddr_wd (s : Bool) (h l : Int) (w : World) (uh : U64 h) (ul : U64 l) :
  Calls Tryz.prog 105 #[.agg #[.int .i64 (wd s h l 0), .int .i64 (wd s h l 1), .int .i64 (wd s h l 2), .int .i64 (wd s h l 3), .int .i64 (wd s h l 4), .int .i64 (wd s h l 5), .int .i64 (wd s h l 6), .int .i64 (wd s h l 7), .int .i64 (wd s h l 8)]] w fun e w' => e = .returned (.agg #[.bool s, .int .u64 h, .int .u64 l]) ∧ Below w.heap.size w w' :=
 (wideAddr_any (wd s h l) w (wd_dgs s h l)).mono fun e w' h9 => by
  obtain ⟨s', h', l', ⟨e1, e2, e3⟩, e4, _, _, e5⟩ := h9
  have h1 : hiF (wd s h l) 4 = h := pack4 uh (fun k => wd s h l (4 + k)) (fun k hk => by
   unfold wd
   rw [if_neg (by omega), if_pos (by omega), Nat.add_sub_cancel_left]) _ rfl (fun k => rfl)
  have h2 : loF (wd s h l) 4 = l := pack4 ul (fun k => wd s h l k) (fun k hk => by
   unfold wd
   rw [if_pos hk]) _ rfl (fun k => rfl)
  have h3 : decide (0 < wd s h l 8) = s := by
   have e8 : wd s h l 8 = if s then 1 else 0 := rfl
   rw [e8]
   cases s <;> rfl
  rw [h1] at e2
  rw [h2] at e3
  rw [h3] at e1
  subst e1 e2 e3
  exact ⟨e4, e5⟩
theorem firstOf_wd (s : Bool) (h l b : Int) (w : World) (uh : U64 h) (ul : U64 l) (m : Nat) (hm : lenA s - b = m) (hm2 : m ≤ 128) (hb : 0 ≤ b) :
  Calls Tryz.prog 104 #[.agg #[.bool s, .int .u64 h, .int .u64 l], .int .i64 b] w fun e w' => e = .returned (.agg #[.int .i64 (wd s (clr h (m - 64)) (clr l (min 64 m)) 0), .int .i64 (wd s (clr h (m - 64)) (clr l (min 64 m)) 1), .int .i64 (wd s (clr h (m - 64)) (clr l (min 64 m)) 2), .int .i64 (wd s (clr h (m - 64)) (clr l (min 64 m)) 3), .int .i64 (wd s (clr h (m - 64)) (clr l (min 64 m)) 4), .int .i64 (wd s (clr h (m - 64)) (clr l (min 64 m)) 5), .int .i64 (wd s (clr h (m - 64)) (clr l (min 64 m)) 6), .int .i64 (wd s (clr h (m - 64)) (clr l (min 64 m)) 7), .int .i64 (wd s (clr h (m - 64)) (clr l (min 64 m)) 8)]) ∧ Below w.heap.size w w' :=
 (firstOf_any s h l b w uh ul m hm hm2 hb).mono fun e w' h9 => ⟨h9.1.trans (by
  have : arr9 (clrd (wd s h l) m) = arr9 (wd s (clr h (m - 64)) (clr l (min 64 m))) := arr_ext (fun i h9 => clrd_wd uh ul hm2 h9)
  unfold wideV
  rw [this]
  rfl), h9.2⟩
theorem lastOf_wd (s : Bool) (h l b : Int) (w : World) (uh : U64 h) (ul : U64 l) (m : Nat) (hm : lenA s - b = m) (hm2 : m ≤ 128) (hb : 0 ≤ b) :
  Calls Tryz.prog 125 #[.agg #[.bool s, .int .u64 h, .int .u64 l, .int .i64 b]] w fun e w' => e = .returned (.agg #[.int .i64 (wd s (fil h (m - 64)) (fil l (min 64 m)) 0), .int .i64 (wd s (fil h (m - 64)) (fil l (min 64 m)) 1), .int .i64 (wd s (fil h (m - 64)) (fil l (min 64 m)) 2), .int .i64 (wd s (fil h (m - 64)) (fil l (min 64 m)) 3), .int .i64 (wd s (fil h (m - 64)) (fil l (min 64 m)) 4), .int .i64 (wd s (fil h (m - 64)) (fil l (min 64 m)) 5), .int .i64 (wd s (fil h (m - 64)) (fil l (min 64 m)) 6), .int .i64 (wd s (fil h (m - 64)) (fil l (min 64 m)) 7), .int .i64 (wd s (fil h (m - 64)) (fil l (min 64 m)) 8)]) ∧ Below w.heap.size w w' :=
 (lastOf_any s h l b w uh ul m hm hm2 hb).mono fun e w' h9 => ⟨h9.1.trans (by
  have : arr9 (fild (wd s h l) m) = arr9 (wd s (fil h (m - 64)) (fil l (min 64 m))) := arr_ext (fun i h9 => fild_wd uh ul hm2 h9)
  unfold wideV
  rw [this]
  rfl), h9.2⟩
theorem cmp_wd (s : Bool) (h l : Int) (s' : Bool) (h' l' : Int) (w : World) (uh : U64 h) (ul : U64 l) (uh' : U64 h') (ul' : U64 l') :
  Calls Tryz.prog 126 #[.agg #[.int .i64 (wd s h l 0), .int .i64 (wd s h l 1), .int .i64 (wd s h l 2), .int .i64 (wd s h l 3), .int .i64 (wd s h l 4), .int .i64 (wd s h l 5), .int .i64 (wd s h l 6), .int .i64 (wd s h l 7), .int .i64 (wd s h l 8)], .agg #[.int .i64 (wd s' h' l' 0), .int .i64 (wd s' h' l' 1), .int .i64 (wd s' h' l' 2), .int .i64 (wd s' h' l' 3), .int .i64 (wd s' h' l' 4), .int .i64 (wd s' h' l' 5), .int .i64 (wd s' h' l' 6), .int .i64 (wd s' h' l' 7), .int .i64 (wd s' h' l' 8)]] w fun e w' => e = .returned (.int .i64 (spanC s h l s' h' l')) ∧ Below w.heap.size w w' :=
 (wideCmp_any (wd s h l) (wd s' h' l') w (wd_dgs s h l) (wd_dgs s' h' l')).mono fun e w' h9 => ⟨h9.1.trans (by rw [cmp_span uh ul uh' ul']), h9.2⟩
theorem RwCells.take {w : World} {g o : Nat} {vs : List Value} (h : RwCells w g o vs) (n : Nat) : RwCells w g o (vs.take n) := fun j u hu => by
 refine h j u ?_
 rw [List.getElem?_take] at hu
 split at hu
 ·exact hu
 ·cases hu
end Go.Proofs.YtajifionclpphaaGreatDoor
namespace Go.Proofs.YtajifionclpphaaGreatDoor
open Go.RowKit Go.Hw
end Go.Proofs.YtajifionclpphaaGreatDoor

namespace Go.Proofs.YtajifionclpphaaGreatDoor
open Go.RowKit Go.Hw
end Go.Proofs.YtajifionclpphaaGreatDoor
namespace Go.Proofs.YtajifionclpphaaGreatDoor
open Go.RowKit Go.Hw
/-- A set is handed back. -/
def SetGot (w : World) (p : Nat → Prop) (e : Ending) (w' : World) : Prop := ∃ A c P T, e = .returned (.tuple #[.slice A P.length c, .int .i64 0]) ∧ pxAt w' A P ∧ SetIs P T ∧ (∀ k, hasS T k ↔ p k) ∧ P.length ≤ 1000 ∧ Below w.heap.size w w'
theorem SetOp.small {w : World} {p : Nat → Prop} {e : Ending} {w' : World} (h : SetOp w p e w') (hb : ∀ T, (∀ k, hasS T k ↔ p k) → NormS T → (∀ x ∈ T, famOk x) → (preS T).length ≤ 1000) : SetGot w p e w' := by
 obtain ⟨T, h1, h2, h3, v, c, P, rfl, h4, h5, h6⟩ := h
 rcases h6 with ⟨rfl, h7, h8⟩ | ⟨_, _, h7⟩
 ·obtain ⟨A, cp, rfl, ha, -⟩ := px_own h4
  exact ⟨A, cp, P, T, rfl, ha, h7, h1, by rw [h7.len]; exact h8, h5⟩
 ·exact absurd (hb T h1 h2 h3) (by omega)
theorem set_eq {S T : List Sn} (h1 : NormS S) (h2 : NormS T) (h : ∀ k, hasS S k ↔ hasS T k) : S = T := norm_eq h1 h2 h
end Go.Proofs.YtajifionclpphaaGreatDoor

namespace Go.Proofs.YtajifionclpphaaGreatDoor
open Go.RowKit
/-- At most n blocks make these numbers. -/
def CovN (p : Nat → Prop) (n : Nat) : Prop := ∃ B : List Bk, (∀ b ∈ B, alB b) ∧ B.length ≤ n ∧ ∀ k, hasS (B.map bkS) k ↔ p k
/-- The set of these numbers has at most n blocks. -/
def BdN (p : Nat → Prop) (n : Nat) : Prop := ∀ T, (∀ k, hasS T k ↔ p k) → NormS T → (∀ x ∈ T, famOk x) → (preS T).length ≤ n
theorem CovN.congr {p q : Nat → Prop} {n : Nat} (h : CovN p n) (e : ∀ k, p k ↔ q k) : CovN q n := by
  obtain ⟨B, h1, h2, h3⟩ := h
  exact ⟨B, h1, h2, fun k => (h3 k).trans (e k)⟩
theorem BdN.congr {p q : Nat → Prop} {n : Nat} (h : BdN p n) (e : ∀ k, q k ↔ p k) : BdN q n := fun T t1 t2 t3 => h T (fun k => (t1 k).trans (e k)) t2 t3
theorem CovN.or {p q : Nat → Prop} {n m : Nat} (h : CovN p n) (g : CovN q m) : CovN (fun k => p k ∨ q k) (n + m) := by
  obtain ⟨B, h1, h2, h3⟩ := h
  obtain ⟨C, g1, g2, g3⟩ := g
  refine ⟨B ++ C, fun b hb => (List.mem_append.1 hb).elim (h1 b) (g1 b), by rw [List.length_append]; omega, fun k => ?_⟩
  rw [List.map_append, hasS_append, h3, g3]
theorem CovN.and {p q : Nat → Prop} {n m : Nat} (h : CovN p n) (g : CovN q m) : CovN (fun k => p k ∧ q k) (n + m) := by
  obtain ⟨B, h1, h2, h3⟩ := h
  obtain ⟨C, g1, g2, g3⟩ := g
  obtain ⟨m1, m2, m3⟩ := meetL_law h1 g1
  exact ⟨meetL B C, m2, by omega, fun k => by rw [m1, h3, g3]⟩
theorem CovN.rest {q : Nat → Prop} {m : Nat} (g : CovN q m) : CovN (fun k => inU k ∧ ¬ q k) (2 + 127 * m) := by
  obtain ⟨C, g1, g2, g3⟩ := g
  obtain ⟨m1, m2, m3⟩ := cutAll_law C allB allB_row g1
  have e : allB.length = 2 := rfl
  exact ⟨_, fun b hb => (m2.al b hb).1, by omega, fun k => by rw [m1, allB_has, g3]⟩
/-- A value that is the set of these numbers. -/
def VS (p : Nat → Prop) : World → Value → Prop := fun w v => ∃ A c P T, v = .slice A P.length c ∧ pxAt w A P ∧ SetIs P T ∧ (∀ k, hasS T k ↔ p k) ∧ P.length ≤ 1000
theorem VS.kept (p : Nat → Prop) : KeptV (VS p) := fun _ _ _ ⟨A, c, P, T, h1, h2, h3, h4, h5⟩ hb => ⟨A, c, P, T, h1, h2.below hb, h3, h4, h5⟩
theorem VS.congr {p q : Nat → Prop} {w : World} {v : Value} (h : VS p w v) (e : ∀ k, p k ↔ q k) : VS q w v := by
  obtain ⟨A, c, P, T, h1, h2, h3, h4, h5⟩ := h
  exact ⟨A, c, P, T, h1, h2, h3, fun k => (h4 k).trans (e k), h5⟩
/-- An operation over sets whose answer has at most 1000 blocks hands it back. -/
theorem SetOp.vs {w : World} {p q : Nat → Prop} {e : Ending} {w' : World} (h : SetOp w p e w') (he : ∀ k, p k ↔ q k) (hb : BdN q 1000) : ∃ v, e = .returned (.tuple #[v, .int .i64 0]) ∧ VS q w' v ∧ Below w.heap.size w w' := by
  obtain ⟨A, c, P, T, h1, h2, h3, h4, h5, h6⟩ := h.small (fun T t1 t2 t3 => hb T (fun k => (t1 k).trans (he k)) t2 t3)
  exact ⟨_, h1, ⟨A, c, P, T, rfl, h2, h3, fun k => (h4 k).trans (he k), h5⟩, h6⟩
/-- Two values that are the set of the same numbers are rows of the same prefixes. -/
theorem VS.same {p q : Nat → Prop} {w : World} {x y : Value} (hx : VS p w x) (hy : VS q w y) (e : ∀ k, p k ↔ q k) : ∃ A B c d P, x = .slice A P.length c ∧ y = .slice B P.length d ∧ pxAt w A P ∧ pxAt w B P ∧ P.length ≤ 1000 := by
  obtain ⟨A, c, P, T, rfl, h2, h3, h4, h5⟩ := hx
  obtain ⟨B, d, Q, U, rfl, g2, g3, g4, g5⟩ := hy
  have hTU : T = U := set_eq h3.norm g3.norm (fun k => by rw [h4, g4, e])
  subst hTU
  obtain rfl : P = Q := h3.eq g3
  exact ⟨A, B, c, d, P, rfl, rfl, h2, g2, h5⟩
/-- The size of a set of numbers, told by its blocks. -/
theorem VS.none {p : Nat → Prop} {w : World} {x : Value} (hx : VS p w x) (e : ∀ k, ¬ p k) : ∃ A c, x = .slice A 0 c := by
  obtain ⟨A, c, P, T, rfl, h2, h3, h4, h5⟩ := hx
  have hT : T = [] := set_eq h3.norm ⟨(fun _ h => by cases h), List.Pairwise.nil⟩ (fun k => by rw [h4]; exact ⟨fun h => absurd h (e k), fun h => absurd h (hasS_nil k)⟩)
  subst hT
  have := h3.len
  rw [show preS [] = [] from rfl, List.length_nil] at this
  exact ⟨A, c, by rw [this]⟩
end Go.Proofs.YtajifionclpphaaGreatDoor
