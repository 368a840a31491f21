/- What is wrong with links: the words; cmp.Or, strings.Compare. -/
import Derived.Test.YtcmfkheohhfpiaaGreatDoorLk
import Derived.Test.YtcmfkheohhfpiaaGreatDoorKey
import Derived.Deep.RegionHeld3
namespace Go.Proofs.YtcmfkheohhfpiaaGreatDoor
open Go.RowKit Go.Hw Go.Shelf

/-- The first number that is not 0. -/
def orOf : List Int → Int
  | [] => 0
  | x :: r => if x = 0 then orOf r else x
theorem orOf_drop {vs : List Int} {k : Nat} (h : ∀ j, j < k → vs.getD j 0 = 0) : orOf vs = orOf (vs.drop k) := by
  induction k generalizing vs with
  | zero => rfl
  | succ k ih =>
    cases vs with
    | nil => rfl
    | cons x r =>
      have h0 := h 0 (by omega)
      simp at h0
      rw [orOf, if_pos h0, List.drop_succ_cons]
      exact ih fun j hj => by simpa using h (j + 1) (by omega)

set_option maxHeartbeats 400000 in
theorem or_any (g : Nat) (vs : List Int) (w : World) (hg : w.heap[g]? = some (.cells (vs.map (Value.int .i64)).toArray 3 (0, 0))) (n c : Nat) (hn : n = vs.length) (hl : vs.length ≤ 1000000) :
    Calls Tryz.prog 101 #[.slice (some ⟨g, 0, none⟩) n c] w fun e w' => e = .returned (.int .i64 (orOf vs)) ∧ w = w' := by
  subst hn
  have hc : ∀ k, k < vs.length → w.cell? ⟨g, k, none⟩ = some (.int .i64 (vs.getD k 0)) := fun k hk => by
    simp [World.cell?, hg, List.getElem?_eq_getElem hk]
  clear hg
  have HC := Lib.hid hc
  clear hc
  go_enter Tryz.func101, Tryz.ntmps101
  go_wp2_with fail
  go_loop [8] (fun i => ∃ k : Nat, k ≤ vs.length ∧ i = .int .i64 k ∧ Hid (∀ j, j < k → vs.getD j 0 = 0)) (fun i => vs.length - (intOf i).toNat)
  case atStart => exact ⟨0, Nat.zero_le _, rfl, Lib.hid (fun j h => absurd h (by omega))⟩
  case round =>
    obtain ⟨k, hk, rfl, hrel⟩ := hrel
    by_cases hlt : k < vs.length
    · have hck := HC.out k hlt
      have HO := Lib.hid (orOf_drop hrel.out)
      have hcons : orOf (vs.drop k) = if vs.getD k 0 = 0 then orOf (vs.drop (k + 1)) else vs.getD k 0 := by
        rw [List.drop_eq_getElem_cons hlt]
        simp [orOf, List.getElem?_eq_getElem hlt]
      have HN := Lib.hid hcons
      have HR : Hid (vs.getD k 0 = 0 → ∀ j, j < k + 1 → vs.getD j 0 = 0) := Lib.hid fun h j hj => by
        by_cases e : j = k
        · rw [e]; exact h
        · exact hrel.out j (by omega)
      clear hrel hcons
      generalize vs.getD k 0 = x at *
      by_cases hx : x = 0
      · have hx1 : (x != 0) = false := by simp [hx]
        have HX := Lib.hid hx
        clear hx
        go_wp2_with fail
        go_round
        case rel => exact ⟨k + 1, by omega, by go_num, Lib.hid (HR.out HX.out)⟩
        case measure => simp [intOf]; omega
      · have hx1 : (x != 0) = true := by simp [hx]
        have HF : Hid (orOf vs = x) := Lib.hid (by rw [HO.out, HN.out, if_neg hx])
        clear hx
        go_wp2_with fail
        go_ret
        exact ⟨ret_eq HF.out.symm, rfl⟩
    · have : k = vs.length := by omega
      subst this
      have HF : Hid (orOf vs = 0) := Lib.hid (by rw [orOf_drop hrel.out, List.drop_length]; rfl)
      clear hrel
      go_wp2_with fail
      go_ret
      exact ⟨ret_eq HF.out.symm, rfl⟩

def noLk : Lk := ⟨ByteArray.empty, ByteArray.empty, 0⟩
/-- A slice of links lies in memory, below block B. -/
def LksAt (w : World) (B : Nat) (A : Option Addr) (xs : List Lk) : Prop :=
  ∀ i, i < xs.length → ∃ g off, A = some ⟨g, off, none⟩ ∧ g < B ∧ w.cell? ⟨g, off + i * 3, none⟩ = some (.string (xs.getD i noLk).a) ∧ w.cell? ⟨g, off + i * 3 + 1, none⟩ = some (.string (xs.getD i noLk).b) ∧
    w.cell? ⟨g, off + i * 3 + 2, none⟩ = some (.int .i64 (xs.getD i noLk).m)
theorem LksAt.keep {w w' : World} {B : Nat} {A : Option Addr} {xs : List Lk} (h : LksAt w B A xs) (hk : ∀ p : Addr, p.block < B → w'.cell? p = w.cell? p) : LksAt w' B A xs := fun i hi =>
  let ⟨g, off, h1, h2, h3, h4, h5⟩ := h i hi
  ⟨g, off, h1, h2, (hk _ h2).trans h3, (hk _ h2).trans h4, (hk _ h2).trans h5⟩
theorem LksAt.below {w w' : World} {B : Nat} {A : Option Addr} {xs : List Lk} (h : LksAt w B A xs) (hb : Below B w w') : LksAt w' B A xs := h.keep fun _ hp => hb.cell hp

def strGeq (a b : ByteArray) : Bool := !(Op.bytesLess a.toList b.toList)
/-- What is wrong with link i. -/
def linkCode (xs : List Lk) (i : Nat) : Int :=
  if isKey (xs.getD i noLk).a = false then 5
  else if isKey (xs.getD i noLk).b = false then 5
  else if strGeq (xs.getD i noLk).a (xs.getD i noLk).b then 7
  else if ¬ (0 ≤ (xs.getD i noLk).m ∧ (xs.getD i noLk).m ≤ 1000000) then 1
  else if 0 < i ∧ 0 ≤ orOf [Lib.compareBytes (xs.getD (i - 1) noLk).a.data.toList (xs.getD i noLk).a.data.toList, Lib.compareBytes (xs.getD (i - 1) noLk).b.data.toList (xs.getD i noLk).b.data.toList] then 7
  else 0
def linksFault (xs : List Lk) : Int := if 500 < xs.length then 2 else (((List.range xs.length).map (linkCode xs)).find? (fun c => decide (c ≠ 0))).getD 0
end Go.Proofs.YtcmfkheohhfpiaaGreatDoor
