/- What is wrong with links: laneref1.LinksFault and route.CheckLinks are one function. -/
import Derived.Test.YtgmejjemepffkaaGreatDoorLinks
import Derived.Test.YtgmejjemepffkaaGreatDoorKey
import Derived.Deep.RegionHeld3
namespace Go.Proofs.YtgmejjemepffkaaGreatDoor
open Go.RowKit Go.Hw Go.Shelf

/-- The first number that is not 0. -/
def orOf : List Int → Int
  | [] => 0
  | x :: r => if x = 0 then orOf r else x
theorem orOf_drop {vs : List Int} {k : Nat} (h : ∀ j, j < k → vs.getD j 0 = 0) : orOf vs = orOf (vs.drop k) := by
  induction k generalizing vs with
  | zero => rfl
  | succ k ih =>
    cases vs with
    | nil => rfl
    | cons x r =>
      have h0 := h 0 (by omega)
      simp at h0
      rw [orOf, if_pos h0, List.drop_succ_cons]
      exact ih fun j hj => by simpa using h (j + 1) (by omega)

set_option maxHeartbeats 400000 in
theorem or_any (g : Nat) (vs : List Int) (w : World) (hg : w.heap[g]? = some (.cells (vs.map (Value.int .i64)).toArray 3 (0, 0))) (n c : Nat) (hn : n = vs.length) (hl : vs.length ≤ 1000000) :
    Calls Tryz.prog 17 #[.slice (some ⟨g, 0, none⟩) n c] w fun e w' => e = .returned (.int .i64 (orOf vs)) ∧ w = w' := by
  subst hn
  have hc : ∀ k, k < vs.length → w.cell? ⟨g, k, none⟩ = some (.int .i64 (vs.getD k 0)) := fun k hk => by
    simp [World.cell?, hg, List.getElem?_eq_getElem hk]
  clear hg
  have HC := Lib.hid hc
  clear hc
  go_enter Tryz.func17, Tryz.ntmps17
  go_wp2_with fail
  go_loop [8] (fun i => ∃ k : Nat, k ≤ vs.length ∧ i = .int .i64 k ∧ Hid (∀ j, j < k → vs.getD j 0 = 0)) (fun i => vs.length - (intOf i).toNat)
  case atStart => exact ⟨0, Nat.zero_le _, rfl, Lib.hid (fun j h => absurd h (by omega))⟩
  case round =>
    obtain ⟨k, hk, rfl, hrel⟩ := hrel
    by_cases hlt : k < vs.length
    · have hck := HC.out k hlt
      have HO := Lib.hid (orOf_drop hrel.out)
      have hcons : orOf (vs.drop k) = if vs.getD k 0 = 0 then orOf (vs.drop (k + 1)) else vs.getD k 0 := by
        rw [List.drop_eq_getElem_cons hlt]
        simp [orOf, List.getElem?_eq_getElem hlt]
      have HN := Lib.hid hcons
      have HR : Hid (vs.getD k 0 = 0 → ∀ j, j < k + 1 → vs.getD j 0 = 0) := Lib.hid fun h j hj => by
        by_cases e : j = k
        · rw [e]; exact h
        · exact hrel.out j (by omega)
      clear hrel hcons
      generalize vs.getD k 0 = x at *
      by_cases hx : x = 0
      · have hx1 : (x != 0) = false := by simp [hx]
        have HX := Lib.hid hx
        clear hx
        go_wp2_with fail
        go_round
        case rel => exact ⟨k + 1, by omega, by go_num, Lib.hid (HR.out HX.out)⟩
        case measure => simp [intOf]; omega
      · have hx1 : (x != 0) = true := by simp [hx]
        have HF : Hid (orOf vs = x) := Lib.hid (by rw [HO.out, HN.out, if_neg hx])
        clear hx
        go_wp2_with fail
        go_ret
        exact ⟨ret_eq HF.out.symm, rfl⟩
    · have : k = vs.length := by omega
      subst this
      have HF : Hid (orOf vs = 0) := Lib.hid (by rw [orOf_drop hrel.out, List.drop_length]; rfl)
      clear hrel
      go_wp2_with fail
      go_ret
      exact ⟨ret_eq HF.out.symm, rfl⟩

theorem cmp_any (a b : ByteArray) (w : World) :
    Calls Tryz.prog 18 #[.string a, .string b] w fun e w' => e = .returned (.int .i64 (Lib.compareBytes a.data.toList b.data.toList)) ∧ w = w' :=
  (Tryz.strings_Compare a b w).mono fun _ _ ⟨h1, h2⟩ => ⟨h1, h2.symm⟩

def noLk : Lk := ⟨ByteArray.empty, ByteArray.empty, 0⟩
/-- A slice of links lies in memory, below block B. -/
def LksAt (w : World) (B : Nat) (A : Option Addr) (xs : List Lk) : Prop :=
  ∀ i, i < xs.length → ∃ g off, A = some ⟨g, off, none⟩ ∧ g < B ∧ w.cell? ⟨g, off + i * 3, none⟩ = some (.string (xs.getD i noLk).a) ∧ w.cell? ⟨g, off + i * 3 + 1, none⟩ = some (.string (xs.getD i noLk).b) ∧
    w.cell? ⟨g, off + i * 3 + 2, none⟩ = some (.int .i64 (xs.getD i noLk).m)
theorem LksAt.keep {w w' : World} {B : Nat} {A : Option Addr} {xs : List Lk} (h : LksAt w B A xs) (hk : ∀ p : Addr, p.block < B → w'.cell? p = w.cell? p) : LksAt w' B A xs := fun i hi =>
  let ⟨g, off, h1, h2, h3, h4, h5⟩ := h i hi
  ⟨g, off, h1, h2, (hk _ h2).trans h3, (hk _ h2).trans h4, (hk _ h2).trans h5⟩
theorem LksAt.below {w w' : World} {B : Nat} {A : Option Addr} {xs : List Lk} (h : LksAt w B A xs) (hb : Below B w w') : LksAt w' B A xs := h.keep fun _ hp => hb.cell hp

def strGeq (a b : ByteArray) : Bool := !(Op.bytesLess a.toList b.toList)
/-- What is wrong with link i. -/
def linkCode (xs : List Lk) (i : Nat) : Int :=
  if isKey (xs.getD i noLk).a = false then 5
  else if isKey (xs.getD i noLk).b = false then 5
  else if strGeq (xs.getD i noLk).a (xs.getD i noLk).b then 7
  else if ¬ (0 ≤ (xs.getD i noLk).m ∧ (xs.getD i noLk).m ≤ 1000000) then 1
  else if 0 < i ∧ 0 ≤ orOf [Lib.compareBytes (xs.getD (i - 1) noLk).a.data.toList (xs.getD i noLk).a.data.toList, Lib.compareBytes (xs.getD (i - 1) noLk).b.data.toList (xs.getD i noLk).b.data.toList] then 7
  else 0
def linksFault (xs : List Lk) : Int := if 500 < xs.length then 2 else (((List.range xs.length).map (linkCode xs)).find? (fun c => decide (c ≠ 0))).getD 0
theorem find_range {f : Nat → Int} {n k : Nat} (hk : k < n) (h : ∀ j, j < k → f j = 0) (hf : f k ≠ 0) : (((List.range n).map f).find? (fun c => decide (c ≠ 0))).getD 0 = f k := by
  have e : List.range n = List.range k ++ List.range' k (n - k) := by
    rw [List.range_eq_range', List.range_eq_range']
    have := List.range'_append_1 (s := 0) (m := k) (n := n - k)
    rw [Nat.zero_add] at this
    rw [this]
    congr 1
    omega
  rw [e, List.map_append, List.find?_append]
  have h1 : ((List.range k).map f).find? (fun c => decide (c ≠ 0)) = none := by
    rw [List.find?_eq_none]
    intro c hc
    obtain ⟨j, hj, rfl⟩ := List.mem_map.1 hc
    simp [h j (List.mem_range.1 hj)]
  rw [h1]
  have e2 : n - k = (n - k - 1) + 1 := by omega
  rw [e2, List.range'_succ]
  simp [hf]
theorem find_range_none {f : Nat → Int} {n : Nat} (h : ∀ j, j < n → f j = 0) : (((List.range n).map f).find? (fun c => decide (c ≠ 0))).getD 0 = 0 := by
  have h1 : ((List.range n).map f).find? (fun c => decide (c ≠ 0)) = none := by
    rw [List.find?_eq_none]
    intro c hc
    obtain ⟨j, hj, rfl⟩ := List.mem_map.1 hc
    simp [h j (List.mem_range.1 hj)]
  rw [h1]; rfl
theorem linksFault_at {xs : List Lk} {k : Nat} (hl : xs.length ≤ 500) (hk : k < xs.length) (h : ∀ j, j < k → linkCode xs j = 0) (hf : linkCode xs k ≠ 0) : linksFault xs = linkCode xs k := by
  unfold linksFault
  rw [if_neg (by omega)]
  exact find_range hk h hf
theorem linksFault_none {xs : List Lk} (hl : xs.length ≤ 500) (h : ∀ j, j < xs.length → linkCode xs j = 0) : linksFault xs = 0 := by
  unfold linksFault
  rw [if_neg (by omega)]
  exact find_range_none h

theorem box_cells {w w1 : World} {cs : List Value} {T : TypeId} (hb : Below (w.alloc (.cells cs.toArray T)).heap.size (w.alloc (.cells cs.toArray T)) w1) :
    ∀ j u, cs[j]? = some u → w1.cell? ⟨w.heap.size, j, none⟩ = some u := by
  intro j u hu
  rw [hb.cell (by simp)]
  simp only [World.cell?, heap_alloc_new]
  simpa using hu
theorem below_box {B : Nat} {w wr w1 : World} {o : Obj} (h : Below B w wr) (hB : B ≤ wr.heap.size) (hb : Below (wr.alloc o).heap.size (wr.alloc o) w1) : Below B w w1 :=
  (h.alloc hB o).trans (hb.mono (by simp; omega))

set_option maxRecDepth 100000 in
set_option maxHeartbeats 1000000 in
theorem linksFault_any (A : Option Addr) (cap : Nat) (xs : List Lk) (w : World) (h : LksAt w w.heap.size A xs) (hl : xs.length ≤ 1000000) (hss : ∀ i, (xs.getD i noLk).a.size ≤ maxLen ∧ (xs.getD i noLk).b.size ≤ maxLen) :
    Calls Tryz.prog 6 #[.slice A xs.length cap] w fun e w' => e = .returned (.int .i64 (linksFault xs)) ∧ Below w.heap.size w w' := by
  by_cases hlong : 500 < xs.length
  · have hfin : linksFault xs = 2 := by unfold linksFault; rw [if_pos hlong]
    have HF := Lib.hid hfin
    clear hfin h hss
    go_enter Tryz.func6, Tryz.ntmps6
    go_wp2_with fail
    go_ret
    exact ⟨ret_eq HF.out.symm, Below.refl _ _⟩
  · have H := Lib.hid h
    have HS := Lib.hid hss
    clear h hss
    go_enter Tryz.func6, Tryz.ntmps6
    go_wp2_with fail
    go_loopw [10] (fun i wr => ∃ k : Nat, k ≤ xs.length ∧ i = .int .i64 k ∧ Hid (∀ j, j < k → linkCode xs j = 0) ∧ Below w.heap.size w wr) (fun i _ => xs.length - (intOf i).toNat)
    case atStart => exact ⟨0, Nat.zero_le _, rfl, Lib.hid (fun j h => absurd h (by omega)), Below.refl _ _⟩
    case round =>
      obtain ⟨k, hk, rfl, hrel, hb⟩ := hrel
      by_cases hlt : k < xs.length
      · obtain ⟨g, off, rfl, hg, c0, c1, c2⟩ := (H.out.below hb) k hlt
        have hcode : linkCode xs k = linkCode xs k := rfl
        conv at hcode => rhs; unfold linkCode
        have HC := Lib.hid hcode
        have HE : Hid (linkCode xs k ≠ 0 → linksFault xs = linkCode xs k) := Lib.hid (linksFault_at (by omega) hlt hrel.out)
        obtain ⟨s1, s2⟩ := HS.out k
        clear hcode
        generalize xs.getD k noLk = x at *
        obtain ⟨xa, xb, xm⟩ := x
        cases ka : isKey xa
        · have HF : Hid (linksFault xs = 5) := Lib.hid (by have h5 : linkCode xs k = 5 := by rw [HC.out, if_pos ka]
                                                           rw [HE.out (by rw [h5]; decide), h5])
          go_wp2_with fail
          refine (key_any xa _ s1).mono ?_
          rintro e w1 ⟨rfl, hb1⟩
          rw [ka]
          go_wp2_with fail
          go_ret
          exact ⟨ret_eq HF.out.symm, below_box hb hb.size hb1⟩
        · cases kb : isKey xb
          · have HF : Hid (linksFault xs = 5) := Lib.hid (by have h5 : linkCode xs k = 5 := by rw [HC.out, if_neg (by rw [ka]; decide), if_pos kb]
                                                             rw [HE.out (by rw [h5]; decide), h5])
            go_wp2_with fail
            refine (key_any xa _ s1).mono ?_
            rintro e w1 ⟨rfl, hb1⟩
            have x1 := box_cells (cs := [.string xa, .string xb, .int .i64 xm]) hb1 1 _ rfl
            rw [ka]
            go_wp2_with fail
            refine (key_any xb _ s2).mono ?_
            rintro e w2 ⟨rfl, hb2⟩
            rw [kb]
            go_wp2_with fail
            go_ret
            exact ⟨ret_eq HF.out.symm, (below_box hb hb.size hb1).trans (hb2.mono (Nat.le_trans hb.size (Nat.le_trans (by simp) hb1.size)))⟩
          · go_wp2_with fail
            refine (key_any xa _ s1).mono ?_
            rintro e w1 ⟨rfl, hb1⟩
            have x1 := box_cells (cs := [.string xa, .string xb, .int .i64 xm]) hb1 1 _ rfl
            rw [ka]
            go_wp2_with fail
            refine (key_any xb _ s2).mono ?_
            rintro e w2 ⟨rfl, hb2⟩
            rw [kb]
            have hb12 := hb1.trans (hb2.mono hb1.size)
            have x0 := box_cells (cs := [.string xa, .string xb, .int .i64 xm]) hb12 0 _ rfl
            have x1 := box_cells (cs := [.string xa, .string xb, .int .i64 xm]) hb12 1 _ rfl
            have x2 := box_cells (cs := [.string xa, .string xb, .int .i64 xm]) hb12 2 _ rfl
            have hbw := below_box hb hb.size hb12
            clear hb1 hb2 hb12 hb
            cases kg : (!Op.bytesLess xa.toList xb.toList)
            · by_cases km : 0 ≤ xm ∧ xm ≤ 1000000
              · have hin : (decide ((0 : Int) ≤ xm) && decide (xm ≤ 1000000)) = true := by simp; omega
                by_cases k0 : k = 0
                · have HN : Hid (linkCode xs k = 0) := Lib.hid (by rw [HC.out, if_neg (by rw [ka]; decide), if_neg (by rw [kb]; decide), if_neg (by unfold strGeq; rw [kg]; decide), if_neg (by simp; omega), if_neg (by omega)])
                  have hd : decide (0 < k) = false := by simp; omega
                  have HR : Hid (∀ j, j < k + 1 → linkCode xs j = 0) := Lib.hid (fun j hj => by
                    by_cases e : j = k
                    · rw [e]; exact HN.out
                    · exact hrel.out j (by omega))
                  clear k0 hrel
                  go_wp2_with fail
                  refine (in1_any _ _ _ _).mono ?_
                  rintro e w3 ⟨rfl, rfl⟩
                  rw [hin]
                  go_wp2_with fail
                  go_quiet (fail)
                  go_wp2_with fail
                  go_roundw
                  case rel => exact ⟨k + 1, by omega, by go_num, HR, ⟨hbw.os, hbw.tape, hbw.output, hbw.size, hbw.block⟩⟩
                  case measure => simp [intOf]; omega
                · obtain ⟨g', off', e', hg', p0, p1, p2⟩ := (H.out.below hbw) (k - 1) (by omega)
                  injection e' with e'
                  injection e' with e1 e2
                  subst e1 e2
                  have hkk : (k : Int) - 1 = ((k - 1 : Nat) : Int) := by omega
                  have HK := Lib.hid hkk
                  have HK0 := Lib.hid k0
                  have k0' : 0 < k := by omega
                  have hk1 : 0 ≤ (k : Int) - 1 := by omega
                  have hk2 : (k : Int) - 1 < (xs.length : Int) := by omega
                  clear hkk k0 p2
                  generalize hp : xs.getD (k - 1) noLk = p at *
                  obtain ⟨pa, pb, pm⟩ := p
                  have HP := Lib.hid hp
                  clear hp
                  go_wp2_with fail
                  refine (in1_any _ _ _ _).mono ?_
                  rintro e w3 ⟨rfl, rfl⟩
                  rw [hin]
                  have hd : decide (0 < k) = true := by simp; omega
                  go_wp2_with fail
                  have s1' : (1 : Int) ≤ (k : Int) := by omega
                  have s0 : IntKind.i64.wrap ((k : Int) - 1) = (k : Int) - 1 := IntWalk.i64_in _ (by omega)
                  have s2' : ((k : Int) - 1).toNat = k - 1 := by omega
                  go_region_held3 (fun w' => w'.cell? ⟨g, off + (k - 1) * 3, none⟩ = some (.string pa) ∧ w'.cell? ⟨g, off + (k - 1) * 3 + 1, none⟩ = some (.string pb) ∧
                      w'.cell? ⟨wr.heap.size, 0, none⟩ = some (.string xa) ∧ w'.cell? ⟨wr.heap.size, 1, none⟩ = some (.string xb))
                    (first | go_keep | exact ⟨p0, p1, x0, x1⟩)
                    ((first | (go_at_call 18; refine (cmp_any _ _ _).mono ?_; rintro e w' ⟨rfl, rfl⟩) | (go_at_call 17; refine (or_any w2.heap.size [Lib.compareBytes pa.data.toList xa.data.toList, Lib.compareBytes pb.data.toList xb.data.toList] _ (by exact heap_alloc_new w2 _) 2 2 rfl (by simp)).mono ?_; rintro e w' ⟨rfl, rfl⟩)))
                  clear s1' s0 s2' hd k0' hk1 hk2
                  have hw : Below w.heap.size w (w2.alloc (.cells #[.int .i64 (Lib.compareBytes pa.data.toList xa.data.toList), .int .i64 (Lib.compareBytes pb.data.toList xb.data.toList)] 3)).drew := (hbw.alloc hbw.size _).drew
                  by_cases ho : 0 ≤ orOf [Lib.compareBytes pa.data.toList xa.data.toList, Lib.compareBytes pb.data.toList xb.data.toList]
                  · have h7 : linkCode xs k = 7 := by rw [HC.out, if_neg (by rw [ka]; decide), if_neg (by rw [kb]; decide), if_neg (by unfold strGeq; rw [kg]; decide), if_neg (by simp; omega), if_pos ⟨by have := HK0.out; omega, ho⟩]
                    have HF : Hid (linksFault xs = 7) := Lib.hid (by rw [HE.out (by rw [h7]; decide), h7])
                    clear h7 hw
                    have hw := hbw
                    generalize orOf [Lib.compareBytes pa.data.toList xa.data.toList, Lib.compareBytes pb.data.toList xb.data.toList] = o at *
                    go_wp2_with fail
                    go_ret
                    exact ⟨ret_eq HF.out.symm, (hbw.alloc hbw.size _).drew⟩
                  · have h7 : linkCode xs k = 0 := by rw [HC.out, if_neg (by rw [ka]; decide), if_neg (by rw [kb]; decide), if_neg (by unfold strGeq; rw [kg]; decide), if_neg (by simp; omega), if_neg (fun h => ho h.2)]
                    have HR : Hid (∀ j, j < k + 1 → linkCode xs j = 0) := Lib.hid (fun j hj => by
                      by_cases e : j = k
                      · rw [e]; exact h7
                      · exact hrel.out j (by omega))
                    clear h7 hrel
                    generalize orOf [Lib.compareBytes pa.data.toList xa.data.toList, Lib.compareBytes pb.data.toList xb.data.toList] = o at *
                    go_wp2_with fail
                    go_roundw
                    case rel => exact ⟨k + 1, by omega, by go_num, HR, hw⟩
                    case measure => simp [intOf]; omega
              · have HF : Hid (linksFault xs = 1) := Lib.hid (by have h5 : linkCode xs k = 1 := by rw [HC.out, if_neg (by rw [ka]; decide), if_neg (by rw [kb]; decide), if_neg (by unfold strGeq; rw [kg]; decide), if_pos km]
                                                                 rw [HE.out (by rw [h5]; decide), h5])
                have hin : (decide ((0 : Int) ≤ xm) && decide (xm ≤ 1000000)) = false := by simp; omega
                clear km
                go_wp2_with fail
                refine (in1_any _ _ _ _).mono ?_
                rintro e w3 ⟨rfl, rfl⟩
                rw [hin]
                go_wp2_with fail
                go_ret
                exact ⟨ret_eq HF.out.symm, hbw⟩
            · have h7 : linkCode xs k = 7 := by rw [HC.out, if_neg (by rw [ka]; decide), if_neg (by rw [kb]; decide), if_pos (by unfold strGeq; exact kg)]
              have HF : Hid (linksFault xs = 7) := Lib.hid (by rw [HE.out (by rw [h7]; decide), h7])
              clear h7
              go_wp2_with fail
              go_ret
              exact ⟨ret_eq HF.out.symm, hbw⟩
      · have : k = xs.length := by omega
        subst this
        have HF : Hid (linksFault xs = 0) := Lib.hid (linksFault_none (by omega) hrel.out)
        clear hrel
        go_wp2_with fail
        go_ret
        exact ⟨ret_eq HF.out.symm, hb⟩
end Go.Proofs.YtgmejjemepffkaaGreatDoor
