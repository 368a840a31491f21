/- addr.groups at any string. -/
import Derived.Test.YtcicednopgpjfaaGreatDoorAxG
namespace Go.Proofs.YtcicednopgpjfaaGreatDoor
open Go.RowKit Go.Hw Go.Shelf
def allIn (l cs : List UInt8) : Bool := l.all (cs.contains ·)
theorem dropWhile_all {l : List UInt8} {p : UInt8 → Bool} : l.dropWhile p = [] ↔ l.all p = true := by
  induction l with
  | nil => simp
  | cons a l ih =>
    rw [List.dropWhile_cons]
    by_cases h : p a = true
    · simp only [h, if_true, ih, List.all_cons, Bool.true_and]
    · simp [h]
theorem trim_nil (l cs : List UInt8) : (Lib.trimS l cs).isEmpty = allIn l cs := by
  unfold Lib.trimS Lib.trimLeftS Lib.trimRightS allIn
  rw [Bool.eq_iff_iff, List.isEmpty_iff, dropWhile_all]
  constructor
  · intro h
    rw [List.all_eq_true] at h
    have h2 : l.reverse.dropWhile (cs.contains ·) = [] := by
      cases hd : l.reverse.dropWhile (cs.contains ·) with
      | nil => rfl
      | cons a r =>
        rw [hd] at h
        have h3 := h a (by simp)
        have := List.head?_dropWhile_not (cs.contains ·) l.reverse
        rw [hd] at this
        simp at this h3
        exact absurd h3 this
    rw [dropWhile_all, List.all_reverse] at h2
    exact h2
  · intro h
    have : l.reverse.dropWhile (cs.contains ·) = [] := by rw [dropWhile_all, List.all_reverse]; exact h
    rw [this]
    rfl
theorem Tryz.infoSet : (Tryz.prog.info? 145).map (fun i => (i.zero, i.size)) = some (some (.agg (Array.replicate 256 (.bool false))), 256) := by kernel_rfl
theorem trim_calls (s cutset : ByteArray) (w : World) (hs : s.size ≤ maxLen) (hcs : cutset.size < 4294967281) (hascii : ∀ (j : Nat) b, cutset.data.toList[j]? = some b → b.toNat < 128) :
    Calls Tryz.prog 44 #[.string s, .string cutset] w fun e w' => e = .returned (.string ⟨(Lib.trimS s.data.toList cutset.data.toList).toArray⟩) ∧ Below w.heap.size w w' :=
  Any.strings_Trim_laid Tryz.lays160 Tryz.infoSet s cutset w hs hcs hascii
/-- The digits that groups takes. -/
def hexSet : ByteArray := ⟨#[48, 49, 50, 51, 52, 53, 54, 55, 56, 57, 97, 98, 99, 100, 101, 102, 65, 66, 67, 68, 69, 70]⟩
theorem hexSet_dig : ∀ n : Fin 256, hexSet.data.toList.contains (UInt8.ofNat n.val) = hexD (UInt8.ofNat n.val) := by decide +kernel
theorem hexSet_all (w : List UInt8) : allIn w hexSet.data.toList = w.all hexD := by
  unfold allIn
  refine List.all_congr rfl (fun c => ?_)
  have := hexSet_dig ⟨c.toNat, c.toNat_lt⟩
  simpa using this
/-- A word of an address with colons. -/
def grW (w : List UInt8) : Bool := !w.isEmpty && decide (w.length ≤ 4) && w.all hexD
def grF (last : Bool) : List (List UInt8) → Option (List Nat)
  | [] => some []
  | w :: r => if (last && r.isEmpty && Lib.contains w [46]) = true then (fourF w).map (fun n => [n / 65536, n % 65536]) else if grW w = true then (grF last r).map (hexP2 w :: ·) else none
/-- What groups reads. -/
def groupsF (s : List UInt8) (last : Bool) : Option (List Nat) := if s = [] then some [] else grF last (Lib.split s [58])
def U64sOwn (w : World) (base : Nat) (v : Value) (xs : List Nat) : Prop := w.ownsRow base 26 1 v xs.length (xs.map fun n : Nat => Value.int .u64 (n : Int))
/-- The words from k on are to be read yet. -/
theorem grF_step {last : Bool} {l : List (List UInt8)} {k : Nat} {acc : List Nat} (hk : k < l.length) (h : grF last l = (grF last (l.drop k)).map (acc ++ ·)) (hn : (last && decide (k + 1 = l.length) && Lib.contains (l.getD k []) [46]) = false) (hw : grW (l.getD k []) = true) :
    grF last l = (grF last (l.drop (k + 1))).map ((acc ++ [hexP2 (l.getD k [])]) ++ ·) := by
  rw [h, List.drop_eq_getElem_cons hk, grF]
  rw [List.getD_eq_getElem?_getD, List.getElem?_eq_getElem hk] at hn hw
  simp only [Option.getD_some] at hn hw
  have he : (l.drop (k + 1)).isEmpty = decide (k + 1 = l.length) := by
    rw [Bool.eq_iff_iff]
    simp
    omega
  rw [he, if_neg (by rw [hn]; decide), if_pos hw, List.getD_eq_getElem?_getD, List.getElem?_eq_getElem hk]
  simp only [Option.getD_some, Option.map_map]
  congr 1
  funext x
  simp
theorem grF_none {last : Bool} {l : List (List UInt8)} {k : Nat} {acc : List Nat} (hk : k < l.length) (h : grF last l = (grF last (l.drop k)).map (acc ++ ·)) (hn : (last && decide (k + 1 = l.length) && Lib.contains (l.getD k []) [46]) = false) (hw : grW (l.getD k []) = false) : grF last l = none := by
  rw [h, List.drop_eq_getElem_cons hk, grF]
  rw [List.getD_eq_getElem?_getD, List.getElem?_eq_getElem hk] at hn hw
  simp only [Option.getD_some] at hn hw
  have he : (l.drop (k + 1)).isEmpty = decide (k + 1 = l.length) := by
    rw [Bool.eq_iff_iff]
    simp
    omega
  rw [he, if_neg (by rw [hn]; decide), if_neg (by rw [hw]; decide)]
  rfl
theorem grF_four {last : Bool} {l : List (List UInt8)} {k : Nat} {acc : List Nat} (hk : k < l.length) (h : grF last l = (grF last (l.drop k)).map (acc ++ ·)) (hn : (last && decide (k + 1 = l.length) && Lib.contains (l.getD k []) [46]) = true) : grF last l = ((fourF (l.getD k [])).map (fun n => acc ++ [n / 65536, n % 65536])) := by
  rw [h, List.drop_eq_getElem_cons hk, grF]
  rw [List.getD_eq_getElem?_getD, List.getElem?_eq_getElem hk] at hn ⊢
  simp only [Option.getD_some] at hn ⊢
  have he : (l.drop (k + 1)).isEmpty = decide (k + 1 = l.length) := by
    rw [Bool.eq_iff_iff]
    simp
    omega
  rw [he, if_pos hn]
  simp [Option.map_map]
  rfl
theorem splitK_len (sep : List UInt8) : ∀ (n : Nat) (s : List UInt8), (Lib.splitK sep 0 n s).length ≤ n + 1
  | 0, s => by simp [Lib.splitK]
  | n + 1, s => by
    rw [Lib.splitK]
    split
    · simp
    · have := splitK_len sep n (s.drop ((Lib.index s sep).toNat + sep.length))
      simp only [List.length_cons]
      omega
theorem split_le (s : List UInt8) (c : UInt8) : (Lib.split s [c]).length ≤ s.length + 1 := by
  unfold Lib.split
  rw [Lib.count_one]
  exact Nat.le_trans (splitK_len _ _ _) (Nat.succ_le_succ (List.count_le_length))
theorem fourN_lt : ∀ (xs : List (List UInt8)) (a : Nat), xs.all fourW = true → xs.foldl (fun a w => a * 256 + (numV w 3).toNat) a < (a + 1) * 256 ^ xs.length
  | [], a, _ => by simp
  | x :: xs, a, h => by
    simp only [List.all_cons, Bool.and_eq_true] at h
    have hx : (numV x 3).toNat ≤ 255 := by
      have := h.1
      simp [fourW] at this
      omega
    have ih := fourN_lt xs (a * 256 + (numV x 3).toNat) h.2
    simp only [List.foldl_cons, List.length_cons]
    refine Nat.lt_of_lt_of_le ih ?_
    rw [Nat.pow_succ, Nat.mul_comm (256 ^ xs.length) 256, ← Nat.mul_assoc]
    exact Nat.mul_le_mul_right _ (by omega)
theorem fourF_lt {s : List UInt8} {n : Nat} (h : fourF s = some n) : n < 4294967296 := by
  unfold fourF at h
  split at h
  · rename_i hc
    injection h with h
    have := fourN_lt _ 0 hc.2
    rw [hc.1] at this
    have e : (0 + 1) * 256 ^ 4 = 4294967296 := by decide
    unfold fourN at h
    omega
  · cases h
/-- What groups hands out. -/
def GrOut (w : World) (r : Option (List Nat)) (e : Ending) (w' : World) : Prop := ∃ v, e = .returned (.tuple #[v, .bool r.isSome]) ∧ Below w.heap.size w w' ∧ ∀ xs, r = some xs → U64sOwn w' w.heap.size v xs
theorem infoU64 : (Tryz.prog.info? 26).map (fun i => (i.zero, i.size, i.bytes)) = some (some (.int .u64 0), 1, 8) := by kernel_rfl
theorem own_base9 {w : World} {base base' : Nat} {e : TypeId} {size : Nat} {v : Value} {n : Nat} {xs : List Value} (h : w.ownsRow base e size v n xs) (hb : base' ≤ base) : w.ownsRow base' e size v n xs := by
  refine ⟨h.1, ?_⟩
  rcases h.2 with h1 | ⟨g, cap, cur, h1, h2, h3⟩
  · exact .inl h1
  · exact .inr ⟨g, cap, cur, h1, Nat.le_trans hb h2, h3⟩
theorem u64_next {w0 w w4 : World} {p : Obj} {acc news : List Nat} {base m : Nat} {v v' : Value} (hB : w0.heap.size ≤ base) (ho : U64sOwn w base v acc) (hb : Below w0.heap.size w0 w) (hm : m = (acc ++ news).length)
    (ho4 : w4.ownsRow base 26 1 v' m ((acc.map fun n : Nat => Value.int .u64 (n : Int)) ++ (news.map fun n : Nat => Value.int .u64 (n : Int)))) (hg4 : (w.alloc p).grownBy w4 v.ownBlock) : U64sOwn w4 base v' (acc ++ news) ∧ Below w0.heap.size w0 w4 := by
  have hlt' := World.ownsRow.lt ho
  refine ⟨?_, (hb.alloc hb.size _).grown hg4 (hb.alloc hb.size _).size (fun j hj => by have := (hlt' j hj).1; omega)⟩
  unfold U64sOwn
  rw [List.map_append, ← hm]
  exact ho4
set_option maxRecDepth 100000 in
set_option maxHeartbeats 4000000 in
theorem groups_any (s : ByteArray) (last : Bool) (w : World) (V : NmVars w) (hs : s.size ≤ 100000) :
    Calls Tryz.prog 22 #[.string s, .bool last] w (GrOut w (groupsF s.data.toList last)) := by
  have hsl : s.toList = s.data.toList := ByteArray.toList_eq s
  by_cases h0 : s.data.toList = []
  · have he : s.toList.isEmpty = true := by rw [hsl, h0]; rfl
    have he2 : s.toList = [] := by rw [hsl, h0]
    have HF : Hid (groupsF s.data.toList last = some []) := Lib.hid (by unfold groupsF; rw [if_pos h0])
    clear hsl h0
    go_enter Tryz.func22, Tryz.ntmps22
    go_wp2_with fail
    go_ret2
    exact ⟨.slice none 0 0, by rw [HF.out]; rfl, Below.refl _ _, fun xs hx => by rw [HF.out] at hx; injection hx with hx; subst hx; exact World.ownsRow_nil _ _ _ _⟩
  · have he : s.toList.isEmpty = false := by
      rw [hsl]
      cases hc : s.data.toList with
      | nil => exact absurd hc h0
      | cons x l => rfl
    have HF : Hid (groupsF s.data.toList last = grF last (Lib.split s.data.toList [58])) := Lib.hid (by unfold groupsF; rw [if_neg h0])
    have hspl := split_any s 58 w V hs
    have HV := Lib.hid V
    obtain ⟨i0, hi0, hz0, hz1, hz2⟩ := info_parts infoU64
    have hwl : ∀ x ∈ Lib.split s.data.toList [58], x.length ≤ 100000 := fun x hx => by
      have h1 := splitK_le [58] _ _ _ hx
      have h2 : s.data.toList.length = s.size := Array.length_toList
      omega
    have hln : (Lib.split s.data.toList [58]).length ≤ 100001 := by
      have h := split_le s.data.toList 58
      have h2 : s.data.toList.length = s.size := Array.length_toList
      omega
    have HWL := Lib.hid hwl
    have HCL := Lib.hid (fun k hk => strs_cell (w := w) (Lib.split s.data.toList [58]) (k := k) hk)
    have hbl := heap_alloc_new w (.cells (((Lib.split s.data.toList [58]).map toB).map Value.string).toArray 9)
    have hB : Below w.heap.size w (w.alloc (.cells (((Lib.split s.data.toList [58]).map toB).map Value.string).toArray 9)) := (Below.refl _ _).alloc (Nat.le_refl _) _
    have hW1 : (w.alloc (.cells (((Lib.split s.data.toList [58]).map toB).map Value.string).toArray 9)).heap.size = w.heap.size + 1 := by rw [World.alloc]; simp
    generalize Lib.split s.data.toList [58] = l at *
    generalize (w.alloc (.cells ((l.map toB).map Value.string).toArray 9)) = W1 at *
    have HB := Lib.hid hB
    have lW := lt_of_block hbl
    have hww := hB.size
    clear hbl hB hwl hsl h0 V
    go_enter Tryz.func22, Tryz.ntmps22
    go_wp2_with fail
    refine hspl.mono ?_
    rintro e w' ⟨rfl, rfl⟩
    clear hspl
    go_wp2_with fail
    go_loopw [6, 8, 9, 10, 11, 12, 13, 20] (fun v6 _ _ _ _ _ _ v20 wr => ∃ (k : Nat) (acc : List Nat), k ≤ l.length ∧ v20 = .int .i64 k ∧ acc.length = k ∧ Hid (grF last l = (grF last (l.drop k)).map (acc ++ ·)) ∧ Hid (U64sOwn wr (w.heap.size + 1) v6 acc) ∧ Hid (Below w'.heap.size w' wr)) (fun _ _ _ _ _ _ _ v20 _ => l.length - (intOf v20).toNat)
    case atStart => exact ⟨0, [], by omega, rfl, rfl, Lib.hid (by simp), Lib.hid (World.ownsRow_nil _ _ _ _), Lib.hid (Below.refl _ _)⟩
    case round =>
      obtain ⟨k, acc, hk, rfl, hacc, HN, HO, HBR⟩ := hrel
      have HACC := Lib.hid hacc
      clear hacc
      by_cases hlt : k < l.length
      · have d1 : decide ((k : Int) < (l.length : Int)) = true := by simp; omega
        have hki : (k : Int) < (l.length : Int) := by omega
        have c0 : wr.cell? ⟨w.heap.size, k, none⟩ = some (.string (toB (l.getD k []))) := (HBR.out.cell (p := ⟨w.heap.size, k, none⟩) lW).trans (HCL.out k hlt)
        have hmem : l.getD k [] ∈ l := by
          rw [List.getD_eq_getElem?_getD, List.getElem?_eq_getElem hlt]
          exact List.getElem_mem _
        have hxl := HWL.out _ hmem
        have HS1 : Hid (∀ b, (last && decide (k + 1 = l.length) && Lib.contains (l.getD k []) [46]) = b → b = false → grW (l.getD k []) = true → grF last l = (grF last (l.drop (k + 1))).map ((acc ++ [hexP2 (l.getD k [])]) ++ ·)) := Lib.hid (fun b h1 h2 h3 => grF_step hlt HN.out (by rw [h1, h2]) h3)
        have HS2 : Hid (∀ b, (last && decide (k + 1 = l.length) && Lib.contains (l.getD k []) [46]) = b → b = false → grW (l.getD k []) = false → grF last l = none) := Lib.hid (fun b h1 h2 h3 => grF_none hlt HN.out (by rw [h1, h2]) h3)
        have HS3 : Hid (∀ b, (last && decide (k + 1 = l.length) && Lib.contains (l.getD k []) [46]) = b → b = true → grF last l = ((fourF (l.getD k [])).map (fun n => acc ++ [n / 65536, n % 65536]))) := Lib.hid (fun b h1 h2 => grF_four hlt HN.out (by rw [h1, h2]))
        generalize l.getD k [] = x at c0 hxl HS1 HS2 HS3
        clear hmem
        obtain ⟨cv, hcv⟩ : ∃ cv : Bool, (last && decide (k + 1 = l.length) && Lib.contains x [46]) = cv := ⟨_, rfl⟩
        have HCV := Lib.hid hcv
        obtain ⟨m, hm⟩ := ((HV.out.below HB.out (Nat.le_refl _)).below HBR.out (Nat.le_refl _)).mx
        have hsx : (toB x).size = x.length := List.size_toArray
        have hct := Tryz.strings_Contains (toB x) ⟨#[46]⟩ m wr (by omega) hm
        rw [toB_data, show (⟨#[46]⟩ : ByteArray).data.toList = [46] from rfl] at hct
        obtain ⟨cb, hcb⟩ : ∃ cb : Bool, Lib.contains x [46] = cb := ⟨_, rfl⟩
        rw [hcb] at hct hcv
        have HSX := Lib.hid hsx
        have HCB := Lib.hid hcb
        have s1 : IntKind.i64.wrap ((l.length : Int) - 1) = (l.length : Int) - 1 := IntWalk.i64_in _ (by omega)
        clear hsx hcb hm
        go_upto_region 8 with (fail)
        go_cut [36] from 25 to 36 (fun v36 wc => v36 = .bool cv ∧ wc = wr)
        case first =>
          cases last
          · have hcv' : false = cv := by rw [← hcv]; rfl
            have HCV' := Lib.hid hcv'
            clear hcv hcv'
            go_wp2_with fail
            go_meet
            exact ⟨by rw [← HCV'.out], rfl⟩
          · by_cases hkl : k + 1 = l.length
            · have e1 : ((k : Int) == (l.length : Int) - 1) = true := by simp; omega
              have hcv' : cb = cv := by rw [← hcv]; simp [hkl]
              have HCV' := Lib.hid hcv'
              have HKL := Lib.hid hkl
              clear hcv hcv' hkl
              go_wp2_with fail
              refine hct.mono ?_
              rintro e w9 ⟨rfl, rfl⟩
              go_wp2_with fail
              go_meet
              exact ⟨by rw [HCV'.out], rfl⟩
            · have e1 : ((k : Int) == (l.length : Int) - 1) = false := by simp; omega
              have hcv' : false = cv := by rw [← hcv]; simp [hkl]
              have HCV' := Lib.hid hcv'
              clear hcv hcv'
              go_wp2_with fail
              go_meet
              exact ⟨by rw [← HCV'.out], rfl⟩
        case rest =>
        obtain ⟨rfl, hwc⟩ := hcut
        subst hwc
        obtain ⟨wr, rfl⟩ : ∃ z : World, z = wc := ⟨_, rfl⟩
        clear hcv hct
        cases cv
        · have hne := HSX.out
          by_cases hg : grW x = true
          · have HS1' := Lib.hid (HS1.out false HCV.out rfl hg)
            simp [grW] at hg
            obtain ⟨⟨g1, g2⟩, g3⟩ := hg
            have hx1 : 1 ≤ x.length := List.length_pos_iff.2 g1
            have htr := trim_calls (toB x) hexSet wr (by rw [HSX.out]; unfold maxLen; omega) (by decide) (by
              intro j b hb
              have hall : hexSet.data.toList.all (fun b => decide (b.toNat < 128)) = true := by decide
              exact of_decide_eq_true (List.all_eq_true.1 hall b (List.mem_of_getElem? hb)))
            have hti : (Lib.trimS (toB x).data.toList hexSet.data.toList).isEmpty = true := by
              rw [trim_nil, toB_data, hexSet_all, List.all_eq_true]
              exact g3
            have hpar := fun W => parse16 x hx1 g2 g3 W
            obtain ⟨n, hn⟩ : ∃ n, hexP2 x = n := ⟨_, rfl⟩
            rw [hn] at hpar HS1'
            have hxe : (toB x).toList.isEmpty = false := by
              rw [ByteArray.toList_eq, toB_data]
              cases x with
              | nil => exact absurd rfl g1
              | cons a b => rfl
            have hxz : decide (((toB x).size : Int) > 4) = false := by rw [HSX.out]; simp; omega
            have hxz2 : decide ((4 : Int) < ((toB x).size : Int)) = false := by rw [HSX.out]; simp; omega
            have hxz3 : decide (4 < (toB x).size) = false := by rw [HSX.out]; simp; omega
            generalize toB x = xb at *
            obtain ⟨tb, htb⟩ : ∃ tb : ByteArray, (⟨(Lib.trimS xb.data.toList hexSet.data.toList).toArray⟩ : ByteArray) = tb := ⟨_, rfl⟩
            have htl : tb.toList = [] := by
              rw [← htb, ByteArray.toList_eq]
              exact List.isEmpty_iff.1 hti
            have htl2 : tb.toList.isEmpty = true := by rw [htl]; rfl
            rw [htb] at htr
            clear hti htb hn g1 g3 hne
            go_wp2_with fail
            refine htr.mono ?_
            rintro e w9 ⟨rfl, hb9⟩
            have HB9 := Lib.hid (HBR.out.trans (hb9.mono HBR.out.size))
            have HO9 := Lib.hid (own_below HO.out hb9 (Nat.le_refl _))
            clear hb9 htr
            go_wp2_with fail
            refine (hpar w9).mono ?_
            rintro e w10 ⟨rfl, hb10⟩
            have HB10 := Lib.hid (HB9.out.trans (hb10.mono HB9.out.size))
            have HO10 : Hid (U64sOwn w10 (w.heap.size + 1) u6 acc) := Lib.hid (own_below HO9.out hb10 (Nat.le_refl _))
            have hsz10 := HB10.out.size
            have hal := HACC.out
            clear hb10 hpar
            go_wp2_with (at_builtin; refine wpList_append_own _ rfl (.tmp 69) (.tmp 71) 45 rfl (w.heap.size + 1) 26 i0 (.int .u64 0) 1 8 Tryz.underlying45 hi0 hz0 hz1 hz2 rfl (by decide) _ _ _ rfl (World.ownsRow.alloc HO10.out _) ⟨w10.heap.size, 0, none⟩ 1 1 [.int .u64 n] rfl rfl (cells_new w10 [.int .u64 n] _) (by simp [Value.oneCell']) (by unfold maxLen; first | omega | (simp; omega)) (by first | omega | (simp; omega)) (by first | omega | (simp; omega) | simp) ?_)
            intro v' w4 ho4 hg4 _
            have HREL := Lib.hid (u64_next (acc := acc) (news := [n]) (by omega) HO10.out HB10.out (by simp; omega) ho4 hg4)
            clear ho4 hg4 htl htl2 hxe hxz hxz2 hxz3
            go_wp2_with fail
            exact ⟨⟨k + 1, acc ++ [n], by omega, by simp, by simp; omega, HS1', Lib.hid HREL.out.1, Lib.hid HREL.out.2⟩, by simp [intOf]; omega⟩
          · have hg' : grW x = false := by simpa using hg
            have HR : Hid (groupsF s.data.toList last = none) := Lib.hid (by rw [HF.out, HS2.out false HCV.out rfl hg'])
            by_cases g1 : x = []
            · have hxe : (toB x).toList.isEmpty = true := by rw [ByteArray.toList_eq, toB_data, g1]; rfl
              have hxe2 : (toB x).toList = [] := by rw [ByteArray.toList_eq, toB_data, g1]
              clear hg hg' g1 hne
              generalize toB x = xb at *
              go_wp2_with fail
              go_ret2
              exact ⟨_, by rw [HR.out]; rfl, HB.out.trans (HBR.out.mono HB.out.size), fun xs hx => by rw [HR.out] at hx; cases hx⟩
            · have hxe : (toB x).toList.isEmpty = false := by
                rw [ByteArray.toList_eq, toB_data]
                cases x with
                | nil => exact absurd rfl g1
                | cons a b => rfl
              by_cases g2 : x.length ≤ 4
              · have hxz : decide (((toB x).size : Int) > 4) = false := by rw [HSX.out]; simp; omega
                have hxz2 : decide ((4 : Int) < ((toB x).size : Int)) = false := by rw [HSX.out]; simp; omega
                have hxz3 : decide (4 < (toB x).size) = false := by rw [HSX.out]; simp; omega
                have htr := trim_calls (toB x) hexSet wr (by rw [HSX.out]; unfold maxLen; omega) (by decide) (by
                  intro j b hb
                  have hall : hexSet.data.toList.all (fun b => decide (b.toNat < 128)) = true := by decide
                  exact of_decide_eq_true (List.all_eq_true.1 hall b (List.mem_of_getElem? hb)))
                have hti : (Lib.trimS (toB x).data.toList hexSet.data.toList).isEmpty = false := by
                  rw [trim_nil, toB_data, hexSet_all]
                  have hx0 : x.isEmpty = false := by
                    cases x with
                    | nil => exact absurd rfl g1
                    | cons a b => rfl
                  unfold grW at hg'
                  rw [hx0, decide_eq_true g2] at hg'
                  simpa using hg'
                clear hg hg' g1 g2 hne
                generalize toB x = xb at *
                obtain ⟨tb, htb⟩ : ∃ tb : ByteArray, (⟨(Lib.trimS xb.data.toList hexSet.data.toList).toArray⟩ : ByteArray) = tb := ⟨_, rfl⟩
                have htl2 : tb.toList.isEmpty = false := by rw [← htb, ByteArray.toList_eq]; exact hti
                rw [htb] at htr
                clear hti htb
                go_wp2_with fail
                refine htr.mono ?_
                rintro e w9 ⟨rfl, hb9⟩
                have HB9 := Lib.hid (HB.out.trans ((HBR.out.trans (hb9.mono HBR.out.size)).mono HB.out.size))
                clear hb9 htr
                go_wp2_with fail
                go_ret2
                exact ⟨_, by rw [HR.out]; rfl, HB9.out, fun xs hx => by rw [HR.out] at hx; cases hx⟩
              · have hxz : decide (((toB x).size : Int) > 4) = true := by rw [HSX.out]; simp; omega
                have hxz2 : decide ((4 : Int) < ((toB x).size : Int)) = true := by rw [HSX.out]; simp; omega
                have hxz3 : decide (4 < (toB x).size) = true := by rw [HSX.out]; simp; omega
                clear hg hg' g1 hne
                generalize toB x = xb at *
                go_wp2_with fail
                go_ret2
                exact ⟨_, by rw [HR.out]; rfl, HB.out.trans (HBR.out.mono HB.out.size), fun xs hx => by rw [HR.out] at hx; cases hx⟩
        · have hfa := four_any (toB x) wr ((HV.out.below HB.out (Nat.le_refl _)).below HBR.out (Nat.le_refl _)) (by rw [HSX.out]; omega)
          rw [toB_data] at hfa
          obtain ⟨N, hN⟩ : ∃ N, (fourF x).getD 0 = N := ⟨_, rfl⟩
          have hNlt : N < 4294967296 := by
            rw [← hN]
            cases h : fourF x with
            | none => exact (by decide)
            | some n => exact fourF_lt h
          obtain ⟨b, hb⟩ : ∃ b, (fourF x).isSome = b := ⟨_, rfl⟩
          have HR : Hid (groupsF s.data.toList last = if b = true then some (acc ++ [N / 65536, N % 65536]) else none) := Lib.hid (by
            rw [HF.out, HS3.out true HCV.out rfl, ← hb, ← hN]
            cases h : fourF x with
            | none => rfl
            | some n => rfl)
          rw [hN, hb] at hfa
          clear hN hb
          have m3 : bits .and .u64 (N : Int) 65535 = ((N % 65536 : Nat) : Int) := mask16_0 (by omega)
          generalize toB x = xb at *
          go_wp2_with fail
          refine hfa.mono ?_
          rintro e w9 ⟨rfl, hb9⟩
          have HB9 := Lib.hid (HBR.out.trans (hb9.mono HBR.out.size))
          have HO9 : Hid (U64sOwn w9 (w.heap.size + 1) u6 acc) := Lib.hid (own_below HO.out hb9 (Nat.le_refl _))
          have hsz9 := HB9.out.size
          have hal := HACC.out
          clear hb9 hfa
          go_wp2_with (at_builtin; refine wpList_append_own _ rfl (.tmp 42) (.tmp 47) 45 rfl (w.heap.size + 1) 26 i0 (.int .u64 0) 1 8 Tryz.underlying45 hi0 hz0 hz1 hz2 rfl (by decide) _ _ _ rfl (World.ownsRow.alloc HO9.out _) ⟨w9.heap.size, 0, none⟩ 2 2 [.int .u64 ((N / 65536 : Nat) : Int), .int .u64 ((N % 65536 : Nat) : Int)] rfl rfl (cells_new w9 [.int .u64 ((N / 65536 : Nat) : Int), .int .u64 ((N % 65536 : Nat) : Int)] _) (by simp [Value.oneCell']) (by unfold maxLen; first | omega | (simp; omega)) (by first | omega | (simp; omega)) (by first | omega | (simp; omega) | simp) ?_)
          intro v' w4 ho4 hg4 _
          have HREL := Lib.hid (u64_next (acc := acc) (news := [N / 65536, N % 65536]) (by omega) HO9.out HB9.out (by simp; omega) ho4 hg4)
          clear ho4 hg4
          go_wp2_with fail
          go_ret2
          exact ⟨_, by rw [HR.out]; cases b <;> rfl, HB.out.trans (HREL.out.2.mono HB.out.size), fun xs hx => by
            rw [HR.out] at hx
            cases b with
            | false => cases hx
            | true => injection hx with hx; subst hx; exact own_base9 HREL.out.1 (by omega)⟩
      · obtain rfl : k = l.length := by omega
        have d1 : decide ((l.length : Int) < (l.length : Int)) = false := by simp
        have HR : Hid (groupsF s.data.toList last = some acc) := Lib.hid (by rw [HF.out, HN.out]; simp [grF])
        clear hlt
        go_wp2_with fail
        go_ret2
        exact ⟨_, by rw [HR.out]; rfl, HB.out.trans (HBR.out.mono HB.out.size), fun xs hx => by rw [HR.out] at hx; injection hx with hx; subst hx; exact own_base9 HO.out (by omega)⟩
end Go.Proofs.YtcicednopgpjfaaGreatDoor
