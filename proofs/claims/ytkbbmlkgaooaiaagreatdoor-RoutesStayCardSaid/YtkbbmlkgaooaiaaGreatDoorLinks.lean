/- The links that a stream hands out. -/
import Derived.Test.YtkbbmlkgaooaiaaGreatDoorLk
import Derived.Test.YtkbbmlkgaooaiaaGreatDoorOdd
import Derived.Test.YtkbbmlkgaooaiaaGreatDoorSome
namespace Go.Proofs.YtkbbmlkgaooaiaaGreatDoor
open Go.RowKit Go.Hw

def towns : List ByteArray := [⟨#[102, 114, 97]⟩, ⟨#[108, 111, 110]⟩, ⟨#[110, 121, 99]⟩, ⟨#[115, 121, 100]⟩, ⟨#[116, 111, 107]⟩]
def town (i : Nat) : ByteArray := towns.getD i ByteArray.empty
def townPairs : List (Nat × Nat) := [(0, 1), (0, 2), (0, 3), (0, 4), (1, 2), (1, 3), (1, 4), (2, 3), (2, 4), (3, 4)]
def pairNo (i j : Nat) : Nat := [0, 4, 7, 9, 10, 10].getD i 10 + j
theorem pair_at : ∀ i, i < 5 → ∀ j, j < 4 - i → townPairs[pairNo i j]? = some (i, i + 1 + j) := by decide
theorem pair_next : ∀ i, i < 5 → pairNo i (4 - i) = pairNo (i + 1) 0 := by decide
def linkStep (l : List Int) (s : List Lk × Int) (p : Nat × Nat) : List Lk × Int :=
  if drawOf l s.2 3 == 0 then (s.1, s.2 + 1) else (s.1 ++ [⟨town p.1, town p.2, [0, 5, 5, 10, 15, 90].getD (drawOf l (s.2 + 1) 6).toNat 0⟩], s.2 + 2)
def linksTo (l : List Int) (at_ : Int) (t : Nat) : List Lk × Int := (townPairs.take t).foldl (linkStep l) ([], at_)
theorem linksTo_succ (l : List Int) (at_ : Int) (t : Nat) (p : Nat × Nat) (h : townPairs[t]? = some p) : linksTo l at_ (t + 1) = linkStep l (linksTo l at_ t) p := by
  unfold linksTo
  obtain ⟨h1, h2⟩ := List.getElem?_eq_some_iff.1 h
  rw [List.take_succ_eq_append_getElem h1, List.foldl_append, h2]
  rfl
theorem linkStep_bound (l : List Int) (s : List Lk × Int) (p : Nat × Nat) : s.2 + 1 ≤ (linkStep l s p).2 ∧ (linkStep l s p).2 ≤ s.2 + 2 ∧ s.1.length ≤ (linkStep l s p).1.length ∧ (linkStep l s p).1.length ≤ s.1.length + 1 := by
  unfold linkStep
  split <;> simp
theorem linksTo_bound (l : List Int) (at_ : Int) : ∀ t, at_ ≤ (linksTo l at_ t).2 ∧ (linksTo l at_ t).2 ≤ at_ + 2 * t ∧ (linksTo l at_ t).1.length ≤ t
  | 0 => by simp [linksTo]
  | t + 1 => by
    have ih := linksTo_bound l at_ t
    cases h : townPairs[t]? with
    | none =>
      have hl : townPairs.length ≤ t := List.getElem?_eq_none_iff.1 h
      have : linksTo l at_ (t + 1) = linksTo l at_ t := by unfold linksTo; rw [List.take_of_length_le hl, List.take_of_length_le (by omega)]
      rw [this]; omega
    | some p =>
      rw [linksTo_succ l at_ t p h]
      have := linkStep_bound l (linksTo l at_ t) p
      omega

theorem Tryz.infoLink : (Tryz.prog.info? 64).map (fun i => (i.zero, i.size, i.bytes)) = some (some (.agg #[.string ⟨#[]⟩, .string ⟨#[]⟩, .int .i64 0]), 3, 40) := by kernel_rfl

theorem pairNo_le : ∀ k, k < 5 → ∀ t, t < 4 - k → pairNo k t ≤ 10 := by decide
/-- What holds behind t pairs. -/
def LinksAt (w0 wr : World) (b : Nat) (A : Option Addr) (cap : Nat) (l : List Int) (at_ : Int) (t : Nat) (v : Value) : Prop :=
  wr.ownsRow w0.heap.size 64 3 v (linksTo l at_ t).1.length (lksCells (linksTo l at_ t).1) ∧ Str wr b A cap l (linksTo l at_ t).2 ∧ w0.grownBy wr (some b)
def townBlock : Obj := .cells #[.string ⟨#[102, 114, 97]⟩, .string ⟨#[108, 111, 110]⟩, .string ⟨#[110, 121, 99]⟩, .string ⟨#[115, 121, 100]⟩, .string ⟨#[116, 111, 107]⟩] 9
theorem LinksAt.towns {w wr : World} {b : Nat} {A : Option Addr} {cap : Nat} {l : List Int} {at_ : Int} {t : Nat} {v : Value} (h : LinksAt (w.alloc townBlock) wr b A cap l at_ t v) (hb : b < w.heap.size) :
    ∀ k, k < 5 → wr.cell? ⟨w.heap.size, k, none⟩ = some (.string (town k)) := by
  intro k hk
  have h1 := h.2.2.block w.heap.size (by simp) (by intro e; injection e; omega)
  rw [World.cell?_of_block (w := w.alloc townBlock) h1]
  have h2 : ∀ k, k < 5 → (w.alloc townBlock).cell? ⟨w.heap.size, k, none⟩ = some (.string (town k)) := by
    intro k hk
    have : k = 0 ∨ k = 1 ∨ k = 2 ∨ k = 3 ∨ k = 4 := by omega
    rcases this with rfl | rfl | rfl | rfl | rfl <;> (simp only [World.cell?, heap_alloc_new]; rfl)
  exact h2 k hk

/-- What the stream's links are. -/
def linksOf (l : List Int) (at_ : Int) : List Lk × Int :=
  if drawOf l (linksTo l at_ 10).2 20 == 0 then
    ((linksTo l at_ 10).1 ++ [⟨([⟨#[]⟩, ⟨#[102, 114, 97]⟩, ⟨#[122, 122]⟩] : List ByteArray).getD (drawOf l ((linksTo l at_ 10).2 + 1) 3).toNat ByteArray.empty,
      ([⟨#[102, 114, 97]⟩, ⟨#[122, 122, 122]⟩] : List ByteArray).getD (drawOf l ((linksTo l at_ 10).2 + 2) 2).toNat ByteArray.empty, oddOf l ((linksTo l at_ 10).2 + 3) 0 1000000⟩], (linksTo l at_ 10).2 + 5)
  else ((linksTo l at_ 10).1, (linksTo l at_ 10).2 + 1)
def LinksOut (w w' : World) (b : Nat) (A : Option Addr) (cap : Nat) (l : List Int) (st : List Lk × Int) (v : Value) : Prop :=
  w'.ownsRow w.heap.size 64 3 v st.1.length (lksCells st.1) ∧ Str w' b A cap l st.2 ∧ w.grownBy w' (some b)

set_option maxRecDepth 100000 in
set_option maxHeartbeats 1000000 in
theorem links_any (b : Nat) (A : Option Addr) (cap : Nat) (l : List Int) (at_ : Int) (w : World) (h : Str w b A cap l at_) (hh : at_ < 1099511627000) :
    Calls Tryz.prog 7 #[.pointer (some ⟨b, 0, none⟩)] w fun e w' => ∃ v : Value, e = .returned v ∧ LinksOut w w' b A cap l (linksOf l at_) v := by
  have hlt := h.lt
  obtain ⟨i0, hi, hz0, hz1, hz2⟩ := info_parts Tryz.infoLink
  go_enter Tryz.func7, Tryz.ntmps7
  go_wp2_with fail
  go_loopw [4, 12] (fun v i wr => ∃ k : Nat, k ≤ 5 ∧ i = .int .i64 k ∧ LinksAt (w.alloc townBlock) wr b A cap l at_ (pairNo k 0) v) (fun _ i _ => 5 - (intOf i).toNat)
  case atStart => exact ⟨0, by omega, rfl, World.ownsRow_nil _ _ _ _, h.alloc _, World.grownBy.refl _ _⟩
  case round =>
    obtain ⟨k, hk, rfl, hrel⟩ := hrel
    have hc := hrel.towns hlt
    by_cases hk5 : k < 5
    · have hck := hc k hk5
      clear hc
      by_cases hk4 : k = 4
      · subst hk4
        go_wp2_with fail
        refine wp_loop_rounds 1 ?_
        rw [rounds_succ]
        go_wp2_with fail
        go_roundw
        case rel => exact ⟨5, by omega, by go_num, hrel⟩
        case measure => simp [intOf]
      · have hro := hrel
        clear hrel
        obtain ⟨wo, rfl⟩ : ∃ wo : World, wo = wr := ⟨_, rfl⟩
        have hd : decide ((k : Int) < 5) = true := by simp; omega
        go_wp2_with fail
        go_loopw [4, 22] (fun v j wi => ∃ t : Nat, t ≤ 4 - k ∧ j = .int .i64 t ∧ LinksAt (w.alloc townBlock) wi b A cap l at_ (pairNo k t) v) (fun _ j _ => (4 - k) - (intOf j).toNat)
        case atStart => exact ⟨0, by omega, rfl, hro⟩
        case round =>
          obtain ⟨t, ht, rfl, hrel⟩ := hrel
          clear hck hro
          have hc := hrel.towns hlt
          by_cases htk : t < 4 - k
          · have hct : wr.cell? ⟨w.heap.size, k + 1 + t, none⟩ = some (.string (town (k + 1 + t))) := hc _ (by omega)
            clear hc
            have hstep := linksTo_succ l at_ _ _ (pair_at k hk5 t htk)
            obtain ⟨ho, hs, hg⟩ := hrel
            have hbd := linksTo_bound l at_ (pairNo k t)
            have hpn : pairNo k t ≤ 10 := pairNo_le k hk5 t htk
            generalize linksTo l at_ (pairNo k t) = st at *
            have HS := Lib.hid hstep
            clear hstep
            cases hx : drawOf l st.2 3 == 0
            · have HS2 : Hid (linksTo l at_ (pairNo k (t + 1)) = (st.1 ++ [⟨town k, town (k + 1 + t), [0, 5, 5, 10, 15, 90].getD (drawOf l (st.2 + 1) 6).toNat 0⟩], st.2 + 2)) := Lib.hid (HS.out.trans (by unfold linkStep; rw [hx]; rfl))
              go_wp2_with fail
              refine (flip_any b A cap l _ _ _ hs (by omega) (by omega) (by omega)).mono ?_
              rintro e w1 ⟨rfl, hs1, hg1⟩
              have ho1 := ho.kept hg1 (.inr (own_ne ho (by simp; omega)))
              clear hs ho
              go_wp2_with fail
              refine (pick_any b A cap l _ _ (hs1.alloc _) (by omega) w1.heap.size [0, 5, 5, 10, 15, 90] (by rw [heap_alloc_new]; rfl) (by have := hs1.lt; omega) (by simp) (by simp) 6 6 rfl).mono ?_
              rintro e w2 ⟨rfl, hs2, hg2⟩
              have ho2 := (ho1.alloc (.cells #[.int .i64 0, .int .i64 5, .int .i64 5, .int .i64 10, .int .i64 15, .int .i64 90] 3)).kept hg2 (.inr (own_ne ho1 (by simp; omega)))
              have hg3 := (hg.andThen hg1 (fun _ h => .inr h)).andThen (grown_alloc_then hg2) (fun _ h => .inr h)
              clear hs1 ho1 hg hg1 hg2
              generalize hpk : ([0, 5, 5, 10, 15, 90] : List Int).getD (drawOf l (st.2 + 1) (([0, 5, 5, 10, 15, 90] : List Int).length : Int)).toNat 0 = pk
              have HS3 : Hid (linksTo l at_ (pairNo k (t + 1)) = (st.1 ++ [⟨town k, town (k + 1 + t), pk⟩], st.2 + 2)) := Lib.hid (by rw [← hpk]; exact HS2.out)
              clear HS2 hpk HS hx
              go_wp2_with (at_builtin; refine wpList_append_own _ rfl (.tmp 29) (.tmp 36) 32 rfl (w.alloc townBlock).heap.size 64 i0 (.agg #[.string ⟨#[]⟩, .string ⟨#[]⟩, .int .i64 0]) 3 40 Tryz.underlying32 hi hz0 hz1 hz2 rfl (by decide) _ _ _ rfl (ho2.alloc _) ⟨w2.heap.size, 0, none⟩ 1 1 [.string (town k), .string (town (k + 1 + t)), .int .i64 pk] rfl rfl ?c1 ?c2 ?c3 ?c4 ?c5 ?_)
              case c1 => exact cells_new w2 [.string (town k), .string (town (k + 1 + t)), .int .i64 pk] _
              case c2 => simp [Value.oneCell']
              case c3 => unfold maxLen; omega
              case c4 => omega
              case c5 => have := hg3.size; simp at this ⊢; omega
              intro v' w3 ho3 hg4 _
              have hs3 := (hs2.alloc (.cells #[.string (town k), .string (town (k + 1 + t)), .int .i64 pk] 64)).grown hg4 (fun j hj => by have := (ho2.lt j hj).1; simp at this; omega)
              have hg5 := hg3.andThen ((World.grownBy_alloc w2 (.cells #[.string (town k), .string (town (k + 1 + t)), .int .i64 pk] 64) _).andThen hg4 (fun _ h => .inr h)) (fun j hj => .inl (ho2.lt j hj).1)
              clear ho2 hs2 hg3 hg4
              go_wp2_with fail
              go_roundw
              case rel => exact ⟨t + 1, by omega, by go_num, by unfold LinksAt; rw [HS3.out]; exact ⟨by simpa [lks_snoc, lkCells] using ho3, by simpa [Int.add_assoc] using hs3, hg5⟩⟩
              case measure => simp [intOf]; omega
            · have HS2 : Hid (linksTo l at_ (pairNo k (t + 1)) = (st.1, st.2 + 1)) := Lib.hid (HS.out.trans (by unfold linkStep; rw [hx]; rfl))
              go_wp2_with fail
              refine (flip_any b A cap l _ _ _ hs (by omega) (by omega) (by omega)).mono ?_
              rintro e w1 ⟨rfl, hs1, hg1⟩
              have ho1 := ho.kept hg1 (.inr (own_ne ho (by simp; omega)))
              clear hs ho
              go_wp2_with fail
              go_roundw
              case rel => exact ⟨t + 1, by omega, by go_num, by unfold LinksAt; rw [HS2.out]; exact ⟨ho1, hs1, hg.andThen hg1 (fun _ h => .inr h)⟩⟩
              case measure => simp [intOf]; omega
          · clear hc
            have : t = 4 - k := by omega
            subst this
            rw [pair_next k hk5] at hrel
            go_wp2_with fail
            go_roundw
            case rel => exact ⟨k + 1, by omega, by go_num, hrel⟩
            case measure => simp [intOf]; omega
    · clear hc
      have : k = 5 := by omega
      subst this
      have hbd := linksTo_bound l at_ 10
      have hfin : linksOf l at_ = linksOf l at_ := rfl
      conv at hfin => rhs; unfold linksOf
      have HF := Lib.hid hfin
      clear hfin
      obtain ⟨ho, hs, hg⟩ := hrel
      rw [show pairNo 5 0 = 10 from rfl] at ho hs
      generalize linksTo l at_ 10 = st at *
      cases hx : drawOf l st.2 20 == 0
      · have HF2 : Hid (linksOf l at_ = (st.1, st.2 + 1)) := Lib.hid (HF.out.trans (by simp only [hx]; rfl))
        clear HF
        go_wp2_with fail
        refine (flip_any b A cap l _ _ _ hs (by omega) (by omega) (by omega)).mono ?_
        rintro e w1 ⟨rfl, hs1, hg1⟩
        have ho1 := ho.kept hg1 (.inr (own_ne ho (by simp; omega)))
        clear hs ho
        go_wp2_with fail
        go_ret
        refine ⟨_, rfl, ?_⟩
        rw [HF2.out]
        exact ⟨own_base ho1 (by simp), hs1, (grown_alloc_then hg).andThen hg1 (fun _ h => .inr h)⟩
      · generalize hq0 : ([⟨#[]⟩, ⟨#[102, 114, 97]⟩, ⟨#[122, 122]⟩] : List ByteArray).getD (drawOf l (st.2 + 1) 3).toNat ByteArray.empty = q0
        generalize hq1 : ([⟨#[102, 114, 97]⟩, ⟨#[122, 122, 122]⟩] : List ByteArray).getD (drawOf l (st.2 + 2) 2).toNat ByteArray.empty = q1
        have HF2 : Hid (linksOf l at_ = (st.1 ++ [⟨q0, q1, oddOf l (st.2 + 3) 0 1000000⟩], st.2 + 5)) := Lib.hid (HF.out.trans (by rw [← hq0, ← hq1]; simp only [hx]; rfl))
        have HQ0 := Lib.hid hq0
        have HQ1 := Lib.hid hq1
        clear HF hq0 hq1
        go_wp2_with fail
        refine (flip_any b A cap l _ _ _ hs (by omega) (by omega) (by omega)).mono ?_
        rintro e w1 ⟨rfl, hs1, hg1⟩
        have ho1 := ho.kept hg1 (.inr (own_ne ho (by simp; omega)))
        have hg' := (grown_alloc_then hg).andThen hg1 (fun _ h => .inr h)
        clear hs ho hg hg1
        go_wp2_with fail
        clear hx
        refine (some_any b A cap l _ _ (hs1.alloc _) (by omega) w1.heap.size [⟨#[]⟩, ⟨#[102, 114, 97]⟩, ⟨#[122, 122]⟩] (by rw [heap_alloc_new]; rfl) (by have := hs1.lt; omega) (by simp) (by simp) 3 3 rfl).mono ?_
        rintro e w2 ⟨rfl, hs2, hg2⟩
        have ho2 := (ho1.alloc (.cells #[.string ⟨#[]⟩, .string ⟨#[102, 114, 97]⟩, .string ⟨#[122, 122]⟩] 9)).kept hg2 (.inr (own_ne ho1 (by simp; omega)))
        have hg'' := hg'.andThen (grown_alloc_then hg2) (fun _ h => .inr h)
        rw [show ((([⟨#[]⟩, ⟨#[102, 114, 97]⟩, ⟨#[122, 122]⟩] : List ByteArray).length : Nat) : Int) = 3 from rfl, HQ0.out]
        clear hs1 ho1 hg' hg2
        go_wp2_with fail
        refine (some_any b A cap l _ _ (hs2.alloc _) (by omega) w2.heap.size [⟨#[102, 114, 97]⟩, ⟨#[122, 122, 122]⟩] (by rw [heap_alloc_new]; rfl) (by have := hs2.lt; omega) (by simp) (by simp) 2 2 rfl).mono ?_
        rintro e w3 ⟨rfl, hs3, hg3⟩
        have ho3 := (ho2.alloc (.cells #[.string ⟨#[102, 114, 97]⟩, .string ⟨#[122, 122, 122]⟩] 9)).kept hg3 (.inr (own_ne ho2 (by simp; omega)))
        have hg4 := hg''.andThen (grown_alloc_then hg3) (fun _ h => .inr h)
        rw [show ((([⟨#[102, 114, 97]⟩, ⟨#[122, 122, 122]⟩] : List ByteArray).length : Nat) : Int) = 2 from rfl, show st.2 + 1 + 1 = st.2 + 2 from by omega, HQ1.out]
        rw [show st.2 + 1 + 1 + 1 = st.2 + 3 from by omega] at hs3
        clear hs2 ho2 hg'' hg3
        go_wp2_with fail
        refine (odd_any b A cap l _ 0 1000000 _ hs3 (by omega) (by omega) (by omega) (by omega)).mono ?_
        rintro e w4 ⟨rfl, hs4, hg5⟩
        have ho4 := ho3.kept hg5 (.inr (own_ne ho3 (by simp; omega)))
        have hg6 := hg4.andThen hg5 (fun _ h => .inr h)
        clear hs3 ho3 hg4 hg5
        generalize hod : oddOf l (st.2 + 3) 0 1000000 = od at *
        go_wp2_with (at_builtin; refine wpList_append_own _ rfl (.tmp 42) (.tmp 52) 32 rfl (w.alloc townBlock).heap.size 64 i0 (.agg #[.string ⟨#[]⟩, .string ⟨#[]⟩, .int .i64 0]) 3 40 Tryz.underlying32 hi hz0 hz1 hz2 rfl (by decide) _ _ _ rfl (ho4.alloc _) ⟨w4.heap.size, 0, none⟩ 1 1 [.string q0, .string q1, .int .i64 od] rfl rfl ?d1 ?d2 ?d3 ?d4 ?d5 ?_)
        case d1 => exact cells_new w4 [.string q0, .string q1, .int .i64 od] _
        case d2 => simp [Value.oneCell']
        case d3 => unfold maxLen; omega
        case d4 => omega
        case d5 => have := hg6.size; simp at this ⊢; omega
        intro v' w5 ho5 hg7 _
        have hs5 := (hs4.alloc (.cells #[.string q0, .string q1, .int .i64 od] 64)).grown hg7 (fun j hj => by have := (ho4.lt j hj).1; simp at this; omega)
        have hg8 := hg6.andThen ((World.grownBy_alloc w4 (.cells #[.string q0, .string q1, .int .i64 od] 64) _).andThen hg7 (fun _ h => .inr h)) (fun j hj => .inl (by have := (ho4.lt j hj).1; simp at this; omega))
        clear ho4 hs4 hg6 hg7
        go_wp2_with fail
        go_ret
        refine ⟨_, rfl, ?_⟩
        rw [HF2.out]
        exact ⟨own_base (by simpa [lks_snoc, lkCells] using ho5) (by simp), by simpa [Int.add_assoc] using hs5, hg8⟩
end Go.Proofs.YtkbbmlkgaooaiaaGreatDoor
