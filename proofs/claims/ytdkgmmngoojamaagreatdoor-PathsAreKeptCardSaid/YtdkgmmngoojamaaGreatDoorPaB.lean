/- The samples that a stream hands out. -/
import Derived.Test.YtdkgmmngoojamaaGreatDoorPaA
import Derived.Test.YtdkgmmngoojamaaGreatDoorLk
import Derived.Test.YtdkgmmngoojamaaGreatDoorOdd
import Derived.Test.YtdkgmmngoojamaaGreatDoorSome
namespace Go.Proofs.YtdkgmmngoojamaaGreatDoor
open Go.RowKit Go.Hw

theorem own_type_ne {w : World} {base : Nat} {e : TypeId} {size : Nat} {v : Value} {n : Nat} {xs : List Value} (h : w.ownsRow base e size v n xs) {B : Nat} {cs : Array Value} {T : TypeId} {fr : Nat × Nat}
    (hB : w.heap[B]? = some (.cells cs T fr)) (ht : T ≠ e) : v.ownBlock ≠ some B := by
  intro hv
  rcases h.2 with ⟨h1, _⟩ | ⟨g, cap, cur, h1, _, h2, _⟩
  · rw [h1] at hv; simp [Value.ownBlock] at hv
  · rw [h1] at hv
    simp [Value.ownBlock] at hv
    subst hv
    rw [h2] at hB
    injection hB with hB
    injection hB with _ h3 _
    exact ht h3.symm
theorem lt_blk {w : World} {B : Nat} {o : Obj} (h : w.heap[B]? = some o) : B < w.heap.size := (Array.getElem?_eq_some_iff.1 h).1
theorem blk_alloc {w : World} {B : Nat} {o : Obj} (h : w.heap[B]? = some o) (o' : Obj) : (w.alloc o').heap[B]? = some o := (Below.heap_alloc w o' B (lt_blk h)).trans h
theorem blk_grown {w w' : World} {B : Nat} {o : Obj} {row : Option Nat} (h : w.heap[B]? = some o) (hg : w.grownBy w' row) (hne : some B ≠ row) : w'.heap[B]? = some o := (hg.block B (lt_blk h) hne).trans h

def smCells (x : Smp) : List Value := [.int .i64 x.at_, .string x.path, .int .i64 x.ms]
def smsCells (xs : List Smp) : List Value := xs.flatMap smCells
theorem sms_snoc (xs : List Smp) (x : Smp) : smsCells (xs ++ [x]) = smsCells xs ++ smCells x := by simp [smsCells]
theorem Tryz.infoSample : (Tryz.prog.info? 93).map (fun i => (i.zero, i.size, i.bytes)) = some (some (.agg #[.int .i64 0, .string ⟨#[]⟩, .int .i64 0]), 3, 32) := by kernel_rfl
def pathN (i : Nat) : ByteArray := ([⟨#[112]⟩, ⟨#[113]⟩, ⟨#[114]⟩] : List ByteArray).getD i ByteArray.empty
def pathBlock : Obj := .cells #[.string ⟨#[112]⟩, .string ⟨#[113]⟩, .string ⟨#[114]⟩] 9
theorem path_cell {w : World} {B : Nat} (h : w.heap[B]? = some pathBlock) : ∀ k, k < 3 → w.cell? ⟨B, k, none⟩ = some (.string (pathN k)) := by
  intro k hk
  have : k = 0 ∨ k = 1 ∨ k = 2 := by omega
  unfold pathBlock at h
  rcases this with rfl | rfl | rfl <;> (simp only [World.cell?, h]; rfl)
theorem path_size (k : Nat) : (pathN k).size ≤ 1 := by
  rcases k with _ | _ | _ | k
  · decide
  · decide
  · decide
  · simp [pathN]
/-- What has been handed out: at most n samples, for at most m numbers. -/
def SmSt (w0 wr : World) (b : Nat) (A : Option Addr) (cap : Nat) (l : List Int) (at_ : Int) (n m : Nat) (v : Value) : Prop :=
  ∃ (xs : List Smp) (x : Int), wr.ownsRow w0.heap.size 93 3 v xs.length (smsCells xs) ∧ Str wr b A cap l x ∧ w0.grownBy wr (some b) ∧ xs.length ≤ n ∧ (at_ ≤ x ∧ x ≤ at_ + m) ∧ ∀ y ∈ xs, y.path.size ≤ 1
theorem SmSt.mk_ {w0 wr : World} {b : Nat} {A : Option Addr} {cap : Nat} {l : List Int} {at_ : Int} {n m : Nat} {v : Value} {k : Nat} {xs : List Smp} {x : Int} (h1 : wr.ownsRow w0.heap.size 93 3 v k (smsCells xs)) (hk : k = xs.length) (h2 : Str wr b A cap l x) (h3 : w0.grownBy wr (some b))
    (h4 : xs.length ≤ n) (h5 : at_ ≤ x) (h6 : x ≤ at_ + m) (h7 : ∀ y ∈ xs, y.path.size ≤ 1) : SmSt w0 wr b A cap l at_ n m v := ⟨xs, x, hk ▸ h1, h2, h3, h4, ⟨h5, h6⟩, h7⟩
theorem small_snoc {xs : List Smp} (h : ∀ y ∈ xs, y.path.size ≤ 1) {x : Smp} (hx : x.path.size ≤ 1) : ∀ y ∈ xs ++ [x], y.path.size ≤ 1 := by
  intro y hy
  rcases List.mem_append.1 hy with hy | hy
  · exact h y hy
  · simp at hy; subst hy; exact hx
theorem pick_in {vs : List Int} {P : Int → Prop} (h : ∀ v ∈ vs, P v) (h0 : P 0) (k : Nat) : P (vs.getD k 0) := by
  by_cases hk : k < vs.length
  · rw [List.getD_eq_getElem?_getD, List.getElem?_eq_getElem hk]; exact h _ (List.getElem_mem hk)
  · rw [List.getD_eq_getElem?_getD, List.getElem?_eq_none (by omega)]; exact h0

set_option maxRecDepth 100000 in
set_option maxHeartbeats 2000000 in
theorem samples_any (b : Nat) (A : Option Addr) (cap : Nat) (l : List Int) (at_ : Int) (w : World) (h : Str w b A cap l at_) (hh : at_ < 1099511627000) (many : Nat) (hmany : many ≤ 7) :
    Calls Tryz.prog 33 #[.pointer (some ⟨b, 0, none⟩), .int .i64 (many : Nat)] w fun e w' => ∃ v : Value, e = .returned v ∧ SmSt w w' b A cap l at_ 22 60 v := by
  have hlt := h.lt
  have hl0 := h.low
  obtain ⟨i0, hi, hz0, hz1, hz2⟩ := info_parts Tryz.infoSample
  have htne : 9 ≠ 93 := by decide
  have HTNE := Lib.hid htne
  clear htne
  go_enter Tryz.func33, Tryz.ntmps33
  go_wp2_with fail
  go_loopw [5, 6, 10] (fun v nw i wr => ∃ (k : Nat) (now : Int), k ≤ many ∧ i = .int .i64 k ∧ nw = .int .i64 now ∧ (0 ≤ now ∧ now ≤ 20 * k) ∧ SmSt w wr b A cap l at_ (3 * k) (7 * k) v) (fun _ _ i _ => many - (intOf i).toNat)
  case atStart => exact ⟨0, 0, by omega, rfl, rfl, by omega, SmSt.mk_ (xs := []) (World.ownsRow_nil _ _ _ _) rfl h (World.grownBy.refl _ _) (by simp) (by omega) (by omega) (by simp)⟩
  case round =>
    obtain ⟨k, now, hk, rfl, rfl, hnow, hrel⟩ := hrel
    by_cases hkm : k < many
    · obtain ⟨xs, x, ho, hs, hg, hxl, hxb, hxs⟩ := hrel
      have hnb := own_ne ho hlt
      have HXS := Lib.hid hxs
      clear hxs
      have hd : decide ((k : Int) < (many : Int)) = true := by simp; omega
      go_wp2_with fail
      refine (pick_any b A cap l _ _ (hs.alloc _) (by omega) wr.heap.size [1, 1, 5, 20] (by rw [heap_alloc_new]; rfl) (by have := hs.lt; omega) (by simp) (by simp) 4 4 rfl).mono ?_
      rintro e w1 ⟨rfl, hs1, hg1⟩
      have ho1 := (ho.alloc (.cells #[.int .i64 1, .int .i64 1, .int .i64 5, .int .i64 20] 3)).kept hg1 (.inr hnb)
      have hgg1 := hg.andThen (grown_alloc_then hg1) (fun _ h => .inr h)
      have hp := pick_in (vs := [1, 1, 5, 20]) (P := fun v => 0 ≤ v ∧ v ≤ 20) (by simp) (by simp) (drawOf l x (([1, 1, 5, 20] : List Int).length : Int)).toNat
      clear hs hg ho hg1
      generalize ([1, 1, 5, 20] : List Int).getD (drawOf l x (([1, 1, 5, 20] : List Int).length : Int)).toNat 0 = pk at *
      have hstart : SmSt w (w1.alloc pathBlock) b A cap l at_ (3 * k + 0) (7 * k + 1 + 2 * 0) _ := SmSt.mk_ (ho1.alloc pathBlock) rfl (hs1.alloc _) (hgg1.andThen (World.grownBy_alloc w1 pathBlock _) (fun _ h => .inr h)) (by omega) (by omega) (by omega) HXS.out
      have HSTART := Lib.hid hstart
      have hblk : (w1.alloc pathBlock).heap[w1.heap.size]? = some pathBlock := heap_alloc_new _ _
      have HBLK := Lib.hid hblk
      have hw1 : w.heap.size ≤ w1.heap.size := hgg1.size
      clear hstart hblk ho1 hs1 hgg1 HXS
      go_wp2_with fail
      go_loopw [5, 19] (fun v j wi => ∃ t : Nat, t ≤ 3 ∧ j = .int .i64 t ∧ SmSt w wi b A cap l at_ (3 * k + t) (7 * k + 1 + 2 * t) v ∧ wi.heap[w1.heap.size]? = some pathBlock) (fun _ j _ => 3 - (intOf j).toNat)
      case atStart => exact ⟨0, by omega, rfl, HSTART.out, HBLK.out⟩
      case round =>
        obtain ⟨t, ht, rfl, hrel, hblk⟩ := hrel
        clear HSTART HBLK
        by_cases htk : t < 3
        · obtain ⟨xs, x, ho, hs, hg, hxl, hxb, hxs⟩ := hrel
          have hct := path_cell hblk t htk
          have hps := path_size t
          have hnb := own_ne ho hlt
          have HXS := Lib.hid hxs
          have HBLK := Lib.hid hblk
          clear hxs hblk
          generalize pathN t = p at *
          cases hx : drawOf l x 2 == 0
          · go_wp2_with fail
            refine (flip_any b A cap l _ _ _ hs (by omega) (by omega) (by omega)).mono ?_
            rintro e w2 ⟨rfl, hs1, hg1⟩
            rw [hx]
            have hrow := SmSt.mk_ (n := 3 * k + (t + 1)) (m := 7 * k + 1 + 2 * (t + 1)) (at_ := at_) (ho.kept hg1 (.inr hnb)) rfl hs1 (hg.andThen hg1 (fun _ h => .inr h)) (by omega) (by omega) (by omega) HXS.out
            have hb2 := blk_grown HBLK.out hg1 (by intro e; injection e; omega)
            clear hs ho hg hg1 hs1
            go_wp2_with fail
            go_roundw
            case rel => exact ⟨t + 1, by omega, by go_num, hrow, hb2⟩
            case measure => simp [intOf]; omega
          · go_wp2_with fail
            refine (flip_any b A cap l _ _ _ hs (by omega) (by omega) (by omega)).mono ?_
            rintro e w2 ⟨rfl, hs1, hg1⟩
            rw [hx]
            have ho1 := ho.kept hg1 (.inr hnb)
            have hb1 := blk_grown HBLK.out hg1 (by intro e; injection e; omega)
            have hgg1 := hg.andThen hg1 (fun _ h => .inr h)
            clear hs ho hg hg1 HBLK hct
            go_wp2_with fail
            refine (pick_any b A cap l _ _ (hs1.alloc _) (by omega) w2.heap.size [-1, 3, 5, 8, 8, 12] (by rw [heap_alloc_new]; rfl) (by have := hs1.lt; omega) (by simp) (by simp) 6 6 rfl).mono ?_
            rintro e w3 ⟨rfl, hs2, hg2⟩
            have ho2 := (ho1.alloc (.cells #[.int .i64 (-1), .int .i64 3, .int .i64 5, .int .i64 8, .int .i64 8, .int .i64 12] 3)).kept hg2 (.inr hnb)
            have hb2 := blk_grown (blk_alloc hb1 (.cells #[.int .i64 (-1), .int .i64 3, .int .i64 5, .int .i64 8, .int .i64 8, .int .i64 12] 3)) hg2 (by intro e; injection e; omega)
            have hgg2 := hgg1.andThen (grown_alloc_then hg2) (fun _ h => .inr h)
            clear hs1 ho1 hb1 hgg1 hg2
            generalize ([-1, 3, 5, 8, 8, 12] : List Int).getD (drawOf l (x + 1) (([-1, 3, 5, 8, 8, 12] : List Int).length : Int)).toNat 0 = pm
            go_wp2_with (at_builtin; refine wpList_append_own _ rfl (.tmp 25) (.tmp 32) 87 rfl w.heap.size 93 i0 (.agg #[.int .i64 0, .string ⟨#[]⟩, .int .i64 0]) 3 32 Tryz.underlying87 hi hz0 hz1 hz2 rfl (by decide) _ _ _ rfl (ho2.alloc _) ⟨w3.heap.size, 0, none⟩ 1 1 [.int .i64 (now + pk), .string p, .int .i64 pm] rfl rfl ?c1 ?c2 ?c3 ?c4 ?c5 ?_)
            case c1 => exact cells_new w3 [.int .i64 (now + pk), .string p, .int .i64 pm] _
            case c2 => simp [Value.oneCell']
            case c3 => unfold maxLen; omega
            case c4 => omega
            case c5 => have := hgg2.size; simp at this ⊢; omega
            intro v' w4 ho3 hg4 _
            have hs3 := (hs2.alloc (.cells #[.int .i64 (now + pk), .string p, .int .i64 pm] 93)).grown hg4 (fun j hj => by have := (ho2.lt j hj).1; omega)
            have hg5 := hgg2.andThen ((World.grownBy_alloc w3 (.cells #[.int .i64 (now + pk), .string p, .int .i64 pm] 93) _).andThen hg4 (fun _ h => .inr h)) (fun j hj => .inl (ho2.lt j hj).1)
            have hb4 := blk_grown (blk_alloc hb2 (.cells #[.int .i64 (now + pk), .string p, .int .i64 pm] 93)) hg4 (by intro e; exact own_type_ne ho2 hb2 HTNE.out e.symm)
            have hrow := SmSt.mk_ (n := 3 * k + (t + 1)) (m := 7 * k + 1 + 2 * (t + 1)) (at_ := at_) (xs := xs ++ [⟨now + pk, p, pm⟩]) (v := v') (by rw [sms_snoc]; exact ho3) (by simp) hs3 hg5 (by simp; omega) (by omega) (by omega) (small_snoc HXS.out hps)
            clear ho2 hs2 hgg2 hg4 hg5 hs3 ho3 hb2
            go_wp2_with fail
            go_roundw
            case rel => exact ⟨t + 1, by omega, by go_num, hrow, hb4⟩
            case measure => simp [intOf]; omega
        · have : t = 3 := by omega
          subst this
          clear hblk
          go_wp2_with fail
          go_roundw
          case rel => exact ⟨k + 1, now + pk, by omega, by go_num, rfl, by omega, by rw [show 3 * (k + 1) = 3 * k + 3 from by omega, show 7 * (k + 1) = 7 * k + 1 + 2 * 3 from by omega]; exact hrel⟩
          case measure => simp [intOf]; omega
    · have : k = many := by omega
      subst this
      obtain ⟨xs, x, ho, hs, hg, hxl, hxb, hxs⟩ := hrel
      have hnb := own_ne ho hlt
      have HXS := Lib.hid hxs
      clear hxs
      cases hx : drawOf l x 20 == 0
      · go_wp2_with fail
        refine (flip_any b A cap l _ _ _ hs (by omega) (by omega) (by omega)).mono ?_
        rintro e w1 ⟨rfl, hs1, hg1⟩
        rw [hx]
        have hrow := SmSt.mk_ (n := 22) (m := 60) (at_ := at_) (ho.kept hg1 (.inr hnb)) rfl hs1 (hg.andThen hg1 (fun _ h => .inr h)) (by omega) (by omega) (by omega) HXS.out
        clear hs ho hg hg1 hs1
        go_wp2_with fail
        go_ret
        exact ⟨_, rfl, hrow⟩
      · go_wp2_with fail
        refine (flip_any b A cap l _ _ _ hs (by omega) (by omega) (by omega)).mono ?_
        rintro e w1 ⟨rfl, hs1, hg1⟩
        rw [hx]
        have ho1 := ho.kept hg1 (.inr hnb)
        have hgg1 := hg.andThen hg1 (fun _ h => .inr h)
        clear hs ho hg hg1 hx
        go_wp2_with fail
        refine (odd_any b A cap l _ 0 100 _ hs1 (by omega) (by omega) (by omega) (by omega)).mono ?_
        rintro e w2 ⟨rfl, hs2, hg2⟩
        have ho2 := ho1.kept hg2 (.inr hnb)
        have hgg2 := hgg1.andThen hg2 (fun _ h => .inr h)
        clear hs1 ho1 hgg1 hg2
        generalize oddOf l (x + 1) 0 100 = o1 at *
        go_wp2_with fail
        refine (some_any b A cap l _ _ (hs2.alloc _) (by omega) w2.heap.size [⟨#[]⟩, ⟨#[112]⟩] (by rw [heap_alloc_new]; rfl) (by have := hs2.lt; omega) (by simp) (by simp) 2 2 rfl).mono ?_
        rintro e w3 ⟨rfl, hs3, hg3⟩
        have ho3 := (ho2.alloc (.cells #[.string ⟨#[]⟩, .string ⟨#[112]⟩] 9)).kept hg3 (.inr hnb)
        have hgg3 := hgg2.andThen (grown_alloc_then hg3) (fun _ h => .inr h)
        clear hs2 ho2 hgg2 hg3
        have hps : (([⟨#[]⟩, ⟨#[112]⟩] : List ByteArray).getD (drawOf l (x + 1 + 2) (([⟨#[]⟩, ⟨#[112]⟩] : List ByteArray).length : Int)).toNat ByteArray.empty).size ≤ 1 := by
          generalize (drawOf l (x + 1 + 2) (([⟨#[]⟩, ⟨#[112]⟩] : List ByteArray).length : Int)).toNat = d
          rcases d with _ | _ | d
          · decide
          · decide
          · simp
        generalize ([⟨#[]⟩, ⟨#[112]⟩] : List ByteArray).getD (drawOf l (x + 1 + 2) (([⟨#[]⟩, ⟨#[112]⟩] : List ByteArray).length : Int)).toNat ByteArray.empty = p at *
        go_wp2_with fail
        refine (odd_any b A cap l _ (-1) 100 _ hs3 (by omega) (by omega) (by omega) (by omega)).mono ?_
        rintro e w4 ⟨rfl, hs4, hg4⟩
        have ho4 := ho3.kept hg4 (.inr hnb)
        have hgg4 := hgg3.andThen hg4 (fun _ h => .inr h)
        clear hs3 ho3 hgg3 hg4
        generalize oddOf l (x + 1 + 2 + 1) (-1) 100 = o2 at *
        go_wp2_with (at_builtin; refine wpList_append_own _ rfl (.tmp 38) (.tmp 47) 87 rfl w.heap.size 93 i0 (.agg #[.int .i64 0, .string ⟨#[]⟩, .int .i64 0]) 3 32 Tryz.underlying87 hi hz0 hz1 hz2 rfl (by decide) _ _ _ rfl (ho4.alloc _) ⟨w4.heap.size, 0, none⟩ 1 1 [.int .i64 o1, .string p, .int .i64 o2] rfl rfl ?d1 ?d2 ?d3 ?d4 ?d5 ?_)
        case d1 => exact cells_new w4 [.int .i64 o1, .string p, .int .i64 o2] _
        case d2 => simp [Value.oneCell']
        case d3 => unfold maxLen; omega
        case d4 => omega
        case d5 => have := hgg4.size; simp at this ⊢; omega
        intro v' w5 ho5 hg5 _
        have hs5 := (hs4.alloc (.cells #[.int .i64 o1, .string p, .int .i64 o2] 93)).grown hg5 (fun j hj => by have := (ho4.lt j hj).1; omega)
        have hg6 := hgg4.andThen ((World.grownBy_alloc w4 (.cells #[.int .i64 o1, .string p, .int .i64 o2] 93) _).andThen hg5 (fun _ h => .inr h)) (fun j hj => .inl (ho4.lt j hj).1)
        have hrow := SmSt.mk_ (n := 22) (m := 60) (at_ := at_) (xs := xs ++ [⟨o1, p, o2⟩]) (v := v') (by rw [sms_snoc]; exact ho5) (by simp) hs5 hg6 (by simp; omega) (by omega) (by omega) (small_snoc HXS.out hps)
        clear ho4 hs4 hgg4 hg5 hg6 hs5 ho5
        go_wp2_with fail
        go_ret
        exact ⟨_, rfl, hrow⟩
end Go.Proofs.YtdkgmmngoojamaaGreatDoor
