/- The probes that a stream hands out, as a function of what it draws. Probes in memory: IndexFunc, DeleteFunc, Clone, slices.Equal at rows alike. -/
import Derived.Test.YtkbbmlkgaooaiaaGreatDoorDrC
import Derived.Test.YtkbbmlkgaooaiaaGreatDoorDrB
import Derived.Test.YtkbbmlkgaooaiaaGreatDoorRwB
import Derived.OwnWalk
import Derived.Deep.RegionHeld3
import Derived.Deep.RegionLaw
import Derived.Deep.Cut
import Derived.Deep.CutRange
import Derived.StillTailTactics
import Derived.Test.YtkbbmlkgaooaiaaGreatDoorShelf
namespace Go.Proofs.YtkbbmlkgaooaiaaGreatDoor
open Go.RowKit Go.Hw

/-- A probe. -/
structure Pb where
  at_ : Int
  node : ByteArray
  relay : ByteArray
  millis : Int
def noPb : Pb := ⟨0, ByteArray.empty, ByteArray.empty, 0⟩
def pbCells (x : Pb) : List Value := [.int .i64 x.at_, .string x.node, .string x.relay, .int .i64 x.millis]
def pbsCells (xs : List Pb) : List Value := xs.flatMap pbCells
theorem pbs_snoc (xs : List Pb) (x : Pb) : pbsCells (xs ++ [x]) = pbsCells xs ++ pbCells x := by simp [pbsCells]
theorem Tryz.infoProbe : (Tryz.prog.info? 61).map (fun i => (i.zero, i.size, i.bytes)) = some (some (.agg #[.int .i64 0, .string ⟨#[]⟩, .string ⟨#[]⟩, .int .i64 0]), 4, 48) := by kernel_rfl
def PbT (y : Pb) : Prop := y.node.size ≤ 3 ∧ y.relay.size ≤ 3
theorem pbT_snoc {xs : List Pb} (h : ∀ y ∈ xs, PbT y) {x : Pb} (hx : PbT x) : ∀ y ∈ xs ++ [x], PbT y := by
  intro y hy
  rcases List.mem_append.1 hy with hy | hy
  · exact h y hy
  · simp at hy; subst hy; exact hx
def ndN (i : Nat) : ByteArray := ([⟨#[110, 97]⟩, ⟨#[110, 98]⟩] : List ByteArray).getD i ByteArray.empty
def rlN (i : Nat) : ByteArray := ([⟨#[102, 114, 97]⟩, ⟨#[108, 111, 110]⟩, ⟨#[110, 121, 99]⟩] : List ByteArray).getD i ByteArray.empty
def nd2Block : Obj := .cells #[.string ⟨#[110, 97]⟩, .string ⟨#[110, 98]⟩] 9
def rl3Block : Obj := .cells #[.string ⟨#[102, 114, 97]⟩, .string ⟨#[108, 111, 110]⟩, .string ⟨#[110, 121, 99]⟩] 9
theorem nd2_cell {w : World} {B : Nat} (h : w.heap[B]? = some nd2Block) : ∀ k, k < 2 → w.cell? ⟨B, k, none⟩ = some (.string (ndN k)) := by
  intro k hk
  have : k = 0 ∨ k = 1 := by omega
  unfold nd2Block at h
  rcases this with rfl | rfl <;> (simp only [World.cell?, h]; rfl)
theorem rl3_cell {w : World} {B : Nat} (h : w.heap[B]? = some rl3Block) : ∀ k, k < 3 → w.cell? ⟨B, k, none⟩ = some (.string (rlN k)) := by
  intro k hk
  have : k = 0 ∨ k = 1 ∨ k = 2 := by omega
  unfold rl3Block at h
  rcases this with rfl | rfl | rfl <;> (simp only [World.cell?, h]; rfl)
theorem nd_size (k : Nat) : (ndN k).size ≤ 3 := by
  rcases k with _ | _ | k
  · decide
  · decide
  · simp [ndN]
theorem rl_size (k : Nat) : (rlN k).size ≤ 3 := by
  rcases k with _ | _ | _ | k
  · decide
  · decide
  · decide
  · simp [rlN]
def pbOf (l : List Int) (n i j : Nat) (x : Int) : Pb := ⟨10 * (n : Int), ndN i, rlN j, ([-1, 5, 10, 12, 20, 20, 25, 40] : List Int).getD (drawOf l (x + 1) (([-1, 5, 10, 12, 20, 20, 25, 40] : List Int).length : Int)).toNat 0⟩
def pbIn (l : List Int) (st : List Pb × Int) (n i : Nat) : Nat → List Pb × Int
  | 0 => st
  | j + 1 => if drawOf l (pbIn l st n i j).2 2 == 0 then ((pbIn l st n i j).1 ++ [pbOf l n i j (pbIn l st n i j).2], (pbIn l st n i j).2 + 1 + 1) else ((pbIn l st n i j).1, (pbIn l st n i j).2 + 1)
def pbMid (l : List Int) (st : List Pb × Int) (n : Nat) : Nat → List Pb × Int
  | 0 => st
  | i + 1 => pbIn l (pbMid l st n i) n i 3
def pbAll (l : List Int) (at_ : Int) : Nat → List Pb × Int
  | 0 => ([], at_)
  | n + 1 => pbMid l (pbAll l at_ n) n 2
theorem pb_no {l : List Int} {st : List Pb × Int} {n i j : Nat} {xs : List Pb} {x : Int} (h : pbIn l st n i j = (xs, x)) (hd : (drawOf l x 2 == 0) = false) : pbIn l st n i (j + 1) = (xs, x + 1) := by
  simp only [pbIn, h, hd]; rfl
theorem pb_yes {l : List Int} {st : List Pb × Int} {n i j : Nat} {xs : List Pb} {x : Int} (h : pbIn l st n i j = (xs, x)) (hd : (drawOf l x 2 == 0) = true) : pbIn l st n i (j + 1) = (xs ++ [pbOf l n i j x], x + 1 + 1) := by
  simp only [pbIn, h, hd]; rfl
def pbTail (l : List Int) (x : Int) : Pb := ⟨oddOf l (x + 1) 0 345686399, ([⟨#[]⟩, ⟨#[110, 97]⟩] : List ByteArray).getD (drawOf l (x + 1 + 2) (([⟨#[]⟩, ⟨#[110, 97]⟩] : List ByteArray).length : Int)).toNat ByteArray.empty,
  ([⟨#[102, 114, 97]⟩, ⟨#[65]⟩] : List ByteArray).getD (drawOf l (x + 1 + 2 + 1) (([⟨#[102, 114, 97]⟩, ⟨#[65]⟩] : List ByteArray).length : Int)).toNat ByteArray.empty, oddOf l (x + 1 + 2 + 1 + 1) (-1) 1000000⟩
/-- The probes that are drawn, and where the stream is behind them. -/
def pbF (l : List Int) (at_ : Int) (many : Nat) : List Pb × Int :=
  if drawOf l (pbAll l at_ many).2 20 == 0 then ((pbAll l at_ many).1 ++ [pbTail l (pbAll l at_ many).2], (pbAll l at_ many).2 + 1 + 2 + 1 + 1 + 2) else ((pbAll l at_ many).1, (pbAll l at_ many).2 + 1)
theorem pbF_no {l : List Int} {at_ : Int} {k : Nat} {xs : List Pb} {x : Int} (h : pbAll l at_ k = (xs, x)) (hd : (drawOf l x 20 == 0) = false) : pbF l at_ k = (xs, x + 1) := by
  unfold pbF; rw [h]; simp only [hd]; rfl
theorem pbF_yes {l : List Int} {at_ : Int} {k : Nat} {xs : List Pb} {x : Int} (h : pbAll l at_ k = (xs, x)) (hd : (drawOf l x 20 == 0) = true) : pbF l at_ k = (xs ++ [pbTail l x], x + 1 + 2 + 1 + 1 + 2) := by
  unfold pbF; rw [h]; simp only [hd]; rfl
def PbX (w0 wr : World) (b : Nat) (A : Option Addr) (cap : Nat) (l : List Int) (at_ : Int) (n m : Nat) (st : List Pb × Int) (v : Value) : Prop :=
  ∃ (xs : List Pb) (x : Int), st = (xs, x) ∧ wr.ownsRow w0.heap.size 61 4 v xs.length (pbsCells xs) ∧ Str wr b A cap l x ∧ w0.grownBy wr (some b) ∧ xs.length ≤ n ∧ (at_ ≤ x ∧ x ≤ at_ + m) ∧ ∀ y ∈ xs, PbT y
theorem PbX.mk_ {w0 wr : World} {b : Nat} {A : Option Addr} {cap : Nat} {l : List Int} {at_ : Int} {n m : Nat} {st : List Pb × Int} {v : Value} {k : Nat} {xs : List Pb} {x : Int} (h1 : wr.ownsRow w0.heap.size 61 4 v k (pbsCells xs)) (hk : k = xs.length) (h2 : Str wr b A cap l x) (h3 : w0.grownBy wr (some b))
    (h4 : xs.length ≤ n) (h5 : at_ ≤ x) (h6 : x ≤ at_ + m) (h7 : ∀ y ∈ xs, PbT y) (h8 : st = (xs, x)) : PbX w0 wr b A cap l at_ n m st v := ⟨xs, x, h8, hk ▸ h1, h2, h3, h4, ⟨h5, h6⟩, h7⟩

set_option maxRecDepth 100000 in
set_option maxHeartbeats 4000000 in
theorem probes_det (b : Nat) (A : Option Addr) (cap : Nat) (l : List Int) (at_ : Int) (w : World) (h : Str w b A cap l at_) (hh : at_ < 1099511620000) (many : Nat) (hmany : many ≤ 8) :
    Calls Tryz.prog 6 #[.pointer (some ⟨b, 0, none⟩), .int .i64 (many : Nat)] w fun e w' => ∃ v : Value, e = .returned v ∧ PbX w w' b A cap l at_ 49 200 (pbF l at_ many) v := by
  have hlt := h.lt
  have hl0 := h.low
  obtain ⟨i0, hi, hz0, hz1, hz2⟩ := info_parts Tryz.infoProbe
  have HT1 : Hid (9 ≠ 61) := Lib.hid (by decide)
  go_enter Tryz.func6, Tryz.ntmps6
  go_wp2_with fail
  go_loopw [5, 12] (fun v i wr => ∃ (k : Nat) (sv : Value), sv = v ∧ k ≤ many ∧ i = .int .i64 k ∧ PbX w wr b A cap l at_ (6 * k) (12 * k) (pbAll l at_ k) sv) (fun _ i _ => many - (intOf i).toNat)
  case atStart => exact ⟨0, _, rfl, by omega, rfl, PbX.mk_ (xs := []) (World.ownsRow_nil _ _ _ _) rfl h (World.grownBy.refl _ _) (by simp) (by omega) (by omega) (by simp) rfl⟩
  case round =>
    clear h
    obtain ⟨k, sv, rfl, hk, rfl, hrel⟩ := hrel
    by_cases hk4 : k < many
    · obtain ⟨xs, x, hst, ho, hs, hg, hxl, hxb, hxs⟩ := hrel
      have hstart : PbX w (wr.alloc nd2Block) b A cap l at_ (6 * k + 3 * 0) (12 * k + 6 * 0) (pbMid l (pbAll l at_ k) k 0) sv := PbX.mk_ (ho.alloc _) rfl (hs.alloc _) (grown_of_box hg) (by omega) (by omega) (by omega) hxs hst
      have HSTART := Lib.hid hstart
      have HN := Lib.hid (heap_alloc_new wr nd2Block)
      have hd : decide ((k : Int) < (many : Int)) = true := by simp; omega
      have hw1 := hg.size
      clear ho hs hg hxl hxb hxs hstart hst
      go_wp2_with fail
      obtain ⟨wo, rfl⟩ : ∃ wo : World, wo = wr := ⟨_, rfl⟩
      go_loopw [5, 17] (fun v j wi => ∃ (t : Nat) (sv : Value), sv = v ∧ t ≤ 2 ∧ j = .int .i64 t ∧ PbX w wi b A cap l at_ (6 * k + 3 * t) (12 * k + 6 * t) (pbMid l (pbAll l at_ k) k t) sv ∧ wi.heap[wo.heap.size]? = some nd2Block) (fun _ j _ => 2 - (intOf j).toNat)
      case atStart => exact ⟨0, sv, rfl, by omega, rfl, HSTART.out, HN.out⟩
      case round =>
        obtain ⟨t, sv, rfl, ht, rfl, hrel, hB⟩ := hrel
        clear HSTART HN
        by_cases htk : t < 2
        · obtain ⟨xs, x, hst, ho, hs, hg, hxl, hxb, hxs⟩ := hrel
          have hct := nd2_cell hB t htk
          have hstart : PbX w (wr.alloc rl3Block) b A cap l at_ (6 * k + 3 * t + 0) (12 * k + 6 * t + 2 * 0) (pbIn l (pbMid l (pbAll l at_ k) k t) k t 0) sv := PbX.mk_ (ho.alloc _) rfl (hs.alloc _) (grown_of_box hg) (by omega) (by omega) (by omega) hxs hst
          have HSTART := Lib.hid hstart
          have HR := Lib.hid (heap_alloc_new wr rl3Block)
          have HB := Lib.hid (blk_alloc hB rl3Block)
          have hw2 := hg.size
          have hwo := lt_blk hB
          have hps := nd_size t
          have hd2 : decide ((t : Int) < 2) = true := by simp; omega
          clear ho hs hg hxl hxb hxs hstart hst hB
          generalize hpn : ndN t = p at *
          have HPN := Lib.hid hpn
          clear hpn
          go_wp2_with fail
          clear hct
          obtain ⟨wm, rfl⟩ : ∃ wm : World, wm = wr := ⟨_, rfl⟩
          go_loopw [5, 23] (fun v j wq => ∃ (s : Nat) (sv : Value), sv = v ∧ s ≤ 3 ∧ j = .int .i64 s ∧ PbX w wq b A cap l at_ (6 * k + 3 * t + s) (12 * k + 6 * t + 2 * s) (pbIn l (pbMid l (pbAll l at_ k) k t) k t s) sv ∧ wq.heap[wo.heap.size]? = some nd2Block ∧ wq.heap[wm.heap.size]? = some rl3Block) (fun _ j _ => 3 - (intOf j).toNat)
          case atStart => exact ⟨0, sv, rfl, by omega, rfl, HSTART.out, HB.out, HR.out⟩
          case round =>
            obtain ⟨s, sv, rfl, hsk, rfl, hrel, hB, hR⟩ := hrel
            clear HSTART HB HR
            by_cases hs3 : s < 3
            · obtain ⟨xs, x, hst, ho, hs, hg, hxl, hxb, hxs⟩ := hrel
              have hcr := rl3_cell hR s hs3
              have hqs := rl_size s
              have hnb := own_ne ho hlt
              have HXS := Lib.hid hxs
              have HB5 := Lib.hid hB
              have HS5 := Lib.hid hR
              have HNO := Lib.hid (fun hd => pb_no hst hd)
              have HYES := Lib.hid (fun hd => pb_yes hst hd)
              unfold pbOf at HYES
              rw [HPN.out] at HYES
              clear hxs hB hR hst
              generalize rlN s = q at *
              cases hx : drawOf l x 2 == 0
              · go_wp2_with fail
                refine (flip_any b A cap l _ _ _ hs (by omega) (by omega) (by omega)).mono ?_
                rintro e w2 ⟨rfl, hs1, hg1⟩
                rw [hx]
                have hrow := PbX.mk_ (n := 6 * k + 3 * t + (s + 1)) (m := 12 * k + 6 * t + 2 * (s + 1)) (at_ := at_) (ho.kept hg1 (.inr hnb)) rfl hs1 (hg.andThen hg1 (fun _ h => .inr h)) (by omega) (by omega) (by omega) HXS.out (HNO.out hx)
                have hb2 := blk_grown HB5.out hg1 (by intro e; injection e; omega)
                have hb3 := blk_grown HS5.out hg1 (by intro e; injection e; omega)
                clear hs ho hg hg1 hs1
                go_wp2_with fail
                go_roundw
                case rel => exact ⟨s + 1, sv, rfl, by omega, by go_num, hrow, hb2, hb3⟩
                case measure => simp [intOf]; omega
              · go_wp2_with fail
                refine (flip_any b A cap l _ _ _ hs (by omega) (by omega) (by omega)).mono ?_
                rintro e w2 ⟨rfl, hs1, hg1⟩
                rw [hx]
                have hb1 := blk_grown HB5.out hg1 (by intro e; injection e; omega)
                have hc1 := blk_grown HS5.out hg1 (by intro e; injection e; omega)
                have ho1 := ho.kept hg1 (.inr hnb)
                have hgg1 := hg.andThen hg1 (fun _ h => .inr h)
                have HB1 := Lib.hid hb1
                have HC1 := Lib.hid hc1
                have HQ := Lib.hid (HYES.out hx)
                have s0 : IntKind.i64.wrap (10 * (k : Int)) = 10 * (k : Int) := IntWalk.i64_in _ (by omega)
                clear hs ho hg hg1 HB5 HS5 hcr hb1 hc1 hx HYES HNO
                go_wp2_with fail
                refine (pick_any b A cap l _ _ (hs1.alloc _) (by omega) w2.heap.size [-1, 5, 10, 12, 20, 20, 25, 40] (by rw [heap_alloc_new]; rfl) (by have := hs1.lt; omega) (by simp) (by simp) 8 8 rfl).mono ?_
                rintro e w3 ⟨rfl, hs2, hg2⟩
                have ho2 := (ho1.alloc (.cells (([-1, 5, 10, 12, 20, 20, 25, 40] : List Int).map (Value.int .i64)).toArray 3)).kept hg2 (.inr hnb)
                have hgg2 := hgg1.andThen (grown_alloc_then hg2) (fun _ h => .inr h)
                have HB2 := Lib.hid (blk_grown (blk_alloc HB1.out _) hg2 (by intro e; injection e; omega))
                have HC2 := Lib.hid (blk_grown (blk_alloc HC1.out _) hg2 (by intro e; injection e; omega))
                generalize ([-1, 5, 10, 12, 20, 20, 25, 40] : List Int).getD (drawOf l (x + 1) (([-1, 5, 10, 12, 20, 20, 25, 40] : List Int).length : Int)).toNat 0 = pw at HQ ⊢
                clear hs1 ho1 hgg1 hg2 HB1 HC1 s0
                go_wp2_with (at_builtin; refine wpList_append_own _ rfl (.tmp 29) (.tmp 38) 30 rfl w.heap.size 61 i0 (.agg #[.int .i64 0, .string ⟨#[]⟩, .string ⟨#[]⟩, .int .i64 0]) 4 48 Tryz.underlying30 hi hz0 hz1 hz2 rfl (by decide) _ _ _ rfl (World.ownsRow.alloc ho2 _) ⟨w3.heap.size, 0, none⟩ 1 1 [.int .i64 (10 * (k : Int)), .string p, .string q, .int .i64 pw] rfl rfl ?a1 ?a2 ?a3 ?a4 ?a5 ?_)
                case a1 => exact cells_new w3 [.int .i64 (10 * (k : Int)), .string p, .string q, .int .i64 pw] _
                case a2 => simp [Value.oneCell']
                case a3 => unfold maxLen; omega
                case a4 => omega
                case a5 => have := hgg2.size; simp; omega
                intro v6 w6 ho6 hg6 _
                have hb6 := blk_grown (blk_alloc HB2.out (.cells #[.int .i64 (10 * (k : Int)), .string p, .string q, .int .i64 pw] 61)) hg6 (fun e => own_type_ne ho2 HB2.out HT1.out e.symm)
                have hc6 := blk_grown (blk_alloc HC2.out (.cells #[.int .i64 (10 * (k : Int)), .string p, .string q, .int .i64 pw] 61)) hg6 (fun e => own_type_ne ho2 HC2.out HT1.out e.symm)
                have hs6 := (hs2.alloc (.cells #[.int .i64 (10 * (k : Int)), .string p, .string q, .int .i64 pw] 61)).grown hg6 (fun j hj => by have := (ho2.lt j hj).1; omega)
                have hg7 := hgg2.andThen ((World.grownBy_alloc w3 (.cells #[.int .i64 (10 * (k : Int)), .string p, .string q, .int .i64 pw] 61) _).andThen hg6 (fun _ h => .inr h)) (fun j hj => .inl (ho2.lt j hj).1)
                have hrow := PbX.mk_ (n := 6 * k + 3 * t + (s + 1)) (m := 12 * k + 6 * t + 2 * (s + 1)) (at_ := at_) (xs := xs ++ [⟨10 * (k : Int), p, q, pw⟩]) (by rw [pbs_snoc]; exact ho6) (by simp) hs6 hg7 (by simp; omega) (by omega) (by omega) (pbT_snoc HXS.out ⟨hps, hqs⟩) HQ.out
                have HROW := Lib.hid hrow
                have HB6 := Lib.hid hb6
                have HC6 := Lib.hid hc6
                clear ho2 hs2 hgg2 ho6 hg6 hs6 hg7 hrow hb6 hc6 HB2 HC2
                go_wp2_with fail
                go_roundw
                case rel => exact ⟨s + 1, _, rfl, by omega, by go_num, HROW.out, HB6.out, HC6.out⟩
                case measure => simp [intOf]; omega
            · have : s = 3 := by omega
              subst this
              clear hR
              go_wp2_with fail
              go_roundw
              case rel => exact ⟨t + 1, sv, rfl, by omega, by go_num, by rw [show 6 * k + 3 * (t + 1) = 6 * k + 3 * t + 3 from by omega, show 12 * k + 6 * (t + 1) = 12 * k + 6 * t + 2 * 3 from by omega]; exact hrel, hB⟩
              case measure => simp [intOf]; omega
        · have : t = 2 := by omega
          subst this
          clear hB
          go_wp2_with fail
          go_roundw
          case rel => exact ⟨k + 1, sv, rfl, by omega, by go_num, by rw [show 6 * (k + 1) = 6 * k + 3 * 2 from by omega, show 12 * (k + 1) = 12 * k + 6 * 2 from by omega]; exact hrel⟩
          case measure => simp [intOf]; omega
    · have : k = many := by omega
      subst this
      obtain ⟨xs, x, hst, ho, hs, hg, hxl, hxb, hxs⟩ := hrel
      have hnb := own_ne ho hlt
      have HXS := Lib.hid hxs
      have HST := Lib.hid hst
      clear hxs hst
      cases hx : drawOf l x 20 == 0
      · go_wp2_with fail
        refine (flip_any b A cap l _ _ _ hs (by omega) (by omega) (by omega)).mono ?_
        rintro e w1 ⟨rfl, hs1, hg1⟩
        rw [hx]
        have hrow : PbX w w1 b A cap l at_ 49 200 (pbF l at_ k) sv := PbX.mk_ (ho.kept hg1 (.inr hnb)) rfl hs1 (hg.andThen hg1 (fun _ h => .inr h)) (by omega) (by omega) (by omega) HXS.out (pbF_no HST.out hx)
        clear hs ho hg hg1 hs1
        go_wp2_with fail
        go_ret
        exact ⟨_, rfl, hrow⟩
      · go_wp2_with fail
        refine (flip_any b A cap l _ _ _ hs (by omega) (by omega) (by omega)).mono ?_
        rintro e w1 ⟨rfl, hs1, hg1⟩
        rw [hx]
        have ho1 := ho.kept hg1 (.inr hnb)
        have hgg1 := hg.andThen hg1 (fun _ h => .inr h)
        have HQ := Lib.hid (pbF_yes HST.out hx)
        unfold pbTail at HQ
        clear hs ho hg hg1 hx HST
        go_wp2_with fail
        refine (odd_any b A cap l _ 0 345686399 _ hs1 (by omega) (by omega) (by omega) (by omega)).mono ?_
        rintro e w2 ⟨rfl, hs2, hg2⟩
        have ho2 := ho1.kept hg2 (.inr hnb)
        have hgg2 := hgg1.andThen hg2 (fun _ h => .inr h)
        generalize oddOf l (x + 1) 0 345686399 = o1 at *
        clear hs1 ho1 hgg1 hg2
        go_wp2_with fail
        refine (some_any b A cap l _ _ (hs2.alloc _) (by omega) w2.heap.size [⟨#[]⟩, ⟨#[110, 97]⟩] (by rw [heap_alloc_new]; rfl) (by have := hs2.lt; omega) (by simp) (by simp) 2 2 rfl).mono ?_
        rintro e w3 ⟨rfl, hs3, hg3⟩
        have ho3 := (ho2.alloc (.cells #[.string ⟨#[]⟩, .string ⟨#[110, 97]⟩] 9)).kept hg3 (.inr hnb)
        have hgg3 := hgg2.andThen (grown_alloc_then hg3) (fun _ h => .inr h)
        have hps := some_get (P := fun s => s.size ≤ 3) (vs := [⟨#[]⟩, ⟨#[110, 97]⟩]) (by decide) l (x + 1 + 2) (by simp)
        generalize ([⟨#[]⟩, ⟨#[110, 97]⟩] : List ByteArray).getD (drawOf l (x + 1 + 2) (([⟨#[]⟩, ⟨#[110, 97]⟩] : List ByteArray).length : Int)).toNat ByteArray.empty = p at *
        clear hs2 ho2 hgg2 hg3
        go_wp2_with fail
        refine (some_any b A cap l _ _ (hs3.alloc _) (by omega) w3.heap.size [⟨#[102, 114, 97]⟩, ⟨#[65]⟩] (by rw [heap_alloc_new]; rfl) (by have := hs3.lt; omega) (by simp) (by simp) 2 2 rfl).mono ?_
        rintro e w4 ⟨rfl, hs4, hg4⟩
        have ho4 := (ho3.alloc (.cells #[.string ⟨#[102, 114, 97]⟩, .string ⟨#[65]⟩] 9)).kept hg4 (.inr hnb)
        have hgg4 := hgg3.andThen (grown_alloc_then hg4) (fun _ h => .inr h)
        have hqs := some_get (P := fun s => s.size ≤ 3) (vs := [⟨#[102, 114, 97]⟩, ⟨#[65]⟩]) (by decide) l (x + 1 + 2 + 1) (by simp)
        generalize ([⟨#[102, 114, 97]⟩, ⟨#[65]⟩] : List ByteArray).getD (drawOf l (x + 1 + 2 + 1) (([⟨#[102, 114, 97]⟩, ⟨#[65]⟩] : List ByteArray).length : Int)).toNat ByteArray.empty = q at *
        clear hs3 ho3 hgg3 hg4
        go_wp2_with fail
        refine (odd_any b A cap l _ (-1) 1000000 _ hs4 (by omega) (by omega) (by omega) (by omega)).mono ?_
        rintro e w5 ⟨rfl, hs5, hg5⟩
        have ho5 := ho4.kept hg5 (.inr hnb)
        have hgg5 := hgg4.andThen hg5 (fun _ h => .inr h)
        generalize oddOf l (x + 1 + 2 + 1 + 1) (-1) 1000000 = o2 at *
        clear hs4 ho4 hgg4 hg5
        go_wp2_with (at_builtin; refine wpList_append_own _ rfl (.tmp 45) (.tmp 57) 30 rfl w.heap.size 61 i0 (.agg #[.int .i64 0, .string ⟨#[]⟩, .string ⟨#[]⟩, .int .i64 0]) 4 48 Tryz.underlying30 hi hz0 hz1 hz2 rfl (by decide) _ _ _ rfl (ho5.alloc _) ⟨w5.heap.size, 0, none⟩ 1 1 [.int .i64 o1, .string p, .string q, .int .i64 o2] rfl rfl ?z1 ?z2 ?z3 ?z4 ?z5 ?_)
        case z1 => exact cells_new w5 [.int .i64 o1, .string p, .string q, .int .i64 o2] _
        case z2 => simp [Value.oneCell']
        case z3 => unfold maxLen; omega
        case z4 => omega
        case z5 => have := hgg5.size; simp; omega
        intro v' w6 ho6 hg6 _
        have hs6 := (hs5.alloc (.cells #[.int .i64 o1, .string p, .string q, .int .i64 o2] 61)).grown hg6 (fun j hj => by have := (ho5.lt j hj).1; omega)
        have hg7 := hgg5.andThen ((World.grownBy_alloc w5 (.cells #[.int .i64 o1, .string p, .string q, .int .i64 o2] 61) _).andThen hg6 (fun _ h => .inr h)) (fun j hj => .inl (ho5.lt j hj).1)
        have hrow : PbX w w6 b A cap l at_ 49 200 (pbF l at_ k) v' := PbX.mk_ (xs := xs ++ [⟨o1, p, q, o2⟩]) (by rw [pbs_snoc]; exact ho6) (by simp) hs6 hg7 (by simp; omega) (by omega) (by omega) (pbT_snoc HXS.out ⟨hps, hqs⟩) HQ.out
        clear ho5 hs5 hgg5 hg6 hs6 ho6 hg7
        go_wp2_with fail
        go_ret
        exact ⟨_, rfl, hrow⟩
end Go.Proofs.YtkbbmlkgaooaiaaGreatDoor

namespace Go.Proofs.YtkbbmlkgaooaiaaGreatDoor
open Go.RowKit Go.Hw

def qpC (e : Pb) : List Value := [.int .i64 e.at_, .string e.node, .string e.relay, .int .i64 e.millis]
theorem qpC_len (e : Pb) : (qpC e).length = 4 := rfl
abbrev qpAt (w : World) (A : Option Addr) (L : List Pb) : Prop := RwAt qpC 4 noPb w A L
abbrev qpOwn (w : World) (base : Nat) (v : Value) (L : List Pb) : Prop := w.ownsRow base 61 4 v L.length (rwC qpC L)
theorem qp_cells {w : World} {g o : Nat} {e : Pb} (h : RwCells w g o (qpC e)) : w.cell? ⟨g, o, none⟩ = some (.int .i64 e.at_) ∧ w.cell? ⟨g, o + 1, none⟩ = some (.string e.node) ∧ w.cell? ⟨g, o + 2, none⟩ = some (.string e.relay) ∧ w.cell? ⟨g, o + 3, none⟩ = some (.int .i64 e.millis) := ⟨h 0 _ rfl, h 1 _ rfl, h 2 _ rfl, h 3 _ rfl⟩

/-- What is asked of a closure over these structs. -/
def qpPred (g : Nat) (lb : Array Value) (p : Pb → Bool) (L : List Pb) (w : World) : Prop :=
  ∀ (W : World) (e : Pb), e ∈ L → Below w.heap.size w W → Calls Tryz.prog g (#[.agg #[.int .i64 e.at_, .string e.node, .string e.relay, .int .i64 e.millis]] ++ lb) W fun en w' => en = .returned (.bool (p e)) ∧ Below W.heap.size W w'

set_option maxRecDepth 100000 in
set_option maxHeartbeats 1000000 in
theorem qp_idx (A : Option Addr) (cap : Nat) (L : List Pb) (g : Nat) (lb : Array Value) (p : Pb → Bool) (w : World) (eg : ∀ args w, (callFunc g args).run Tryz.prog w = .ok (.enter g args) w)
    (h : qpAt w A L) (hl : L.length ≤ 1000000) (hp : qpPred g lb p L w) :
    Calls Tryz.prog 88 #[.slice A L.length cap, .func (.func g) #[] lb] w fun e w' => e = .returned (.int .i64 (rwIdx p L)) ∧ Below w.heap.size w w' := by
  go_enter Tryz.func88, Tryz.ntmps88
  go_wp2_with fail
  go_loopw [8] (fun v wr => ∃ k : Nat, k ≤ L.length ∧ v = .int .i64 k ∧ (∀ j, j < k → p (L.getD j noPb) = false) ∧ Below w.heap.size w wr) (fun v _ => L.length - (intOf v).toNat)
  case atStart => exact ⟨0, Nat.zero_le _, rfl, fun j hj => by omega, Below.refl _ _⟩
  case round =>
    obtain ⟨k, hk, rfl, hf, hb⟩ := hrel
    have hlr := h.below hb
    by_cases hlt : k < L.length
    · obtain ⟨g5, off, rfl, hgB, hcc⟩ := hlr k hlt
      obtain ⟨c0, c1, c2, c3⟩ := qp_cells hcc
      have HCALL := hp wr (L.getD k noPb) (rw_mem hlt) hb
      generalize hx : L.getD k noPb = x at *
      have HF := Lib.hid hf
      have HX := Lib.hid hx
      have HB := Lib.hid hb
      clear hf hx hp hb hlr h hcc
      have hd : decide ((k : Int) < (L.length : Int)) = true := by simp; omega
      cases hq : p x
      · rw [hq] at HCALL
        go_wp2_with (go_at_fn g; refine HCALL.mono ?_; rintro e w1 ⟨rfl, hb1⟩)
        go_roundw
        case rel => exact ⟨k + 1, by omega, by go_num, fun j hj => (by
          by_cases e : j = k
          · rw [e, HX.out]; exact hq
          · exact HF.out j (by omega)), HB.out.trans (hb1.mono HB.out.size)⟩
        case measure => simp [intOf]; omega
      · rw [hq] at HCALL
        go_wp2_with (go_at_fn g; refine HCALL.mono ?_; rintro e w1 ⟨rfl, hb1⟩)
        go_ret
        exact ⟨ret_eq (rwIdx_at hlt HF.out (by rw [HX.out]; exact hq)).symm, HB.out.trans (hb1.mono HB.out.size)⟩
    · have : k = L.length := by omega
      subst this
      have HF := Lib.hid hf
      clear hf
      go_wp2_with fail
      go_ret
      exact ⟨ret_eq (rwIdx_none HF.out).symm, hb⟩

theorem qp_zero (w : World) : (zeroValue 61).run Tryz.prog w = .ok (.agg #[.int .i64 0, .string ⟨#[]⟩, .string ⟨#[]⟩, .int .i64 0]) w := by kernel_rfl
def qpZ : Array Value := #[.int .i64 0, .string ⟨#[]⟩, .string ⟨#[]⟩, .int .i64 0]
theorem qp_clear (w : World) (ty : TypeId) (b o n c : Nat) (hn : 0 < n) (hc : ∀ j, j < n * 4 → (w.cell? ⟨b, o + j, none⟩).isSome = true) (hf : ∀ j, j < n * 4 → w.frozen? ⟨b, o + j, none⟩ = false) :
    (Builtin.clear_ #[30] ty #[.slice (some ⟨b, o, none⟩) n c]).run Tryz.prog w = .ok (.tuple #[]) (w.setCells b o (Builtin.zeroCells qpZ n).toList) := by
  have hl : (Builtin.zeroCells qpZ n).toList.length = n * 4 := by
    simp [Builtin.zeroCells, qpZ]
  have h1 : ∀ v ∈ (Builtin.zeroCells qpZ n).toList, v.oneCell' = true := by
    intro v hv
    simp only [Builtin.zeroCells, Array.toList_map, List.mem_map] at hv
    obtain ⟨i, _, rfl⟩ := hv
    have hi : i % qpZ.size < 4 := Nat.mod_lt _ (by decide)
    generalize i % qpZ.size = k at hi
    have : k = 0 ∨ k = 1 ∨ k = 2 ∨ k = 3 := by omega
    rcases this with rfl | rfl | rfl | rfl <;> rfl
  have hst := run_storeCells_cells (P := Tryz.prog) b o (Builtin.zeroCells qpZ n).toList 0 w (by rw [hl]; simpa using hc) (by rw [hl]; simpa using hf) h1
  simp only [Nat.add_zero] at hst
  have hz := qp_zero w
  obtain ⟨m, rfl⟩ : ∃ m, n = m + 1 := ⟨n - 1, by omega⟩
  have hcells : (Value.agg #[.int .i64 0, .string ⟨#[]⟩, .string ⟨#[]⟩, .int .i64 0]).cells = qpZ := rfl
  simp [Builtin.clear_, run_underlying Tryz.underlying30, hz, hcells, hst]

theorem qp_res {W : World} {R : Nat} {a0 a1 a2 a3 : Value} {T : TypeId} (h : W.heap[R]? = some (.cells #[a0, a1, a2, a3] T (0, 0))) : W.cell? ⟨R, 0, none⟩ = some a0 ∧ W.cell? ⟨R, 1, none⟩ = some a1 ∧ W.cell? ⟨R, 2, none⟩ = some a2 ∧ W.cell? ⟨R, 3, none⟩ = some a3 := by
  refine ⟨?_, ?_, ?_, ?_⟩ <;> simp [World.cell?, h]
set_option maxRecDepth 100000 in
set_option maxHeartbeats 400000 in
theorem qp_delNone (A : Option Addr) (cap : Nat) (L : List Pb) (g : Nat) (lb : Array Value) (p : Pb → Bool) (w : World) (eg : ∀ args w, (callFunc g args).run Tryz.prog w = .ok (.enter g args) w)
    (h : qpAt w A L) (hl : L.length ≤ 1000000) (hp : qpPred g lb p L w) (hr : rwIdx p L = -1) :
    Calls Tryz.prog 66 #[.slice A L.length cap, .func (.func g) #[] lb] w fun e w' => e = .returned (.slice A L.length cap) ∧ Below w.heap.size w w' := by
  have hcall := qp_idx A cap L g lb p w eg h hl hp
  rw [hr] at hcall
  clear hr hp h
  go_enter Tryz.func66, Tryz.ntmps66
  go_wp2_with fail
  refine hcall.mono ?_
  rintro e w1 ⟨rfl, hb⟩
  go_wp2_with fail
  go_ret
  exact ⟨rfl, hb⟩

/-- The loop of DeleteFunc: what stays has been moved ahead, and what is behind is as it was. -/
def qpDelI (w : World) (g cap : Nat) (p : Pb → Bool) (L : List Pb) (i j : Nat) (wr : World) : Prop :=
  j ≤ L.length ∧ i = (rwKept p L j).length ∧ i < j ∧ w.grownBy wr (some g) ∧ ∃ M : List Pb, M.length = L.length ∧ M.take i = rwKept p L j ∧ (∀ t, j ≤ t → M.getD t noPb = L.getD t noPb) ∧
    qpOwn wr 0 (.slice (some ⟨g, 0, none⟩) M.length cap) M

set_option maxRecDepth 100000 in
set_option maxHeartbeats 2000000 in
theorem qp_delSome (gb cap : Nat) (L : List Pb) (g : Nat) (lb : Array Value) (p : Pb → Bool) (w : World) (eg : ∀ args w, (callFunc g args).run Tryz.prog w = .ok (.enter g args) w)
    (h : qpOwn w 0 (.slice (some ⟨gb, 0, none⟩) L.length cap) L) (hl : L.length ≤ 1000000) (hp : ∀ wr, w.grownBy wr (some gb) → qpPred g lb p L wr) (i0 : Nat) (hi0 : i0 < L.length) (hr : rwIdx p L = i0) :
    Calls Tryz.prog 66 #[.slice (some ⟨gb, 0, none⟩) L.length cap, .func (.func g) #[] lb] w
      fun e w' => e = .returned (.slice (some ⟨gb, 0, none⟩) (L.filter (fun e => !p e)).length cap) ∧ w.grownBy w' (some gb) ∧
        qpOwn w' 0 (.slice (some ⟨gb, 0, none⟩) (L.filter (fun e => !p e)).length cap) (L.filter (fun e => !p e)) := by
  have hcall := qp_idx (some ⟨gb, 0, none⟩) cap L g lb p w eg (rw_at' qpC_len h) hl (hp w (World.grownBy.refl w _))
  rw [hr] at hcall
  have hcap : L.length ≤ cap := rw_cap h
  have H := Lib.hid h
  have HP := Lib.hid hp
  have HR := Lib.hid hr
  clear h hp hr
  go_enter Tryz.func66, Tryz.ntmps66
  go_wp2_with fail
  refine hcall.mono ?_
  rintro e w1 ⟨rfl, hb1⟩
  obtain ⟨_, hno, hyes⟩ := rwIdx_spec (d := noPb) HR.out
  have hI : qpDelI w gb cap p L i0 (i0 + 1) w1 := by
    have hk : rwKept p L (i0 + 1) = L.take i0 := by rw [rwKept_snoc (d := noPb) hi0, hyes, if_pos rfl, rwKept_first hno (by omega)]
    have hg1 := grownB hb1 (some gb)
    refine ⟨by omega, by rw [hk]; simp; omega, by omega, hg1, L, rfl, hk.symm, fun _ _ => rfl, ?_⟩
    exact rw_same H.out fun k hk => hb1.block k (H.out.lt k hk).2
  have HI := Lib.hid hI
  clear hcall hb1 hI hno hyes
  have hne : ((i0 : Int) == -1) = false := by simp
  go_wp2_with fail
  clear hne
  go_loopw [5, 6] (fun v5 v6 wr => ∃ i j : Nat, v5 = .int .i64 i ∧ v6 = .int .i64 j ∧ qpDelI w gb cap p L i j wr) (fun _ v6 _ => L.length - (intOf v6).toNat)
  case atStart => exact ⟨i0, i0 + 1, rfl, by simp, HI.out⟩
  case round =>
    obtain ⟨i, j, rfl, rfl, hj, hi, hij, hg, M, hM, htk, hdr, hown⟩ := hrel
    clear HI
    by_cases hlt : j < L.length
    · have hEM : qpAt wr (some ⟨gb, 0, none⟩) M := rw_at' qpC_len hown
      have hgb := (hown.lt gb rfl).2
      obtain ⟨c0, c1, c2, c3⟩ := qp_cells (w := wr) (g := gb) (o := j * 4) (e := L.getD j noPb) (by
        obtain ⟨g5, off, e1, hgB, hc⟩ := hEM j (by omega)
        injection e1 with e1
        simp only [Addr.mk.injEq, and_true] at e1
        obtain ⟨rfl, rfl⟩ := e1
        rw [hdr j (Nat.le_refl _), Nat.zero_add] at hc
        exact hc)
      have hsn := rwKept_snoc (p := p) (d := noPb) hlt
      have hmem : L.getD j noPb ∈ L := rw_mem hlt
      have hdl : decide (j < L.length) = true := by simpa using hlt
      generalize hx : L.getD j noPb = x at *
      have HCALL := HP.out wr hg (wr.alloc (.cells #[.int .i64 x.at_, .string x.node, .string x.relay, .int .i64 x.millis] 61)) x hmem ((Below.refl _ _).alloc (Nat.le_refl _) _)
      have HG := Lib.hid hg
      have HK := Lib.hid htk
      have HD := Lib.hid hdr
      have HO := Lib.hid hown
      have HS := Lib.hid hsn
      have HII := Lib.hid hi
      have HMM := Lib.hid hM
      have HX := Lib.hid hx
      clear hg htk hdr hown hsn hi hM hEM hmem hx
      cases hq : p x
      · rw [hq] at HCALL
        go_wp2_with fail
        refine HCALL.mono ?_
        rintro e w2 ⟨rfl, hb2⟩
        have hbx := (hb2.block wr.heap.size (by simp)).trans (heap_alloc_new wr _)
        obtain ⟨b0, b1, b2, b3⟩ := qp_res hbx
        have hO2 := rw_same HO.out (w' := w2) fun k hk => (hb2.block k (by have := (HO.out.lt k hk).2; simp; omega)).trans (heap_alloc_old _ _ (HO.out.lt k hk).2)
        have z0 := rw_froz hO2 (i * 4)
        have z1 := rw_froz hO2 (i * 4 + 1)
        have z2 := rw_froz hO2 (i * 4 + 2)
        have z3 := rw_froz hO2 (i * 4 + 3)
        obtain ⟨o0, s0⟩ := Option.isSome_iff_exists.1 (rw_some hO2 (j := i * 4) (by have := HMM.out; omega))
        obtain ⟨o1, s1⟩ := Option.isSome_iff_exists.1 (rw_some hO2 (j := i * 4 + 1) (by have := HMM.out; omega))
        obtain ⟨o2, s2⟩ := Option.isSome_iff_exists.1 (rw_some hO2 (j := i * 4 + 2) (by have := HMM.out; omega))
        obtain ⟨o3, s3⟩ := Option.isSome_iff_exists.1 (rw_some hO2 (j := i * 4 + 3) (by have := HMM.out; omega))
        have HO2 := Lib.hid hO2
        have HG2 := Lib.hid ((HG.out.andThen (World.grownBy_alloc _ _ (some gb)) (fun _ h => .inr h)).andThen (grownB hb2 (some gb)) (fun _ h => .inr h))
        have dil : decide (i < L.length) = true := by simp; omega
        have hil : i < L.length := by omega
        clear hb2 hbx hO2 HO HG HCALL c0 c1 c2 c3
        go_wp2_with fail
        clear b0 b1 b2 b3 z0 z1 z2 z3 s0 s1 s2 s3
        generalize hW : World.setCell _ _ _ = W3
        have hO3 := rw_put qpC_len HO2.out i x (by have := HMM.out; omega)
        rw [show w2.setCells gb (i * 4) (qpC x) = W3 from hW] at hO3
        have hG3 : w.grownBy W3 (some gb) := by
          rw [← show w2.setCells gb (i * 4) (qpC x) = W3 from hW]
          exact rw_gsets _ _ _ HG2.out
        clear hW HO2 HG2
        go_roundw
        case rel =>
          refine ⟨i + 1, j + 1, by go_num, by go_num, by omega, ?_, by omega, hG3, M.set i x, by rw [List.length_set]; exact HMM.out, ?_, fun t ht => ?_, hO3⟩
          · rw [HS.out, hq, if_neg (by simp), List.length_append, ← HII.out]; rfl
          · rw [HS.out, hq, if_neg (by simp), ← HK.out]
            have hiM : i < M.length := by have := HMM.out; omega
            rw [List.take_succ_eq_append_getElem (by simpa using hiM), List.getElem_set_self, List.take_set_of_le (Nat.le_refl _)]
          · rw [List.getD_eq_getElem?_getD, List.getElem?_set_ne (by omega), ← List.getD_eq_getElem?_getD]
            exact HD.out t (by omega)
        case measure => simp [intOf]; omega
      · rw [hq] at HCALL
        go_wp2_with (go_at_fn g; refine HCALL.mono ?_; rintro e w2 ⟨rfl, hb2⟩)
        go_roundw
        case rel => exact ⟨i, j + 1, rfl, by go_num, by omega, (by rw [HS.out, hq, if_pos rfl]; exact HII.out), by omega, (HG.out.andThen (World.grownBy_alloc _ _ (some gb)) (fun _ h => .inr h)).andThen (grownB hb2 (some gb)) (fun _ h => .inr h), M, HMM.out, by rw [HS.out, hq, if_pos rfl]; exact HK.out, fun t ht => HD.out t (by omega), rw_same HO.out fun k hk => (hb2.block k (by have := (HO.out.lt k hk).2; simp; omega)).trans (heap_alloc_old _ _ (HO.out.lt k hk).2)⟩
        case measure => simp [intOf]; omega
    · have hje : j = L.length := by omega
      subst hje
      have hdl : decide (L.length < L.length) = false := by simp
      rw [rwKept_all] at hi htk
      generalize hK : L.filter (fun e => !p e) = K at *
      subst hi
      have hic : K.length < cap := by omega
      have hce : ((K.length : Int) == (cap : Int)) = false := by simp; omega
      have hcl := fun ty => qp_clear wr ty gb (K.length * 4) (L.length - K.length) (cap - K.length) (by omega) (fun t ht => rw_some hown (by rw [hM]; omega)) (fun t _ => rw_froz hown _)
      have hsc := rw_setCells (Builtin.zeroCells qpZ (L.length - K.length)).toList (K.length * 4) wr _ (rw_cut hown (k := K.length) (by rw [hM]; omega))
      rw [rwC_take qpC_len, htk, rwSets_far _ _ _ (Nat.le_of_eq (rwC_length qpC_len _))] at hsc
      have hsg := rw_gsets (w := wr) (g := gb) (Builtin.zeroCells qpZ (L.length - K.length)).toList (K.length * 4) wr (World.grownBy.refl wr _)
      have HSC := Lib.hid hsc
      have HSG := Lib.hid hsg
      have HG := Lib.hid hg
      have HKK := Lib.hid hK
      clear hsc hg hdr hown htk hK hsg
      go_wp2_with fail
      go_ret
      rw [HKK.out]
      exact ⟨rfl, HG.out.andThen HSG.out (fun _ h => .inr h), HSC.out⟩

/-- slices.DeleteFunc, whatever goes. -/
theorem qp_del (A : Option Addr) (cap : Nat) (L : List Pb) (g : Nat) (lb : Array Value) (p : Pb → Bool) (w : World) (eg : ∀ args w, (callFunc g args).run Tryz.prog w = .ok (.enter g args) w)
    (h : qpOwn w 0 (.slice A L.length cap) L) (hl : L.length ≤ 1000000) (hp : ∀ wr, w.grownBy wr (Value.slice A L.length cap).ownBlock → qpPred g lb p L wr) :
    Calls Tryz.prog 66 #[.slice A L.length cap, .func (.func g) #[] lb] w
      fun e w' => e = .returned (.slice A (L.filter (fun e => !p e)).length cap) ∧ w.grownBy w' (Value.slice A L.length cap).ownBlock ∧
        qpOwn w' 0 (.slice A (L.filter (fun e => !p e)).length cap) (L.filter (fun e => !p e)) := by
  rcases rwIdx_any p L with ⟨h1, h2⟩ | ⟨h1, h2⟩
  · obtain ⟨i, hr⟩ := rwIdx_found h2
    obtain ⟨hi, _, _⟩ := rwIdx_spec (d := noPb) hr
    obtain ⟨gb, rfl⟩ : ∃ gb, A = some ⟨gb, 0, none⟩ := by
      rcases h.2 with ⟨h1, h2⟩ | ⟨g, cap', cur, h1, _⟩
      · omega
      · injection h1 with h1; exact ⟨g, h1⟩
    exact qp_delSome gb cap L g lb p w eg h hl hp i hi hr
  · have hall : ∀ e ∈ L, p e = false := fun e he => by
      cases hq : p e with
      | false => rfl
      | true => rw [List.any_eq_true.2 ⟨e, he, hq⟩] at h1; cases h1
    have hf : L.filter (fun e => !p e) = L := List.filter_eq_self.2 fun e he => by simp [hall e he]
    refine (qp_delNone A cap L g lb p w eg (rw_at' qpC_len h) hl (hp w (World.grownBy.refl w _)) h2).mono ?_
    rintro e w' ⟨rfl, hb⟩
    rw [hf]
    exact ⟨rfl, grownB hb _, rw_same h fun k hk => hb.block k (h.lt k hk).2⟩

theorem qp_info : (Tryz.prog.info? 61).map (fun i => (i.zero, i.size, i.bytes)) = some (some (.agg #[.int .i64 0, .string ⟨#[]⟩, .string ⟨#[]⟩, .int .i64 0]), 4, 48) := by kernel_rfl
theorem qpC_one (e : Pb) : ∀ u ∈ qpC e, u.oneCell' = true := by
  intro u hu
  simp only [qpC, List.mem_cons, List.not_mem_nil, or_false] at hu
  rcases hu with rfl | rfl | rfl | rfl <;> rfl
theorem qps_one (L : List Pb) : ∀ u ∈ rwC qpC L, u.oneCell' = true := by
  intro u hu
  obtain ⟨x, _, hx⟩ := List.mem_flatMap.1 hu
  exact qpC_one x u hx
/-- Cells of a row, one after the other. -/
theorem qp_flat {w : World} {b off : Nat} {L : List Pb} (h : qpAt w (some ⟨b, off, none⟩) L) (j : Nat) (u : Value) (hu : (rwC qpC L)[j]? = some u) : w.cell? ⟨b, off + j, none⟩ = some u := by
  have hj := (List.getElem?_eq_some_iff.1 hu).1
  rw [rwC_length qpC_len] at hj
  have hi : j / 4 < L.length := by omega
  obtain ⟨g, off', e, _, hc⟩ := h (j / 4) hi
  injection e with e
  simp only [Addr.mk.injEq, and_true] at e
  obtain ⟨rfl, rfl⟩ := e
  have hm : j = j / 4 * 4 + j % 4 := by omega
  rw [hm, rwC_at (d := noPb) qpC_len L _ _ hi (by omega)] at hu
  have := hc (j % 4) u hu
  rwa [Nat.add_assoc, ← hm] at this

set_option maxHeartbeats 2000000 in
set_option maxRecDepth 100000 in
/-- slices.Clone of a row. -/
theorem qp_clone (A : Option Addr) (cap : Nat) (L : List Pb) (w : World) (h : qpAt w A L) (h0 : A = none → L = []) (hl : L.length ≤ 1000000) :
    Calls Tryz.prog 67 #[.slice A L.length cap] w fun e w' => ∃ v, e = .returned v ∧ qpOwn w' w.heap.size v L ∧ Below w.heap.size w w' := by
  rcases A with _ | ⟨b, off, sp⟩
  · obtain rfl := h0 rfl
    have hq : ∀ (w : World) (n : Nat), (binOp .eql 30 (.slice none n cap) (.slice none 0 0)).run Tryz.prog w = .ok (.bool true) w := fun w n => Lib.run_eql_slice_nil w _ _ none n cap 0 0 Tryz.underlying30
    go_enter Tryz.func67, Tryz.ntmps67
    go_wp2_with fail
    go_ret
    exact ⟨_, rfl, World.ownsRow_nil _ _ _ _, Below.refl _ _⟩
  · obtain ⟨i0, hi, hz0, hz1, hz2⟩ := info_parts qp_info
    have hsp : sp = none ∨ L = [] := by
      rcases Nat.eq_zero_or_pos L.length with h1 | h1
      · exact .inr (List.length_eq_zero_iff.1 h1)
      · obtain ⟨g, off', e, _⟩ := h 0 h1
        injection e with e
        injection e with _ _ e
        exact .inl e
    have hq : ∀ (w : World), (binOp .eql 30 (.slice (some ⟨b, off, sp⟩) L.length cap) (.slice none 0 0)).run Tryz.prog w = .ok (.bool false) w := fun w => Lib.run_eql_slice_nil w _ _ _ _ _ 0 0 Tryz.underlying30
    have hc : ∀ j u, (rwC qpC L)[j]? = some u → w.cell? ((⟨b, off, sp⟩ : Addr).add j) = some u := by
      intro j u hu
      rcases hsp with rfl | rfl
      · rw [Addr.add_lit]
        exact qp_flat h j u hu
      · simp [rwC] at hu
    have H := Lib.hid hc
    have hz : (rwC qpC L).length = L.length * 4 := rwC_length qpC_len L
    have ho := qps_one L
    clear h hc
    generalize hcs : rwC qpC L = cs at *
    go_enter Tryz.func67, Tryz.ntmps67
    go_wp2_with (at_builtin; refine wpList_append_own _ rfl _ _ 30 rfl w.heap.size 61 i0 (.agg #[.int .i64 0, .string ⟨#[]⟩, .string ⟨#[]⟩, .int .i64 0]) 4 48 Tryz.underlying30 hi hz0 hz1 hz2 rfl (by decide) _ _ _ rfl (World.ownsRow_made w #[] 0 (Nat.le_refl _) (Nat.zero_le _) rfl) ⟨b, off, sp⟩ L.length cap cs rfl ?qc1 ?qc2 ?qc3 ?qc4 ?qc5 ?qc6 ?_)
    case qc1 => exact hz
    case qc2 => exact fun j u hu => Lib.cell?_alloc_some _ (H.out j u hu)
    case qc3 => exact ho
    case qc4 => unfold maxLen; omega
    case qc5 => omega
    case qc6 => simp
    intro v' w1 hown hgrow hnil
    go_wp2_with fail
    go_ret
    refine ⟨v', rfl, by unfold qpOwn; rw [hcs]; simpa using hown, ?_⟩
    exact ((Below.refl _ w).alloc (Nat.le_refl _) _).grown hgrow (by simp) (by intro k hk; simp [Value.ownBlock] at hk; omega)

theorem qp_eqrun (d : Nat) (r : Pb) (w : World) : (Op.equalIn (d + 2) 61 (.agg #[.int .i64 r.at_, .string r.node, .string r.relay, .int .i64 r.millis]) (.agg #[.int .i64 r.at_, .string r.node, .string r.relay, .int .i64 r.millis])).run Tryz.prog w = .ok true w := by
  have u1 := Tryz.underlying9
  have u2 := Tryz.underlying3
  have hA : Tryz.prog.underlying 61 = some (.struct (Tryz.prog.fieldsOf 61)) := by kernel_rfl
  have pA : Tryz.prog.stoodInHeld 61 = false := by kernel_rfl

  rw [run_equalIn_agg w (d + 1) 61 _ _ hA pA]
  simp only [Program.fieldsOf, Tryz.underlying61]
  go_simp
theorem qp_guard : Tryz.prog.eqGuardType Tryz.prog.depth 61 = false := by kernel_rfl
set_option maxRecDepth 100000 in
set_option maxHeartbeats 1000000 in
theorem qp_equal (A B : Option Addr) (ca cb : Nat) (L : List Pb) (w : World) (hA : qpAt w A L) (hB : qpAt w B L) (hl : L.length ≤ 1000000) :
    Calls Tryz.prog 15 #[.slice A L.length ca, .slice B L.length cb] w fun e w' => e = .returned (.bool true) ∧ Below w.heap.size w w' := by
  go_enter Tryz.func15, Tryz.ntmps15
  go_wp2_with fail
  go_loopw [13] (fun v wr => ∃ k : Nat, k ≤ L.length ∧ v = .int .i64 k ∧ Below w.heap.size w wr) (fun v _ => L.length - (intOf v).toNat)
  case atStart => exact ⟨0, Nat.zero_le _, rfl, Below.refl _ _⟩
  case round =>
    obtain ⟨k, hk, rfl, hb⟩ := hrel
    by_cases hlt : k < L.length
    · obtain ⟨g, off, rfl, hgB, hcc⟩ := (hA.below hb) k hlt
      obtain ⟨g2, off2, rfl, hgB2, hcc2⟩ := (hB.below hb) k hlt
      obtain ⟨c0, c1, c2, c3⟩ := qp_cells hcc
      obtain ⟨d0, d1, d2, d3⟩ := qp_cells hcc2
      generalize L.getD k noPb = x at *
      have hgd := qp_guard
      have hrq := fun W => qp_eqrun 9998 x W
      have HB := Lib.hid hb
      have hd : decide ((k : Int) < (L.length : Int)) = true := by simp; omega
      clear hcc hcc2 hb hA hB
      go_wp2_with fail
      go_quiet (fail)
      go_wp2_with fail
      go_roundw
      case rel => exact ⟨k + 1, by omega, by go_num, ⟨HB.out.os, HB.out.tape, HB.out.output, HB.out.size, HB.out.block⟩⟩
      case measure => simp [intOf]; omega
    · have : k = L.length := by omega
      subst this
      go_wp2_with fail
      go_ret
      exact ⟨rfl, hb⟩

end Go.Proofs.YtkbbmlkgaooaiaaGreatDoor
