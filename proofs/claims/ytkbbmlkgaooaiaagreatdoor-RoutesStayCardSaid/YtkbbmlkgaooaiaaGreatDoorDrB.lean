/- The routers that a stream hands out. -/
import Derived.Test.YtkbbmlkgaooaiaaGreatDoorDrA
import Derived.Test.YtkbbmlkgaooaiaaGreatDoorTuA
import Derived.Deep.RegionHeld3
import Derived.Deep.AppendLies
namespace Go.Proofs.YtkbbmlkgaooaiaaGreatDoor
open Go.RowKit Go.Hw

def rtCells (x : Rt) : List Value := [.bool x.six, .int .u64 x.hi, .int .u64 x.lo, .int .i64 x.bits, .string x.node, .int .i64 x.weight]
def rtsCells (xs : List Rt) : List Value := xs.flatMap rtCells
theorem rts_snoc (xs : List Rt) (x : Rt) : rtsCells (xs ++ [x]) = rtsCells xs ++ rtCells x := by simp [rtsCells]
theorem Tryz.infoRouter : (Tryz.prog.info? 55).map (fun i => (i.zero, i.size, i.bytes)) = some (some (.agg #[.bool false, .int .u64 0, .int .u64 0, .int .i64 0, .string ⟨#[]⟩, .int .i64 0]), 6, 56) := by kernel_rfl
/-- A router whose numbers are of their kinds. -/
structure RtT (x : Rt) : Prop where
  hi : U64 x.hi
  lo : U64 x.lo
  node : x.node.size ≤ 2
def RtSt (w0 wr : World) (b : Nat) (A : Option Addr) (cap : Nat) (l : List Int) (at_ : Int) (n m : Nat) (v : Value) : Prop :=
  ∃ (xs : List Rt) (x : Int), wr.ownsRow w0.heap.size 55 6 v xs.length (rtsCells xs) ∧ Str wr b A cap l x ∧ w0.grownBy wr (some b) ∧ xs.length ≤ n ∧ (at_ ≤ x ∧ x ≤ at_ + m) ∧ ∀ y ∈ xs, RtT y
theorem RtSt.mk_ {w0 wr : World} {b : Nat} {A : Option Addr} {cap : Nat} {l : List Int} {at_ : Int} {n m : Nat} {v : Value} {k : Nat} {xs : List Rt} {x : Int} (h1 : wr.ownsRow w0.heap.size 55 6 v k (rtsCells xs)) (hk : k = xs.length) (h2 : Str wr b A cap l x) (h3 : w0.grownBy wr (some b))
    (h4 : xs.length ≤ n) (h5 : at_ ≤ x) (h6 : x ≤ at_ + m) (h7 : ∀ y ∈ xs, RtT y) : RtSt w0 wr b A cap l at_ n m v := ⟨xs, x, hk ▸ h1, h2, h3, h4, ⟨h5, h6⟩, h7⟩
theorem rtT_snoc {xs : List Rt} (h : ∀ y ∈ xs, RtT y) {x : Rt} (hx : RtT x) : ∀ y ∈ xs ++ [x], RtT y := by
  intro y hy
  rcases List.mem_append.1 hy with hy | hy
  · exact h y hy
  · simp at hy; subst hy; exact hx
def nodeN (i : Nat) : ByteArray := ([⟨#[110, 97]⟩, ⟨#[110, 98]⟩, ⟨#[110, 99]⟩, ⟨#[110, 100]⟩] : List ByteArray).getD i ByteArray.empty
def nodeBlock : Obj := .cells #[.string ⟨#[110, 97]⟩, .string ⟨#[110, 98]⟩, .string ⟨#[110, 99]⟩, .string ⟨#[110, 100]⟩] 9
theorem node_cell {w : World} {B : Nat} (h : w.heap[B]? = some nodeBlock) : ∀ k, k < 4 → w.cell? ⟨B, k, none⟩ = some (.string (nodeN k)) := by
  intro k hk
  have : k = 0 ∨ k = 1 ∨ k = 2 ∨ k = 3 := by omega
  unfold nodeBlock at h
  rcases this with rfl | rfl | rfl | rfl <;> (simp only [World.cell?, h]; rfl)
theorem node_size (k : Nat) : (nodeN k).size ≤ 2 := by
  rcases k with _ | _ | _ | _ | k
  · decide
  · decide
  · decide
  · decide
  · simp [nodeN]
def pfsBlock : Obj := .cells #[.bool false, .int .u64 0, .int .u64 0, .int .i64 0, .bool false, .int .u64 0, .int .u64 167772160, .int .i64 8, .bool false, .int .u64 0, .int .u64 167772160, .int .i64 16, .bool true, .int .u64 0, .int .u64 0, .int .i64 0] 44
def pfOf (k : Nat) : Bool × Int × Int × Int := [(false, 0, 0, 0), (false, 0, 167772160, 8), (false, 0, 167772160, 16), (true, 0, 0, 0)].getD k (false, 0, 0, 0)
theorem pf_cell {w : World} {B : Nat} (h : w.heap[B]? = some pfsBlock) : ∀ k, k < 4 → ∃ six hi lo bits_, pfOf k = (six, hi, lo, bits_) ∧ U64 hi ∧ U64 lo ∧ w.cell? ⟨B, k * 4, none⟩ = some (.bool six) ∧ w.cell? ⟨B, k * 4 + 1, none⟩ = some (.int .u64 hi) ∧ w.cell? ⟨B, k * 4 + 2, none⟩ = some (.int .u64 lo) ∧ w.cell? ⟨B, k * 4 + 3, none⟩ = some (.int .i64 bits_) := by
  intro k hk
  have : k = 0 ∨ k = 1 ∨ k = 2 ∨ k = 3 := by omega
  unfold pfsBlock at h
  have u0 : U64 0 := by unfold U64; omega
  have u1 : U64 167772160 := by unfold U64; omega
  rcases this with rfl | rfl | rfl | rfl
  · exact ⟨false, 0, 0, 0, rfl, u0, u0, by simp [World.cell?, h], by simp [World.cell?, h], by simp [World.cell?, h], by simp [World.cell?, h]⟩
  · exact ⟨false, 0, 167772160, 8, rfl, u0, u1, by simp [World.cell?, h], by simp [World.cell?, h], by simp [World.cell?, h], by simp [World.cell?, h]⟩
  · exact ⟨false, 0, 167772160, 16, rfl, u0, u1, by simp [World.cell?, h], by simp [World.cell?, h], by simp [World.cell?, h], by simp [World.cell?, h]⟩
  · exact ⟨true, 0, 0, 0, rfl, u0, u0, by simp [World.cell?, h], by simp [World.cell?, h], by simp [World.cell?, h], by simp [World.cell?, h]⟩
/-- The router that round (k, t) may draw. -/
def rtOf (l : List Int) (k t : Nat) (x : Int) : Rt := ⟨(pfOf k).1, (pfOf k).2.1, (pfOf k).2.2.1, (pfOf k).2.2.2, nodeN t, ([0, 5, 5, 9] : List Int).getD (drawOf l (x + 1) (([0, 5, 5, 9] : List Int).length : Int)).toNat 0⟩
def rtRow (l : List Int) (st : List Rt × Int) (k : Nat) : Nat → List Rt × Int
  | 0 => st
  | t + 1 => if drawOf l (rtRow l st k t).2 2 == 0 then ((rtRow l st k t).1 ++ [rtOf l k t (rtRow l st k t).2], (rtRow l st k t).2 + 1 + 1) else ((rtRow l st k t).1, (rtRow l st k t).2 + 1)
def rtAll (l : List Int) (at_ : Int) : Nat → List Rt × Int
  | 0 => ([], at_)
  | k + 1 => rtRow l (rtAll l at_ k) k 4
theorem rt_no {l : List Int} {st : List Rt × Int} {k t : Nat} {xs : List Rt} {x : Int} (h : rtRow l st k t = (xs, x)) (hd : (drawOf l x 2 == 0) = false) : rtRow l st k (t + 1) = (xs, x + 1) := by
  simp only [rtRow, h, hd]; rfl
theorem rt_yes {l : List Int} {st : List Rt × Int} {k t : Nat} {xs : List Rt} {x : Int} (h : rtRow l st k t = (xs, x)) (hd : (drawOf l x 2 == 0) = true) : rtRow l st k (t + 1) = (xs ++ [rtOf l k t x], x + 1 + 1) := by
  simp only [rtRow, h, hd]; rfl
/-- The routers that are drawn, and where the stream is behind them. -/
def rtF (l : List Int) (at_ : Int) : List Rt × Int :=
  if drawOf l (rtAll l at_ 4).2 15 == 0 then ((rtAll l at_ 4).1 ++ [⟨(pxF l ((rtAll l at_ 4).2 + 1)).1, (pxF l ((rtAll l at_ 4).2 + 1)).2.1, (pxF l ((rtAll l at_ 4).2 + 1)).2.2.1, (pxF l ((rtAll l at_ 4).2 + 1)).2.2.2.1,
      ([⟨#[]⟩, ⟨#[110, 97]⟩] : List ByteArray).getD (drawOf l (pxF l ((rtAll l at_ 4).2 + 1)).2.2.2.2 (([⟨#[]⟩, ⟨#[110, 97]⟩] : List ByteArray).length : Int)).toNat ByteArray.empty, oddOf l ((pxF l ((rtAll l at_ 4).2 + 1)).2.2.2.2 + 1) 0 1000⟩], (pxF l ((rtAll l at_ 4).2 + 1)).2.2.2.2 + 1 + 2)
  else ((rtAll l at_ 4).1, (rtAll l at_ 4).2 + 1)
theorem rtF_no {l : List Int} {at_ : Int} {xs : List Rt} {x : Int} (h : rtAll l at_ 4 = (xs, x)) (hd : (drawOf l x 15 == 0) = false) : rtF l at_ = (xs, x + 1) := by
  unfold rtF; rw [h]; simp only [hd]; rfl
theorem rtF_yes {l : List Int} {at_ : Int} {xs : List Rt} {x : Int} (h : rtAll l at_ 4 = (xs, x)) (hd : (drawOf l x 15 == 0) = true) {s : Bool} {hi lo b x2 : Int} (h' : pxF l (x + 1) = (s, hi, lo, b, x2)) :
    rtF l at_ = (xs ++ [⟨s, hi, lo, b, ([⟨#[]⟩, ⟨#[110, 97]⟩] : List ByteArray).getD (drawOf l x2 (([⟨#[]⟩, ⟨#[110, 97]⟩] : List ByteArray).length : Int)).toNat ByteArray.empty, oddOf l (x2 + 1) 0 1000⟩], x2 + 1 + 2) := by
  unfold rtF; rw [h]; simp only [hd, h']; rfl
def RtX (w0 wr : World) (b : Nat) (A : Option Addr) (cap : Nat) (l : List Int) (at_ : Int) (n m : Nat) (st : List Rt × Int) (v : Value) : Prop :=
  ∃ (xs : List Rt) (x : Int), st = (xs, x) ∧ wr.ownsRow w0.heap.size 55 6 v xs.length (rtsCells xs) ∧ Str wr b A cap l x ∧ w0.grownBy wr (some b) ∧ xs.length ≤ n ∧ (at_ ≤ x ∧ x ≤ at_ + m) ∧ ∀ y ∈ xs, RtT y
theorem RtX.mk_ {w0 wr : World} {b : Nat} {A : Option Addr} {cap : Nat} {l : List Int} {at_ : Int} {n m : Nat} {st : List Rt × Int} {v : Value} {k : Nat} {xs : List Rt} {x : Int} (h1 : wr.ownsRow w0.heap.size 55 6 v k (rtsCells xs)) (hk : k = xs.length) (h2 : Str wr b A cap l x) (h3 : w0.grownBy wr (some b))
    (h4 : xs.length ≤ n) (h5 : at_ ≤ x) (h6 : x ≤ at_ + m) (h7 : ∀ y ∈ xs, RtT y) (h8 : st = (xs, x)) : RtX w0 wr b A cap l at_ n m st v := ⟨xs, x, h8, hk ▸ h1, h2, h3, h4, ⟨h5, h6⟩, h7⟩
theorem RtX.to {w0 wr : World} {b : Nat} {A : Option Addr} {cap : Nat} {l : List Int} {at_ : Int} {n m : Nat} {st : List Rt × Int} {v : Value} (h : RtX w0 wr b A cap l at_ n m st v) : RtSt w0 wr b A cap l at_ n m v := let ⟨xs, x, _, h1⟩ := h; ⟨xs, x, h1⟩

set_option maxRecDepth 100000 in
set_option maxHeartbeats 4000000 in
theorem routers_det (b : Nat) (A : Option Addr) (cap : Nat) (l : List Int) (at_ : Int) (w : World) (h : Str w b A cap l at_) (hh : at_ < 1099511620000) :
    Calls Tryz.prog 4 #[.pointer (some ⟨b, 0, none⟩)] w fun e w' => ∃ v : Value, e = .returned v ∧ RtX w w' b A cap l at_ 17 100 (rtF l at_) v := by
  have hlt := h.lt
  have hl0 := h.low
  obtain ⟨i0, hi, hz0, hz1, hz2⟩ := info_parts Tryz.infoRouter
  have HT1 : Hid (9 ≠ 55) := Lib.hid (by decide)
  have HT2 : Hid (44 ≠ 55) := Lib.hid (by decide)
  go_enter Tryz.func4, Tryz.ntmps4
  go_wp2_with fail
  generalize hW0 : World.alloc _ _ = W0
  have hs0 : Str W0 b A cap l at_ := by rw [← hW0]; exact h.alloc _
  have hp0 : W0.heap[w.heap.size]? = some pfsBlock := by rw [← hW0]; exact heap_alloc_new w _
  have hg0 : w.grownBy W0 (some b) := by rw [← hW0]; exact World.grownBy_alloc _ _ _
  have hsz0 : W0.heap.size = w.heap.size + 1 := by rw [← hW0]; simp
  have HP0 := Lib.hid hp0
  have HG0 := Lib.hid hg0
  have HSZ := Lib.hid hsz0
  have hlt0 : b < W0.heap.size := by omega
  have hwl : w.heap.size < W0.heap.size := by omega
  clear hW0 h hp0 hg0 hsz0
  go_loopw [3, 17] (fun v i wr => ∃ (k : Nat) (sv : Value), sv = v ∧ k ≤ 4 ∧ i = .int .i64 k ∧ RtX W0 wr b A cap l at_ (4 * k) (8 * k) (rtAll l at_ k) sv) (fun _ i _ => 4 - (intOf i).toNat)
  case atStart => exact ⟨0, _, rfl, by omega, rfl, RtX.mk_ (xs := []) (World.ownsRow_nil _ _ _ _) rfl hs0 (World.grownBy.refl _ _) (by simp) (by omega) (by omega) (by simp) rfl⟩
  case round =>
    clear hs0
    obtain ⟨k, sv, rfl, hk, rfl, hrel⟩ := hrel
    by_cases hk4 : k < 4
    · obtain ⟨xs, x, hst, ho, hs, hg, hxl, hxb, hxs⟩ := hrel
      have hpb := blk_grown HP0.out hg (by intro e; injection e; omega)
      obtain ⟨six, hi_, lo, bits_, hpf, uh, ul, c0, c1, c2, c3⟩ := pf_cell hpb k hk4
      have hw1 := hg.size
      have HPF := Lib.hid hpf
      clear hpf
      have hstart : RtX W0 ((wr.alloc (pfBox six hi_ lo bits_)).alloc nodeBlock) b A cap l at_ (4 * k + 0) (8 * k + 2 * 0) (rtRow l (rtAll l at_ k) k 0) sv := RtX.mk_ ((ho.alloc _).alloc _) rfl ((hs.alloc _).alloc _) (grown_of_box (grown_of_box hg)) (by omega) (by omega) (by omega) hxs hst
      have HSTART := Lib.hid hstart
      have hB5 : ((wr.alloc (pfBox six hi_ lo bits_)).alloc nodeBlock).heap[wr.heap.size]? = some (pfBox six hi_ lo bits_) := (heap_alloc_old _ _ (by simp)).trans (heap_alloc_new wr _)
      have hS5 : ((wr.alloc (pfBox six hi_ lo bits_)).alloc nodeBlock).heap[wr.heap.size + 1]? = some nodeBlock := by
        have := heap_alloc_new (wr.alloc (pfBox six hi_ lo bits_)) nodeBlock
        simp only [Re_size] at this
        exact this
      have HB5 := Lib.hid hB5
      have HS5 := Lib.hid hS5
      have hd : decide ((k : Int) < 4) = true := by simp; omega
      clear ho hs hg hxl hxb hxs hpb hstart hB5 hS5 hst
      go_wp2_with fail
      clear c0 c1 c2 c3
      obtain ⟨wo, rfl⟩ : ∃ wo : World, wo = wr := ⟨_, rfl⟩
      go_loopw [3, 23] (fun v j wi => ∃ (t : Nat) (sv : Value), sv = v ∧ t ≤ 4 ∧ j = .int .i64 t ∧ RtX W0 wi b A cap l at_ (4 * k + t) (8 * k + 2 * t) (rtRow l (rtAll l at_ k) k t) sv ∧ wi.heap[wo.heap.size]? = some (pfBox six hi_ lo bits_) ∧ wi.heap[wo.heap.size + 1]? = some nodeBlock) (fun _ j _ => 4 - (intOf j).toNat)
      case atStart => exact ⟨0, sv, rfl, by omega, rfl, HSTART.out, HB5.out, HS5.out⟩
      case round =>
        obtain ⟨t, sv, rfl, ht, rfl, hrel, hB5, hS5⟩ := hrel
        clear HSTART HB5 HS5
        by_cases htk : t < 4
        · obtain ⟨xs, x, hst, ho, hs, hg, hxl, hxb, hxs⟩ := hrel
          have hct := node_cell hS5 t htk
          have hps := node_size t
          have hnb := own_ne ho hlt0
          have HXS := Lib.hid hxs
          have HB5 := Lib.hid hB5
          have HS5 := Lib.hid hS5
          have HNO := Lib.hid (fun hd => rt_no hst hd)
          have HYES := Lib.hid (fun hd => rt_yes hst hd)
          unfold rtOf at HYES
          rw [HPF.out] at HYES
          clear hxs hB5 hS5 hst
          generalize nodeN t = p at *
          cases hx : drawOf l x 2 == 0
          · go_wp2_with fail
            refine (flip_any b A cap l _ _ _ hs (by omega) (by omega) (by omega)).mono ?_
            rintro e w2 ⟨rfl, hs1, hg1⟩
            rw [hx]
            have hrow := RtX.mk_ (n := 4 * k + (t + 1)) (m := 8 * k + 2 * (t + 1)) (at_ := at_) (ho.kept hg1 (.inr hnb)) rfl hs1 (hg.andThen hg1 (fun _ h => .inr h)) (by omega) (by omega) (by omega) HXS.out (HNO.out hx)
            have hb2 := blk_grown HB5.out hg1 (by intro e; injection e; omega)
            have hb3 := blk_grown HS5.out hg1 (by intro e; injection e; omega)
            clear hs ho hg hg1 hs1
            go_wp2_with fail
            go_roundw
            case rel => exact ⟨t + 1, sv, rfl, by omega, by go_num, hrow, hb2, hb3⟩
            case measure => simp [intOf]; omega
          · go_wp2_with fail
            refine (flip_any b A cap l _ _ _ hs (by omega) (by omega) (by omega)).mono ?_
            rintro e w2 ⟨rfl, hs1, hg1⟩
            rw [hx]
            have hb1 := blk_grown HB5.out hg1 (by intro e; injection e; omega)
            have hc1 := blk_grown HS5.out hg1 (by intro e; injection e; omega)
            have HO1 := Lib.hid (ho.kept hg1 (.inr hnb))
            have HG1 := Lib.hid (hg.andThen hg1 (fun _ h => .inr h))
            have HS1 := Lib.hid hs1
            have HB1 := Lib.hid hb1
            have HC1 := Lib.hid hc1
            obtain ⟨⟨x0, x1, x2, x3⟩, -⟩ := res4 hb1
            have hb2l : wo.heap.size < w2.heap.size := lt_blk hb1
            have hbw2 : b < w2.heap.size := hs1.lt
            have HQ := Lib.hid (HYES.out hx)
            clear hs ho hg hg1 HB5 HS5 hct hs1 hb1 hc1 hx HYES HNO
            go_wp2_with fail
            go_region_held3 (fun w' => w'.cell? ⟨wo.heap.size, 0, none⟩ = some (.bool six) ∧ w'.cell? ⟨wo.heap.size, 1, none⟩ = some (.int .u64 hi_) ∧ w'.cell? ⟨wo.heap.size, 2, none⟩ = some (.int .u64 lo) ∧ w'.cell? ⟨wo.heap.size, 3, none⟩ = some (.int .i64 bits_))
              (first | exact ⟨x0, x1, x2, x3⟩ | exact ⟨y0, y1, y2, y3⟩ | exact ⟨z0, z1, z2, z3⟩ | exact ⟨(World.cell?_alloc_lt _ _ ⟨wo.heap.size, 0, none⟩ hl3).trans y0, (World.cell?_alloc_lt _ _ ⟨wo.heap.size, 1, none⟩ hl3).trans y1, (World.cell?_alloc_lt _ _ ⟨wo.heap.size, 2, none⟩ hl3).trans y2, (World.cell?_alloc_lt _ _ ⟨wo.heap.size, 3, none⟩ hl3).trans y3⟩ | ((repeat' apply And.intro) <;> (first | (go_simp; done) | with_reducible assumption)))
              (first
                | (go_at_call 19; refine (pick_any b A cap l (x + 1) _ (HS1.out.alloc _).dr (by omega) w2.heap.size [0, 5, 5, 9] (heap_alloc_new w2 _) (by omega) (by simp) (by simp) 4 4 rfl).mono ?_; rintro e w3 ⟨rfl, hs2, hg2⟩
                   generalize hpw : ([0, 5, 5, 9] : List Int).getD (drawOf l (x + 1) (([0, 5, 5, 9] : List Int).length : Int)).toNat 0 = pw
                   have HPW := Lib.hid hpw
                   clear hpw
                   have HS2 := Lib.hid hs2
                   have hg2' := drew_grown hg2
                   have HG2 := Lib.hid (HG1.out.andThen (grown_alloc_then hg2') (fun _ h => .inr h))
                   have HO2 := Lib.hid ((HO1.out.alloc (.cells #[.int .i64 0, .int .i64 5, .int .i64 5, .int .i64 9] 3)).kept hg2' (.inr hnb))
                   have HB2 := Lib.hid (blk_grown (blk_alloc HB1.out (.cells #[.int .i64 0, .int .i64 5, .int .i64 5, .int .i64 9] 3)) hg2' (by intro e; injection e; omega))
                   have HC2 := Lib.hid (blk_grown (blk_alloc HC1.out (.cells #[.int .i64 0, .int .i64 5, .int .i64 5, .int .i64 9] 3)) hg2' (by intro e; injection e; omega))
                   obtain ⟨⟨y0, y1, y2, y3⟩, -⟩ := res4 HB2.out
                   have hl3 := lt_blk HB2.out
                   clear hs2 hg2 hg2')
                | (refine step_append_lies _ (by rfl) _ _ _ (by rfl) W0.heap.size 55 i0 _ 6 56 Tryz.underlying26 hi hz0 hz1 hz2 rfl (by omega) sv _ _ (by rfl) (World.ownsRow.alloc HO2.out _)
                    ⟨w3.heap.size, 0, none⟩ 1 1 [.bool six, .int .u64 hi_, .int .u64 lo, .int .i64 bits_, .string p, .int .i64 pw] (by rfl) (by rfl)
                    (World.news_of_block (cs := #[.bool six, .int .u64 hi_, .int .u64 lo, .int .i64 bits_, .string p, .int .i64 pw]) (t := 55) (fr := (0, 0)) (heap_alloc_new w3 _)) (by simp [Value.oneCell'])
                    (by omega) (by unfold maxLen; omega) (by omega) (by have := HG2.out.size; simp; omega) (w3.heap.size + 1) (by simp) ?_; intro gg cg w4 hown4 hgrow hat hgl
                   have hb4 := blk_grown (blk_alloc HB2.out _) hgrow (fun e => own_type_ne HO2.out HB2.out HT2.out e.symm)
                   obtain ⟨⟨z0, z1, z2, z3⟩, -⟩ := res4 hb4))
            have hs4 := (HS2.out.alloc _).grown hgrow (fun j hj => by have := (World.ownsRow.lt HO2.out j hj).1; omega)
            have hg5 := HG2.out.andThen ((World.grownBy_alloc w3 _ _).andThen hgrow (fun _ h => .inr h)) (fun j hj => .inl (World.ownsRow.lt HO2.out j hj).1)
            have hc4 := blk_grown (blk_alloc HC2.out _) hgrow (fun e => own_type_ne HO2.out HC2.out HT1.out e.symm)
            have hrow := RtX.mk_ (n := 4 * k + (t + 1)) (m := 8 * k + 2 * (t + 1)) (at_ := at_) (xs := xs ++ [⟨six, hi_, lo, bits_, p, pw⟩]) (by rw [rts_snoc]; exact hown4) (by simp) hs4 hg5 (by simp; omega) (by omega) (by omega) (rtT_snoc HXS.out ⟨uh, ul, hps⟩) (HQ.out.trans (by rw [HPW.out]))
            have HROW := Lib.hid hrow
            have HB4 := Lib.hid hb4
            have HC4 := Lib.hid hc4
            clear hs4 hg5 hc4 hrow hb4 hown4 hgrow hat z0 z1 z2 z3 x0 x1 x2 x3 HO1 HS1 HG1 HB1 HC1
            go_wp2_with fail
            go_roundw
            case rel => exact ⟨t + 1, _, rfl, by omega, by go_num, HROW.out, HB4.out, HC4.out⟩
            case measure => simp [intOf]; omega
        · have : t = 4 := by omega
          subst this
          clear hB5 hS5
          go_wp2_with fail
          go_roundw
          case rel => exact ⟨k + 1, sv, rfl, by omega, by go_num, by rw [show 4 * (k + 1) = 4 * k + 4 from by omega, show 8 * (k + 1) = 8 * k + 2 * 4 from by omega]; exact hrel⟩
          case measure => simp [intOf]; omega
    · have : k = 4 := by omega
      subst this
      obtain ⟨xs, x, hst, ho, hs, hg, hxl, hxb, hxs⟩ := hrel
      have hnb := own_ne ho hlt0
      have HXS := Lib.hid hxs
      have HST := Lib.hid hst
      clear hxs hst
      cases hx : drawOf l x 15 == 0
      · go_wp2_with fail
        refine (flip_any b A cap l _ _ _ hs (by omega) (by omega) (by omega)).mono ?_
        rintro e w1 ⟨rfl, hs1, hg1⟩
        rw [hx]
        have hrow : RtX w w1 b A cap l at_ 17 100 (rtF l at_) sv := RtX.mk_ (own_base (ho.kept hg1 (.inr hnb)) (by omega)) rfl hs1 ((HG0.out.andThen hg (fun _ h => .inr h)).andThen hg1 (fun _ h => .inr h)) (by omega) (by omega) (by omega) HXS.out (rtF_no HST.out hx)
        clear hs ho hg hg1 hs1
        go_wp2_with fail
        go_ret
        exact ⟨_, rfl, hrow⟩
      · go_wp2_with fail
        refine (flip_any b A cap l _ _ _ hs (by omega) (by omega) (by omega)).mono ?_
        rintro e w1 ⟨rfl, hs1, hg1⟩
        rw [hx]
        have ho1 := ho.kept hg1 (.inr hnb)
        have hgg1 := (HG0.out.andThen hg (fun _ h => .inr h)).andThen hg1 (fun _ h => .inr h)
        have HY := Lib.hid (fun (s : Bool) (hi lo b x2 : Int) h' => rtF_yes (s := s) (hi := hi) (lo := lo) (b := b) (x2 := x2) HST.out hx h')
        clear hs ho hg hg1 hx HST
        go_wp2_with fail
        refine (prefix_det b A cap l (x + 1) w1 hs1 (by omega)).mono ?_
        rintro e w2 ⟨six, hi_, lo, bits_, x2, hF, rfl, uh, ul, ⟨hx2a, hx2b⟩, hs2, hg2⟩
        have HQ := Lib.hid (HY.out _ _ _ _ _ hF)
        clear hF HY
        have ho2 := ho1.kept hg2 (.inr hnb)
        have hgg2 := hgg1.andThen hg2 (fun _ h => .inr h)
        clear hs1 ho1 hgg1 hg2
        go_wp2_with fail
        refine (some_any b A cap l _ _ (hs2.alloc _) (by omega) w2.heap.size [⟨#[]⟩, ⟨#[110, 97]⟩] (by rw [heap_alloc_new]; rfl) (by have := hs2.lt; omega) (by simp) (by simp) 2 2 rfl).mono ?_
        rintro e w3 ⟨rfl, hs3, hg3⟩
        have ho3 := (ho2.alloc (.cells #[.string ⟨#[]⟩, .string ⟨#[110, 97]⟩] 9)).kept hg3 (.inr hnb)
        have hgg3 := hgg2.andThen (grown_alloc_then hg3) (fun _ h => .inr h)
        clear hs2 ho2 hgg2 hg3
        have hps : (([⟨#[]⟩, ⟨#[110, 97]⟩] : List ByteArray).getD (drawOf l x2 (([⟨#[]⟩, ⟨#[110, 97]⟩] : List ByteArray).length : Int)).toNat ByteArray.empty).size ≤ 2 := by
          generalize (drawOf l x2 (([⟨#[]⟩, ⟨#[110, 97]⟩] : List ByteArray).length : Int)).toNat = d
          rcases d with _ | _ | d
          · decide
          · decide
          · simp
        generalize ([⟨#[]⟩, ⟨#[110, 97]⟩] : List ByteArray).getD (drawOf l x2 (([⟨#[]⟩, ⟨#[110, 97]⟩] : List ByteArray).length : Int)).toNat ByteArray.empty = p at *
        go_wp2_with fail
        refine (odd_any b A cap l _ 0 1000 _ hs3 (by omega) (by omega) (by omega) (by omega)).mono ?_
        rintro e w4 ⟨rfl, hs4, hg4⟩
        have ho4 := ho3.kept hg4 (.inr hnb)
        have hgg4 := hgg3.andThen hg4 (fun _ h => .inr h)
        clear hs3 ho3 hgg3 hg4
        generalize oddOf l (x2 + 1) 0 1000 = o2 at *
        go_wp2_with (at_builtin; refine wpList_append_own _ rfl (.tmp 42) (.tmp 51) 26 rfl W0.heap.size 55 i0 (.agg #[.bool false, .int .u64 0, .int .u64 0, .int .i64 0, .string ⟨#[]⟩, .int .i64 0]) 6 56 Tryz.underlying26 hi hz0 hz1 hz2 rfl (by decide) _ _ _ rfl (ho4.alloc _) ⟨w4.heap.size, 0, none⟩ 1 1 [.bool six, .int .u64 hi_, .int .u64 lo, .int .i64 bits_, .string p, .int .i64 o2] rfl rfl ?d1 ?d2 ?d3 ?d4 ?d5 ?_)
        case d1 => exact cells_new w4 [.bool six, .int .u64 hi_, .int .u64 lo, .int .i64 bits_, .string p, .int .i64 o2] _
        case d2 => simp [Value.oneCell']
        case d3 => unfold maxLen; omega
        case d4 => omega
        case d5 => have := hgg4.size; have := HSZ.out; simp at this ⊢; omega
        intro v' w5 ho5 hg5 _
        have hs5 := (hs4.alloc (.cells #[.bool six, .int .u64 hi_, .int .u64 lo, .int .i64 bits_, .string p, .int .i64 o2] 55)).grown hg5 (fun j hj => by have := (ho4.lt j hj).1; omega)
        have hg6 := hgg4.andThen ((World.grownBy_alloc w4 (.cells #[.bool six, .int .u64 hi_, .int .u64 lo, .int .i64 bits_, .string p, .int .i64 o2] 55) _).andThen hg5 (fun _ h => .inr h)) (fun j hj => .inl (by have := (ho4.lt j hj).1; omega))
        have hrow : RtX w w5 b A cap l at_ 17 100 (rtF l at_) v' := RtX.mk_ (xs := xs ++ [⟨six, hi_, lo, bits_, p, o2⟩]) (own_base (by rw [rts_snoc]; exact ho5) (by omega)) (by simp) hs5 hg6 (by simp; omega) (by omega) (by omega) (rtT_snoc HXS.out ⟨uh, ul, hps⟩) HQ.out
        clear ho4 hs4 hgg4 hg5 hg6 hs5 ho5
        go_wp2_with fail
        go_ret
        exact ⟨_, rfl, hrow⟩
theorem routers_any (b : Nat) (A : Option Addr) (cap : Nat) (l : List Int) (at_ : Int) (w : World) (h : Str w b A cap l at_) (hh : at_ < 1099511620000) :
    Calls Tryz.prog 4 #[.pointer (some ⟨b, 0, none⟩)] w fun e w' => ∃ v : Value, e = .returned v ∧ RtSt w w' b A cap l at_ 17 100 v :=
  (routers_det b A cap l at_ w h hh).mono fun _ _ ⟨v, h1, h2⟩ => ⟨v, h1, h2.to⟩
end Go.Proofs.YtkbbmlkgaooaiaaGreatDoor
