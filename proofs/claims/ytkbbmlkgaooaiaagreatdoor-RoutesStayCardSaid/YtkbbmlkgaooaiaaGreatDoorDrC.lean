/- The log of health that a stream hands out, as a function of what it draws. -/
import Derived.Test.YtkbbmlkgaooaiaaGreatDoorTnO
import Derived.Test.YtkbbmlkgaooaiaaGreatDoorTuA
import Derived.Test.YtkbbmlkgaooaiaaGreatDoorDrA
import Derived.Deep.Cut
namespace Go.Proofs.YtkbbmlkgaooaiaaGreatDoor
open Go.RowKit Go.Hw

def hlCells (x : Hl) : List Value := [.int .i64 x.at_, .string x.node, .bool x.up]
def hlsCells (xs : List Hl) : List Value := xs.flatMap hlCells
theorem hls_snoc (xs : List Hl) (x : Hl) : hlsCells (xs ++ [x]) = hlsCells xs ++ hlCells x := by simp [hlsCells]
theorem Tryz.infoHealth : (Tryz.prog.info? 58).map (fun i => (i.zero, i.size, i.bytes)) = some (some (.agg #[.int .i64 0, .string ⟨#[]⟩, .bool false]), 3, 32) := by kernel_rfl
def HlSt (w0 wr : World) (b : Nat) (A : Option Addr) (cap : Nat) (l : List Int) (at_ : Int) (n m : Nat) (v : Value) : Prop :=
  ∃ (xs : List Hl) (x : Int), wr.ownsRow w0.heap.size 58 3 v xs.length (hlsCells xs) ∧ Str wr b A cap l x ∧ w0.grownBy wr (some b) ∧ xs.length ≤ n ∧ (at_ ≤ x ∧ x ≤ at_ + m) ∧ ∀ y ∈ xs, y.node.size ≤ 2
theorem HlSt.mk_ {w0 wr : World} {b : Nat} {A : Option Addr} {cap : Nat} {l : List Int} {at_ : Int} {n m : Nat} {v : Value} {k : Nat} {xs : List Hl} {x : Int} (h1 : wr.ownsRow w0.heap.size 58 3 v k (hlsCells xs)) (hk : k = xs.length) (h2 : Str wr b A cap l x) (h3 : w0.grownBy wr (some b))
    (h4 : xs.length ≤ n) (h5 : at_ ≤ x) (h6 : x ≤ at_ + m) (h7 : ∀ y ∈ xs, y.node.size ≤ 2) : HlSt w0 wr b A cap l at_ n m v := ⟨xs, x, hk ▸ h1, h2, h3, h4, ⟨h5, h6⟩, h7⟩
theorem hl_snoc {xs : List Hl} (h : ∀ y ∈ xs, y.node.size ≤ 2) {x : Hl} (hx : x.node.size ≤ 2) : ∀ y ∈ xs ++ [x], y.node.size ≤ 2 := by
  intro y hy
  rcases List.mem_append.1 hy with hy | hy
  · exact h y hy
  · simp at hy; subst hy; exact hx
/-- A log of health in memory, below block B. -/
def HlsAt (w : World) (B : Nat) (A : Option Addr) (l : List Hl) : Prop :=
  ∀ i, i < l.length → ∃ g off, A = some ⟨g, off, none⟩ ∧ g < B ∧ w.cell? ⟨g, off + i * 3, none⟩ = some (.int .i64 (l.getD i noHl).at_) ∧ w.cell? ⟨g, off + i * 3 + 1, none⟩ = some (.string (l.getD i noHl).node) ∧ w.cell? ⟨g, off + i * 3 + 2, none⟩ = some (.bool (l.getD i noHl).up)
theorem HlsAt.below {w w' : World} {B : Nat} {A : Option Addr} {l : List Hl} (h : HlsAt w B A l) (hb : Below B w w') : HlsAt w' B A l := fun i hi =>
  let ⟨g, off, h1, h2, h3, h4, h5⟩ := h i hi
  ⟨g, off, h1, h2, (hb.cell (p := ⟨g, _, none⟩) h2).trans h3, (hb.cell (p := ⟨g, _, none⟩) h2).trans h4, (hb.cell (p := ⟨g, _, none⟩) h2).trans h5⟩
theorem HlsAt.more {w : World} {B B' : Nat} {A : Option Addr} {l : List Hl} (h : HlsAt w B A l) (hb : B ≤ B') : HlsAt w B' A l := fun i hi =>
  let ⟨g, off, h1, h2, h3⟩ := h i hi
  ⟨g, off, h1, by omega, h3⟩
theorem hls_at {w : World} {base : Nat} {v : Value} {l : List Hl} (h : w.ownsRow base 58 3 v l.length (hlsCells l)) : ∃ A cap, v = .slice A l.length cap ∧ HlsAt w w.heap.size A l := by
  obtain ⟨A, cap, rfl, hc⟩ := own_reads h
  refine ⟨A, cap, rfl, fun i hi => ?_⟩
  have he : l.getD i noHl = l[i] := by rw [List.getD_eq_getElem?_getD, List.getElem?_eq_getElem hi]; rfl
  have hcell := fun j u hu => hc _ _ (flat3 hlCells (fun _ => rfl) l i hi j u hu)
  obtain ⟨g, h1, h2, h3⟩ := hcell 0 _ rfl
  obtain ⟨g', h1', _, h4⟩ := hcell 1 _ rfl
  obtain ⟨g'', h1'', _, h5⟩ := hcell 2 _ rfl
  rw [h1] at h1' h1''
  injection h1' with h1'
  injection h1' with h1'
  injection h1'' with h1''
  injection h1'' with h1''
  subst h1' h1''
  exact ⟨g, 0, h1, h2, by rw [he, Nat.zero_add]; exact h3, by rw [he, Nat.zero_add]; exact h4, by rw [he, Nat.zero_add]; exact h5⟩
theorem some_get {vs : List ByteArray} {P : ByteArray → Prop} (h : ∀ v ∈ vs, P v) (l : List Int) (at_ : Int) (hv : vs ≠ []) : P (vs.getD (drawOf l at_ (vs.length : Int)).toNat ByteArray.empty) := by
  have hp : 0 < vs.length := List.length_pos_iff.2 hv
  have h1 := draw_low l at_ (vs.length : Int) (by omega)
  have h2 := draw_high l at_ (vs.length : Int) (by omega)
  rw [List.getD_eq_getElem?_getD, List.getElem?_eq_getElem (by omega)]
  exact h _ (List.getElem_mem _)
def hlBox (at_ : Int) (p : ByteArray) (up : Bool) : Obj := .cells #[.int .i64 at_, .string p, .bool up] 58 (0, 0)
theorem own_dn {w : World} {base : Nat} {e : TypeId} {size : Nat} {v : Value} {n : Nat} {xs : List Value} (h : w.ownsRow base e size v n xs) (q : Nat) : (w.drewN q).ownsRow base e size v n xs :=
  h.kept (row := none) ⟨rfl, rfl, rfl, Nat.le_refl _, fun _ _ _ => rfl⟩ (by cases hv : v.ownBlock <;> simp)
theorem Str.dn {w : World} {b : Nat} {A : Option Addr} {cap : Nat} {l : List Int} {x : Int} (h : Str w b A cap l x) (q : Nat) : Str (w.drewN q) b A cap l x := h.keep rfl fun _ _ => rfl
theorem grown_dn {w w' : World} {r : Option Nat} (h : w.grownBy w' r) (q : Nat) : w.grownBy (w'.drewN q) r := ⟨h.os, h.tape, h.output, h.size, h.block⟩
theorem grown_setc {w w' : World} {b B : Nat} (h : w.grownBy w' (some b)) (hB : w.heap.size ≤ B) (o : Nat) (v : Value) : w.grownBy (w'.setCell ⟨B, o, none⟩ v) (some b) :=
  ⟨h.os, h.tape, h.output, by have := h.size; simpa using this, fun i hi hn => (Below.heap_setCell w' _ v i (by simp only; omega)).trans (h.block i hi hn)⟩
/-- Behind the test, ahead of the append: the new one lies in block B. -/
def HlMid (w W : World) (b : Nat) (A : Option Addr) (cap : Nat) (l : List Int) (x : Int) (B : Nat) (sv : Value) (xs : List Hl) (nw : Int) (p : ByteArray) (up : Bool) : Prop :=
  W.ownsRow w.heap.size 58 3 sv xs.length (hlsCells xs) ∧ Str W b A cap l x ∧ w.grownBy W (some b) ∧ W.heap[B]? = some (hlBox nw p up) ∧ sv.ownBlock ≠ some B
theorem HlMid.dn {w W : World} {b : Nat} {A : Option Addr} {cap : Nat} {l : List Int} {x : Int} {B : Nat} {sv : Value} {xs : List Hl} {nw : Int} {p : ByteArray} {up : Bool} (h : HlMid w W b A cap l x B sv xs nw p up) (q : Nat) : HlMid w (W.drewN q) b A cap l x B sv xs nw p up :=
  ⟨own_dn h.1 q, h.2.1.dn q, grown_dn h.2.2.1 q, h.2.2.2⟩
theorem HlMid.later {w W : World} {b : Nat} {A : Option Addr} {cap : Nat} {l : List Int} {x : Int} {B : Nat} {sv : Value} {xs : List Hl} {nw : Int} {p : ByteArray} {up : Bool} (h : HlMid w W b A cap l x B sv xs nw p up) (hB : w.heap.size ≤ B) (hbB : b < B) (nw' : Int) : HlMid w (W.setCell ⟨B, 0, none⟩ (.int .i64 nw')) b A cap l x B sv xs nw' p up := by
  obtain ⟨ho, hs, hg, hx, hne⟩ := h
  have hr := (Re.refl hx).set 0 (.int .i64 nw')
  have hgB : W.grownBy (W.setCell ⟨B, 0, none⟩ (.int .i64 nw')) (some B) := ⟨rfl, rfl, rfl, by simp, fun i _ hi => Below.heap_setCell W _ _ i (fun e => hi (by rw [e]))⟩
  exact ⟨ho.kept hgB (.inr hne), hr.str hs hbB, grown_setc hg hB _ _, by simpa [hlBox] using hr.blk, hne⟩
def HlB (w0 wr : World) (b : Nat) (A : Option Addr) (cap : Nat) (l : List Int) (at_ : Int) (n m : Nat) (v : Value) (xs : List Hl) (x : Int) : Prop :=
  wr.ownsRow w0.heap.size 58 3 v xs.length (hlsCells xs) ∧ Str wr b A cap l x ∧ w0.grownBy wr (some b) ∧ xs.length ≤ n ∧ (at_ ≤ x ∧ x ≤ at_ + m) ∧ ∀ y ∈ xs, y.node.size ≤ 2
theorem HlB.mk_ {w0 wr : World} {b : Nat} {A : Option Addr} {cap : Nat} {l : List Int} {at_ : Int} {n m : Nat} {v : Value} {k : Nat} {xs : List Hl} {x : Int} (h1 : wr.ownsRow w0.heap.size 58 3 v k (hlsCells xs)) (hk : k = xs.length) (h2 : Str wr b A cap l x) (h3 : w0.grownBy wr (some b))
    (h4 : xs.length ≤ n) (h5 : at_ ≤ x) (h6 : x ≤ at_ + m) (h7 : ∀ y ∈ xs, y.node.size ≤ 2) : HlB w0 wr b A cap l at_ n m v xs x := ⟨hk ▸ h1, h2, h3, h4, ⟨h5, h6⟩, h7⟩
def HlX (w0 wr : World) (b : Nat) (A : Option Addr) (cap : Nat) (l : List Int) (at_ : Int) (n m : Nat) (st : List Hl × Int) (v : Value) : Prop := ∃ (xs : List Hl) (x : Int), st = (xs, x) ∧ HlB w0 wr b A cap l at_ n m v xs x
/-- The moment of the next entry. -/
def hlNow (xs : List Hl) (n : Int) (p : ByteArray) : Int :=
  if 0 < xs.length ∧ ((xs.getD (xs.length - 1) noHl).at_ == n) = true ∧ (!Op.bytesLess (xs.getD (xs.length - 1) noHl).node.toList p.toList) = true then n + 1 else n
theorem hlNow_0 {xs : List Hl} (n : Int) (p : ByteArray) (h : xs.length = 0) : hlNow xs n p = n := by unfold hlNow; rw [if_neg (by omega)]
theorem hlNow_1 {xs : List Hl} {n : Int} {p : ByteArray} (h : ((xs.getD (xs.length - 1) noHl).at_ == n) = false) : hlNow xs n p = n := by unfold hlNow; rw [if_neg (by rw [h]; simp)]
theorem hlNow_2 {xs : List Hl} {n : Int} {p : ByteArray} (h : (!Op.bytesLess (xs.getD (xs.length - 1) noHl).node.toList p.toList) = false) : hlNow xs n p = n := by unfold hlNow; rw [if_neg (by rw [h]; simp)]
theorem hlNow_3 {xs : List Hl} {n : Int} {p : ByteArray} (h0 : ¬ xs.length = 0) (h1 : ((xs.getD (xs.length - 1) noHl).at_ == n) = true) (h2 : (!Op.bytesLess (xs.getD (xs.length - 1) noHl).node.toList p.toList) = true) : hlNow xs n p = n + 1 := by unfold hlNow; rw [if_pos ⟨by omega, h1, h2⟩]
def hlStep (l : List Int) (xs : List Hl) (n x : Int) (p : ByteArray) : List Hl × Int × Int := (xs ++ [⟨hlNow xs n p, p, !(drawOf l (x + 1 + 1) 3 == 0)⟩], hlNow xs n p, x + 1 + 1 + 1)
def hlTo (l : List Int) (at_ : Int) : Nat → List Hl × Int × Int
  | 0 => ([], 0, at_)
  | k + 1 => hlStep l (hlTo l at_ k).1 ((hlTo l at_ k).2.1 + ([0, 1, 10, 30] : List Int).getD (drawOf l (hlTo l at_ k).2.2 (([0, 1, 10, 30] : List Int).length : Int)).toNat 0) (hlTo l at_ k).2.2
      (([⟨#[110, 97]⟩, ⟨#[110, 98]⟩, ⟨#[110, 99]⟩, ⟨#[110, 100]⟩] : List ByteArray).getD (drawOf l ((hlTo l at_ k).2.2 + 1) (([⟨#[110, 97]⟩, ⟨#[110, 98]⟩, ⟨#[110, 99]⟩, ⟨#[110, 100]⟩] : List ByteArray).length : Int)).toNat ByteArray.empty)
theorem hl_step {l : List Int} {at_ : Int} {k : Nat} {xs : List Hl} {now x : Int} (h : hlTo l at_ k = (xs, now, x)) : hlTo l at_ (k + 1) =
    (xs ++ [⟨hlNow xs (now + ([0, 1, 10, 30] : List Int).getD (drawOf l x (([0, 1, 10, 30] : List Int).length : Int)).toNat 0) (([⟨#[110, 97]⟩, ⟨#[110, 98]⟩, ⟨#[110, 99]⟩, ⟨#[110, 100]⟩] : List ByteArray).getD (drawOf l (x + 1) (([⟨#[110, 97]⟩, ⟨#[110, 98]⟩, ⟨#[110, 99]⟩, ⟨#[110, 100]⟩] : List ByteArray).length : Int)).toNat ByteArray.empty), ([⟨#[110, 97]⟩, ⟨#[110, 98]⟩, ⟨#[110, 99]⟩, ⟨#[110, 100]⟩] : List ByteArray).getD (drawOf l (x + 1) (([⟨#[110, 97]⟩, ⟨#[110, 98]⟩, ⟨#[110, 99]⟩, ⟨#[110, 100]⟩] : List ByteArray).length : Int)).toNat ByteArray.empty, !(drawOf l (x + 1 + 1) 3 == 0)⟩],
      hlNow xs (now + ([0, 1, 10, 30] : List Int).getD (drawOf l x (([0, 1, 10, 30] : List Int).length : Int)).toNat 0) (([⟨#[110, 97]⟩, ⟨#[110, 98]⟩, ⟨#[110, 99]⟩, ⟨#[110, 100]⟩] : List ByteArray).getD (drawOf l (x + 1) (([⟨#[110, 97]⟩, ⟨#[110, 98]⟩, ⟨#[110, 99]⟩, ⟨#[110, 100]⟩] : List ByteArray).length : Int)).toNat ByteArray.empty), x + 1 + 1 + 1) := by
  rw [hlTo, h]; rfl
/-- The log that is drawn, and where the stream is behind it. -/
def hlF (l : List Int) (at_ : Int) (many : Nat) : List Hl × Int :=
  if drawOf l (hlTo l at_ many).2.2 20 == 0 then ((hlTo l at_ many).1 ++ [⟨([-1, 345686400, 0] : List Int).getD (drawOf l ((hlTo l at_ many).2.2 + 1) (([-1, 345686400, 0] : List Int).length : Int)).toNat 0, ([⟨#[]⟩, ⟨#[110, 97]⟩] : List ByteArray).getD (drawOf l ((hlTo l at_ many).2.2 + 1 + 1) (([⟨#[]⟩, ⟨#[110, 97]⟩] : List ByteArray).length : Int)).toNat ByteArray.empty, false⟩], (hlTo l at_ many).2.2 + 1 + 1 + 1)
  else ((hlTo l at_ many).1, (hlTo l at_ many).2.2 + 1)
theorem hlF_no {l : List Int} {at_ : Int} {k : Nat} {xs : List Hl} {now x : Int} (h : hlTo l at_ k = (xs, now, x)) (hd : (drawOf l x 20 == 0) = false) : hlF l at_ k = (xs, x + 1) := by
  unfold hlF; rw [h]; simp only [hd]; rfl
theorem hlF_yes {l : List Int} {at_ : Int} {k : Nat} {xs : List Hl} {now x : Int} (h : hlTo l at_ k = (xs, now, x)) (hd : (drawOf l x 20 == 0) = true) : hlF l at_ k =
    (xs ++ [⟨([-1, 345686400, 0] : List Int).getD (drawOf l (x + 1) (([-1, 345686400, 0] : List Int).length : Int)).toNat 0, ([⟨#[]⟩, ⟨#[110, 97]⟩] : List ByteArray).getD (drawOf l (x + 1 + 1) (([⟨#[]⟩, ⟨#[110, 97]⟩] : List ByteArray).length : Int)).toNat ByteArray.empty, false⟩], x + 1 + 1 + 1) := by
  unfold hlF; rw [h]; simp only [hd]; rfl
/-- Ahead of round k. -/
def HlI (w wr : World) (b : Nat) (A : Option Addr) (cap : Nat) (l : List Int) (at_ : Int) (k : Nat) (v5 v6 : Value) : Prop :=
  ∃ (now : Int) (sv : Value) (xs : List Hl) (x : Int), sv = v5 ∧ v6 = .int .i64 now ∧ (0 ≤ now ∧ now ≤ 31 * k) ∧ hlTo l at_ k = (xs, now, x) ∧ HlB w wr b A cap l at_ k (4 * k) sv xs x

set_option maxRecDepth 100000 in
set_option maxHeartbeats 4000000 in
theorem healthLog_det (b : Nat) (A : Option Addr) (cap : Nat) (l : List Int) (at_ : Int) (w : World) (h : Str w b A cap l at_) (hh : at_ < 1099511620000) (many : Nat) (hmany : many ≤ 8) :
    Calls Tryz.prog 5 #[.pointer (some ⟨b, 0, none⟩), .int .i64 (many : Nat)] w fun e w' => ∃ v : Value, e = .returned v ∧ HlX w w' b A cap l at_ 9 60 (hlF l at_ many) v := by
  have hlt := h.lt
  have hl0 := h.low
  obtain ⟨i0, hi, hz0, hz1, hz2⟩ := info_parts Tryz.infoHealth
  go_enter Tryz.func5, Tryz.ntmps5
  go_wp2_with fail
  go_loopw [5, 6, 10] (fun v5 v6 i wr => ∃ k : Nat, k ≤ many ∧ i = .int .i64 k ∧ HlI w wr b A cap l at_ k v5 v6) (fun _ _ i _ => many - (intOf i).toNat)
  case atStart => exact ⟨0, by omega, rfl, 0, _, _, _, rfl, rfl, by omega, rfl, HlB.mk_ (xs := []) (World.ownsRow_nil _ _ _ _) rfl h (World.grownBy.refl _ _) (by simp) (by omega) (by omega) (by simp)⟩
  case round =>
    clear h
    obtain ⟨k, hk, rfl, now, sv, xs, x, rfl, rfl, hnow, hst, ho, hs, hg, hxl, hxb, hxs⟩ := hrel
    by_cases hkm : k < many
    · have HY := Lib.hid (hl_step hst)
      clear hst
      have hnb := own_ne ho hlt
      have HXS := Lib.hid hxs
      have hd : decide ((k : Int) < (many : Int)) = true := by simp; omega
      clear hxs
      go_wp2_with fail
      refine (pick_any b A cap l _ _ (hs.alloc _) (by omega) wr.heap.size [0, 1, 10, 30] (by rw [heap_alloc_new]; rfl) (by have := hs.lt; omega) (by simp) (by simp) 4 4 rfl).mono ?_
      rintro e w1 ⟨rfl, hs1, hg1⟩
      have ho1 := (ho.alloc (.cells #[.int .i64 0, .int .i64 1, .int .i64 10, .int .i64 30] 3)).kept hg1 (.inr hnb)
      have HG1 := Lib.hid (hg.andThen (grown_alloc_then hg1) (fun _ h => .inr h))
      have hp := pick_get (P := fun v => 0 ≤ v ∧ v ≤ 30) (vs := [0, 1, 10, 30]) (by simp) l x (by simp)
      clear hs hg ho hg1
      generalize ([0, 1, 10, 30] : List Int).getD (drawOf l x (([0, 1, 10, 30] : List Int).length : Int)).toNat 0 = pk at *
      go_wp2_with fail
      refine (some_any b A cap l _ _ (hs1.alloc _) (by omega) w1.heap.size [⟨#[110, 97]⟩, ⟨#[110, 98]⟩, ⟨#[110, 99]⟩, ⟨#[110, 100]⟩] (by rw [heap_alloc_new]; rfl) (by have := hs1.lt; omega) (by simp) (by simp) 4 4 rfl).mono ?_
      rintro e w2 ⟨rfl, hs2, hg2⟩
      have ho2 := (ho1.alloc (.cells #[.string ⟨#[110, 97]⟩, .string ⟨#[110, 98]⟩, .string ⟨#[110, 99]⟩, .string ⟨#[110, 100]⟩] 9)).kept hg2 (.inr hnb)
      have HG2 := Lib.hid (HG1.out.andThen (grown_alloc_then hg2) (fun _ h => .inr h))
      have hps := some_get (P := fun s => s.size ≤ 2) (vs := [⟨#[110, 97]⟩, ⟨#[110, 98]⟩, ⟨#[110, 99]⟩, ⟨#[110, 100]⟩]) (by decide) l (x + 1) (by simp)
      generalize ([⟨#[110, 97]⟩, ⟨#[110, 98]⟩, ⟨#[110, 99]⟩, ⟨#[110, 100]⟩] : List ByteArray).getD (drawOf l (x + 1) (([⟨#[110, 97]⟩, ⟨#[110, 98]⟩, ⟨#[110, 99]⟩, ⟨#[110, 100]⟩] : List ByteArray).length : Int)).toNat ByteArray.empty = p at *
      clear hs1 ho1 HG1 hg2
      go_wp2_with fail
      refine (flip_any b A cap l _ 3 _ hs2 (by omega) (by omega) (by omega)).mono ?_
      rintro e w3 ⟨rfl, hs3, hg3⟩
      have HO3 := Lib.hid (ho2.kept hg3 (.inr hnb))
      have HG3 := Lib.hid (HG2.out.andThen hg3 (fun _ h => .inr h))
      have HS3 := Lib.hid hs3
      have hbw3 := hs3.lt
      clear hs2 ho2 HG2 hg3 hs3
      generalize (drawOf l (x + 1 + 1) 3 == 0) = fl at HY ⊢
      have HN0 := Lib.hid (fun h => hlNow_0 (xs := xs) (now + pk) p h)
      have HN1 := Lib.hid (fun h => hlNow_1 (xs := xs) (n := now + pk) (p := p) h)
      have HN2 := Lib.hid (fun h => hlNow_2 (xs := xs) (n := now + pk) (p := p) h)
      have HN3 := Lib.hid (fun h0 h1 h2 => hlNow_3 (xs := xs) (n := now + pk) (p := p) h0 h1 h2)
      -- the last one
      have hsz : w3.heap.size < (w3.alloc (hlBox (now + pk) p (!fl))).heap.size := by simp
      have hx0 := heap_alloc_new w3 (hlBox (now + pk) p (!fl))
      obtain ⟨A3, c3, rfl, hat⟩ := hls_at HO3.out
      have HAT := Lib.hid hat
      clear hat
      go_wp2_with fail
      unfold hlBox at hsz hx0
      generalize hW : World.alloc _ _ = W4 at hsz hx0 ⊢
      have hM : HlMid w W4 b A cap l (x + 1 + 1 + 1) w3.heap.size (.slice A3 xs.length c3) xs (now + pk) p (!fl) := by
        rw [← hW]
        exact ⟨HO3.out.alloc _, HS3.out.alloc _, grown_of_box HG3.out, heap_alloc_new w3 _, fun e => by have := (World.ownsRow.lt HO3.out _ e).2; omega⟩
      have HA4 : Hid (HlsAt W4 w3.heap.size A3 xs) := Lib.hid (by rw [← hW]; exact HAT.out.below (below_alloc w3 _))
      have HM := Lib.hid hM
      have hw3 := HG3.out.size
      obtain ⟨x0, x1, x2, -⟩ := res3 hx0
      clear hW HO3 HS3 HG3 HAT hM hx0
      by_cases h0 : xs.length = 0
      · have hd0 : decide (0 < xs.length) = false := decide_eq_false (by omega)
        have HQ := Lib.hid (HN0.out h0)
        rw [HQ.out] at HY
        clear h0 HQ HN0 HN1 HN2 HN3
        go_wp2_with fail
        go_quiet (fail)
        have hm5 := HM.out.dn nq
        generalize W4.drewN nq = W5 at *
        have HM5 := Lib.hid hm5
        clear hm5 HM HA4 x0 x1 x2
        obtain ⟨hoz, hsz5, hgz, hxz, -⟩ := HM5.out
        obtain ⟨y0, y1, y2, -⟩ := res3 hxz
        go_wp2_with (at_builtin; refine wpList_append_own _ rfl (.tmp 54) (.tmp 56) 28 rfl w.heap.size 58 i0 (.agg #[.int .i64 0, .string ⟨#[]⟩, .bool false]) 3 32 Tryz.underlying28 hi hz0 hz1 hz2 rfl (by decide) _ _ _ rfl (World.ownsRow.alloc hoz _) ⟨W5.heap.size, 0, none⟩ 1 1 [.int .i64 (now + pk), .string p, .bool (!fl)] rfl rfl ?a1 ?a2 ?a3 ?a4 ?a5 ?_)
        case a1 => exact cells_new W5 [.int .i64 (now + pk), .string p, .bool (!fl)] _
        case a2 => simp [Value.oneCell']
        case a3 => unfold maxLen; omega
        case a4 => omega
        case a5 => have := hgz.size; simp; omega
        intro v6 w6 ho6 hg6 _
        have hs6 := (hsz5.alloc (.cells #[.int .i64 (now + pk), .string p, .bool (!fl)] 58)).grown hg6 (fun j hj => by have := (hoz.lt j hj).1; omega)
        have hg7 := hgz.andThen ((World.grownBy_alloc W5 (.cells #[.int .i64 (now + pk), .string p, .bool (!fl)] 58) _).andThen hg6 (fun _ h => .inr h)) (fun j hj => .inl (hoz.lt j hj).1)
        have hrow : HlI w w6 b A cap l at_ (k + 1) v6 (.int .i64 (now + pk)) := ⟨_, v6, _, _, rfl, rfl, by omega, HY.out, HlB.mk_ (xs := xs ++ [⟨now + pk, p, !fl⟩]) (by rw [hls_snoc]; exact ho6) (by simp) hs6 hg7 (by simp; omega) (by omega) (by omega) (hl_snoc HXS.out hps)⟩
        have HROW := Lib.hid hrow
        clear hoz hsz5 hgz hxz y0 y1 y2 ho6 hg6 hs6 hg7 hrow HM5
        go_wp2_with fail
        go_roundw
        case rel => exact ⟨k + 1, by omega, by go_num, HROW.out⟩
        case measure => simp [intOf]; omega
      · obtain ⟨g, off, hA, hgB, c0, c1, -⟩ := HA4.out (xs.length - 1) (by omega)
        subst hA
        have hd0 : decide (0 < xs.length) = true := by simp; omega
        have s0 : IntKind.i64.wrap ((xs.length : Int) - 1) = (xs.length : Int) - 1 := IntWalk.i64_in _ (by omega)
        have s1 : ((xs.length : Int) - 1).toNat = xs.length - 1 := by omega
        have s2 : (1 : Int) ≤ (xs.length : Int) := by omega
        have s3 : 0 ≤ (xs.length : Int) - 1 := by omega
        have s4 : (xs.length : Int) - 1 < (xs.length : Int) := by omega
        generalize xs.getD (xs.length - 1) noHl = y at *
        obtain ⟨ya, yn, yu⟩ := y
        simp only at c0 c1
        have HN3' := Lib.hid (fun h1 h2 => HN3.out h0 h1 h2)
        clear h0 HN3
        cases e1 : (ya == now + pk)
        · have HQ := Lib.hid (HN1.out e1)
          rw [HQ.out] at HY
          clear HQ HN0 HN1 HN2 HN3'
          go_wp2_with fail
          go_quiet (fail)
          clear c0 c1 s0 s1 s2 s3 s4 hd0 e1
          have hm5 := HM.out.dn nq
          generalize W4.drewN nq = W5 at *
          have HM5 := Lib.hid hm5
          clear hm5 HM HA4 x0 x1 x2
          obtain ⟨hoz, hsz5, hgz, hxz, -⟩ := HM5.out
          obtain ⟨y0, y1, y2, -⟩ := res3 hxz
          go_wp2_with (at_builtin; refine wpList_append_own _ rfl (.tmp 54) (.tmp 56) 28 rfl w.heap.size 58 i0 (.agg #[.int .i64 0, .string ⟨#[]⟩, .bool false]) 3 32 Tryz.underlying28 hi hz0 hz1 hz2 rfl (by decide) _ _ _ rfl (World.ownsRow.alloc hoz _) ⟨W5.heap.size, 0, none⟩ 1 1 [.int .i64 (now + pk), .string p, .bool (!fl)] rfl rfl ?b1 ?b2 ?b3 ?b4 ?b5 ?_)
          case b1 => exact cells_new W5 [.int .i64 (now + pk), .string p, .bool (!fl)] _
          case b2 => simp [Value.oneCell']
          case b3 => unfold maxLen; omega
          case b4 => omega
          case b5 => have := hgz.size; simp; omega
          intro v6 w6 ho6 hg6 _
          have hs6 := (hsz5.alloc (.cells #[.int .i64 (now + pk), .string p, .bool (!fl)] 58)).grown hg6 (fun j hj => by have := (hoz.lt j hj).1; omega)
          have hg7 := hgz.andThen ((World.grownBy_alloc W5 (.cells #[.int .i64 (now + pk), .string p, .bool (!fl)] 58) _).andThen hg6 (fun _ h => .inr h)) (fun j hj => .inl (hoz.lt j hj).1)
          have hrow : HlI w w6 b A cap l at_ (k + 1) v6 (.int .i64 (now + pk)) := ⟨_, v6, _, _, rfl, rfl, by omega, HY.out, HlB.mk_ (xs := xs ++ [⟨now + pk, p, !fl⟩]) (by rw [hls_snoc]; exact ho6) (by simp) hs6 hg7 (by simp; omega) (by omega) (by omega) (hl_snoc HXS.out hps)⟩
          have HROW := Lib.hid hrow
          clear hoz hsz5 hgz hxz y0 y1 y2 ho6 hg6 hs6 hg7 hrow HM5
          go_wp2_with fail
          go_roundw
          case rel => exact ⟨k + 1, by omega, by go_num, HROW.out⟩
          case measure => simp [intOf]; omega
        · cases e2 : (!Op.bytesLess yn.toList p.toList)
          · have HQ := Lib.hid (HN2.out e2)
            rw [HQ.out] at HY
            clear HQ HN0 HN1 HN2 HN3'
            go_wp2_with fail
            go_quiet (fail)
            clear c0 c1 s0 s1 s2 s3 s4 hd0 e1 e2
            have hm5 := HM.out.dn nq
            generalize W4.drewN nq = W5 at *
            have HM5 := Lib.hid hm5
            clear hm5 HM HA4 x0 x1 x2
            obtain ⟨hoz, hsz5, hgz, hxz, -⟩ := HM5.out
            obtain ⟨y0, y1, y2, -⟩ := res3 hxz
            go_wp2_with (at_builtin; refine wpList_append_own _ rfl (.tmp 54) (.tmp 56) 28 rfl w.heap.size 58 i0 (.agg #[.int .i64 0, .string ⟨#[]⟩, .bool false]) 3 32 Tryz.underlying28 hi hz0 hz1 hz2 rfl (by decide) _ _ _ rfl (World.ownsRow.alloc hoz _) ⟨W5.heap.size, 0, none⟩ 1 1 [.int .i64 (now + pk), .string p, .bool (!fl)] rfl rfl ?c1 ?c2 ?c3 ?c4 ?c5 ?_)
            case c1 => exact cells_new W5 [.int .i64 (now + pk), .string p, .bool (!fl)] _
            case c2 => simp [Value.oneCell']
            case c3 => unfold maxLen; omega
            case c4 => omega
            case c5 => have := hgz.size; simp; omega
            intro v6 w6 ho6 hg6 _
            have hs6 := (hsz5.alloc (.cells #[.int .i64 (now + pk), .string p, .bool (!fl)] 58)).grown hg6 (fun j hj => by have := (hoz.lt j hj).1; omega)
            have hg7 := hgz.andThen ((World.grownBy_alloc W5 (.cells #[.int .i64 (now + pk), .string p, .bool (!fl)] 58) _).andThen hg6 (fun _ h => .inr h)) (fun j hj => .inl (hoz.lt j hj).1)
            have hrow : HlI w w6 b A cap l at_ (k + 1) v6 (.int .i64 (now + pk)) := ⟨_, v6, _, _, rfl, rfl, by omega, HY.out, HlB.mk_ (xs := xs ++ [⟨now + pk, p, !fl⟩]) (by rw [hls_snoc]; exact ho6) (by simp) hs6 hg7 (by simp; omega) (by omega) (by omega) (hl_snoc HXS.out hps)⟩
            have HROW := Lib.hid hrow
            clear hoz hsz5 hgz hxz y0 y1 y2 ho6 hg6 hs6 hg7 hrow HM5
            go_wp2_with fail
            go_roundw
            case rel => exact ⟨k + 1, by omega, by go_num, HROW.out⟩
            case measure => simp [intOf]; omega
          · have HQ := Lib.hid (HN3'.out e1 e2)
            rw [HQ.out] at HY
            clear HQ HN0 HN1 HN2 HN3'
            go_wp2_with fail
            go_quiet (fail)
            clear c0 c1 s0 s1 s2 s3 s4 hd0 e1 e2
            have hm4 := HM.out.dn nq
            have hz4 := res3 hm4.2.2.2.1
            generalize W4.drewN nq = Wq at *
            obtain ⟨z0, -, -, zf0, -, -⟩ := hz4
            have HM5 := Lib.hid (hm4.later (by omega) (by omega) (now + pk + 1))
            clear hm4 HM HA4 x0 x1 x2
            go_upto_region 11 with (fail)
            clear z0 zf0
            generalize hW5 : World.setCell _ _ _ = W5 at *
            clear hW5
            obtain ⟨hoz, hsz5, hgz, hxz, -⟩ := HM5.out
            obtain ⟨y0, y1, y2, -⟩ := res3 hxz
            go_wp2_with (at_builtin; refine wpList_append_own _ rfl (.tmp 54) (.tmp 56) 28 rfl w.heap.size 58 i0 (.agg #[.int .i64 0, .string ⟨#[]⟩, .bool false]) 3 32 Tryz.underlying28 hi hz0 hz1 hz2 rfl (by decide) _ _ _ rfl (World.ownsRow.alloc hoz _) ⟨W5.heap.size, 0, none⟩ 1 1 [.int .i64 (now + pk + 1), .string p, .bool (!fl)] rfl rfl ?d1 ?d2 ?d3 ?d4 ?d5 ?_)
            case d1 => exact cells_new W5 [.int .i64 (now + pk + 1), .string p, .bool (!fl)] _
            case d2 => simp [Value.oneCell']
            case d3 => unfold maxLen; omega
            case d4 => omega
            case d5 => have := hgz.size; simp; omega
            intro v6 w6 ho6 hg6 _
            have hs6 := (hsz5.alloc (.cells #[.int .i64 (now + pk + 1), .string p, .bool (!fl)] 58)).grown hg6 (fun j hj => by have := (hoz.lt j hj).1; omega)
            have hg7 := hgz.andThen ((World.grownBy_alloc W5 (.cells #[.int .i64 (now + pk + 1), .string p, .bool (!fl)] 58) _).andThen hg6 (fun _ h => .inr h)) (fun j hj => .inl (hoz.lt j hj).1)
            have hrow : HlI w w6 b A cap l at_ (k + 1) v6 (.int .i64 (now + pk + 1)) := ⟨_, v6, _, _, rfl, rfl, by omega, HY.out, HlB.mk_ (xs := xs ++ [⟨now + pk + 1, p, !fl⟩]) (by rw [hls_snoc]; exact ho6) (by simp) hs6 hg7 (by simp; omega) (by omega) (by omega) (hl_snoc HXS.out hps)⟩
            have HROW := Lib.hid hrow
            clear hoz hsz5 hgz hxz y0 y1 y2 ho6 hg6 hs6 hg7 hrow HM5
            go_wp2_with fail
            go_roundw
            case rel => exact ⟨k + 1, by omega, by go_num, HROW.out⟩
            case measure => simp [intOf]; omega
    · have : k = many := by omega
      subst this
      have HST := Lib.hid hst
      clear hst
      have hnb := own_ne ho hlt
      have HXS := Lib.hid hxs
      clear hxs
      cases hx : drawOf l x 20 == 0
      · go_wp2_with fail
        refine (flip_any b A cap l _ _ _ hs (by omega) (by omega) (by omega)).mono ?_
        rintro e w1 ⟨rfl, hs1, hg1⟩
        rw [hx]
        have hrow : HlX w w1 b A cap l at_ 9 60 (hlF l at_ k) sv := ⟨xs, _, hlF_no HST.out hx, HlB.mk_ (ho.kept hg1 (.inr hnb)) rfl hs1 (hg.andThen hg1 (fun _ h => .inr h)) (by omega) (by omega) (by omega) HXS.out⟩
        clear hs ho hg hg1 hs1
        go_wp2_with fail
        go_ret
        exact ⟨_, rfl, hrow⟩
      · go_wp2_with fail
        refine (flip_any b A cap l _ _ _ hs (by omega) (by omega) (by omega)).mono ?_
        rintro e w1 ⟨rfl, hs1, hg1⟩
        rw [hx]
        have ho1 := ho.kept hg1 (.inr hnb)
        have hgg1 := hg.andThen hg1 (fun _ h => .inr h)
        have HQ := Lib.hid (hlF_yes HST.out hx)
        clear hs ho hg hg1 hx HST
        go_wp2_with fail
        refine (pick_any b A cap l _ _ (hs1.alloc _) (by omega) w1.heap.size [-1, 345686400, 0] (by rw [heap_alloc_new]; rfl) (by have := hs1.lt; omega) (by simp) (by simp) 3 3 rfl).mono ?_
        rintro e w2 ⟨rfl, hs2, hg2⟩
        have ho2 := (ho1.alloc (.cells #[.int .i64 (-1), .int .i64 345686400, .int .i64 0] 3)).kept hg2 (.inr hnb)
        have hgg2 := hgg1.andThen (grown_alloc_then hg2) (fun _ h => .inr h)
        clear hs1 ho1 hgg1 hg2
        generalize ([-1, 345686400, 0] : List Int).getD (drawOf l (x + 1) (([-1, 345686400, 0] : List Int).length : Int)).toNat 0 = o1 at *
        go_wp2_with fail
        refine (some_any b A cap l _ _ (hs2.alloc _) (by omega) w2.heap.size [⟨#[]⟩, ⟨#[110, 97]⟩] (by rw [heap_alloc_new]; rfl) (by have := hs2.lt; omega) (by simp) (by simp) 2 2 rfl).mono ?_
        rintro e w3 ⟨rfl, hs3, hg3⟩
        have ho3 := (ho2.alloc (.cells #[.string ⟨#[]⟩, .string ⟨#[110, 97]⟩] 9)).kept hg3 (.inr hnb)
        have hgg3 := hgg2.andThen (grown_alloc_then hg3) (fun _ h => .inr h)
        have hps := some_get (P := fun s => s.size ≤ 2) (vs := [⟨#[]⟩, ⟨#[110, 97]⟩]) (by decide) l (x + 1 + 1) (by simp)
        clear hs2 ho2 hgg2 hg3
        generalize ([⟨#[]⟩, ⟨#[110, 97]⟩] : List ByteArray).getD (drawOf l (x + 1 + 1) (([⟨#[]⟩, ⟨#[110, 97]⟩] : List ByteArray).length : Int)).toNat ByteArray.empty = p at *
        go_wp2_with (at_builtin; refine wpList_append_own _ rfl (.tmp 61) (.tmp 69) 28 rfl w.heap.size 58 i0 (.agg #[.int .i64 0, .string ⟨#[]⟩, .bool false]) 3 32 Tryz.underlying28 hi hz0 hz1 hz2 rfl (by decide) _ _ _ rfl (ho3.alloc _) ⟨w3.heap.size, 0, none⟩ 1 1 [.int .i64 o1, .string p, .bool false] rfl rfl ?z1 ?z2 ?z3 ?z4 ?z5 ?_)
        case z1 => exact cells_new w3 [.int .i64 o1, .string p, .bool false] _
        case z2 => simp [Value.oneCell']
        case z3 => unfold maxLen; omega
        case z4 => omega
        case z5 => have := hgg3.size; simp; omega
        intro v' w5 ho5 hg5 _
        have hs5 := (hs3.alloc (.cells #[.int .i64 o1, .string p, .bool false] 58)).grown hg5 (fun j hj => by have := (ho3.lt j hj).1; omega)
        have hg6 := hgg3.andThen ((World.grownBy_alloc w3 (.cells #[.int .i64 o1, .string p, .bool false] 58) _).andThen hg5 (fun _ h => .inr h)) (fun j hj => .inl (ho3.lt j hj).1)
        have hrow : HlX w w5 b A cap l at_ 9 60 (hlF l at_ k) v' := ⟨_, _, HQ.out, HlB.mk_ (xs := xs ++ [⟨o1, p, false⟩]) (by rw [hls_snoc]; exact ho5) (by simp) hs5 hg6 (by simp; omega) (by omega) (by omega) (hl_snoc HXS.out hps)⟩
        clear ho3 hs3 hgg3 hg5 hg6 hs5 ho5
        go_wp2_with fail
        go_ret
        exact ⟨_, rfl, hrow⟩
theorem healthLog_any (b : Nat) (A : Option Addr) (cap : Nat) (l : List Int) (at_ : Int) (w : World) (h : Str w b A cap l at_) (hh : at_ < 1099511620000) (many : Nat) (hmany : many ≤ 8) :
    Calls Tryz.prog 5 #[.pointer (some ⟨b, 0, none⟩), .int .i64 (many : Nat)] w fun e w' => ∃ v : Value, e = .returned v ∧ HlSt w w' b A cap l at_ 9 60 v :=
  (healthLog_det b A cap l at_ w h hh many hmany).mono fun _ _ ⟨v, h1, xs, x, _, h2⟩ => ⟨v, h1, xs, x, h2⟩
end Go.Proofs.YtkbbmlkgaooaiaaGreatDoor
