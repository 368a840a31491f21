/- Links: of what is not wrong the milliseconds are natural numbers. route.Through at any links. RoutesStay: the walk. -/
import Derived.Test.YtkbbmlkgaooaiaaGreatDoorThru2
import Derived.Test.YtkbbmlkgaooaiaaGreatDoorLinks
import Derived.Test.YtkbbmlkgaooaiaaGreatDoorFsR
import Derived.Test.YtkbbmlkgaooaiaaGreatDoorHmE
import Derived.Test.YtkbbmlkgaooaiaaGreatDoorQR
import Derived.Test.YtkbbmlkgaooaiaaGreatDoorReady
namespace Go.Proofs.YtkbbmlkgaooaiaaGreatDoor
open Go.RowKit Go.Hw

theorem getD_mem_or {α : Type} (l : List α) (i : Nat) (d : α) : l.getD i d ∈ l ∨ l.getD i d = d := by
  by_cases h : i < l.length
  · left; rw [List.getD_eq_getElem?_getD, List.getElem?_eq_getElem h]; exact List.getElem_mem h
  · right; rw [List.getD_eq_getElem?_getD, List.getElem?_eq_none (by omega)]; rfl
theorem town_small (i : Nat) : (town i).size ≤ 3 := by
  unfold town
  rcases getD_mem_or towns i ByteArray.empty with h | h
  · revert h
    generalize towns.getD i ByteArray.empty = x
    intro h
    have : ∀ y ∈ towns, y.size ≤ 3 := by decide
    exact this x h
  · rw [h]; decide
def SmallLk (x : Lk) : Prop := x.a.size ≤ 3 ∧ x.b.size ≤ 3
theorem linkStep_small (l : List Int) (s : List Lk × Int) (p : Nat × Nat) (h : ∀ x ∈ s.1, SmallLk x) : ∀ x ∈ (linkStep l s p).1, SmallLk x := by
  intro x hx
  unfold linkStep at hx
  split at hx
  · exact h x hx
  · rcases List.mem_append.1 hx with hx | hx
    · exact h x hx
    · rw [List.mem_singleton.1 hx]
      exact ⟨town_small _, town_small _⟩
theorem fold_small (l : List Int) (ps : List (Nat × Nat)) : ∀ s : List Lk × Int, (∀ x ∈ s.1, SmallLk x) → ∀ x ∈ (ps.foldl (linkStep l) s).1, SmallLk x := by
  induction ps with
  | nil => intro s h; exact h
  | cons p ps ih => intro s h; exact ih _ (linkStep_small l s p h)
theorem links_small (l : List Int) (at_ : Int) : ∀ x ∈ (linksOf l at_).1, SmallLk x := by
  have h0 : ∀ x ∈ (linksTo l at_ 10).1, SmallLk x := fold_small l _ _ (fun x hx => by cases hx)
  intro x hx
  unfold linksOf at hx
  split at hx
  · rcases List.mem_append.1 hx with hx | hx
    · exact h0 x hx
    · rw [List.mem_singleton.1 hx]
      constructor
      · show (([⟨#[]⟩, ⟨#[102, 114, 97]⟩, ⟨#[122, 122]⟩] : List ByteArray).getD (drawOf l ((linksTo l at_ 10).2 + 1) 3).toNat ByteArray.empty).size ≤ 3
        rcases getD_mem_or ([⟨#[]⟩, ⟨#[102, 114, 97]⟩, ⟨#[122, 122]⟩] : List ByteArray) (drawOf l ((linksTo l at_ 10).2 + 1) 3).toNat ByteArray.empty with h | h
        · have : ∀ y ∈ ([⟨#[]⟩, ⟨#[102, 114, 97]⟩, ⟨#[122, 122]⟩] : List ByteArray), y.size ≤ 3 := by decide
          exact this _ h
        · rw [h]; decide
      · show (([⟨#[102, 114, 97]⟩, ⟨#[122, 122, 122]⟩] : List ByteArray).getD (drawOf l ((linksTo l at_ 10).2 + 2) 2).toNat ByteArray.empty).size ≤ 3
        rcases getD_mem_or ([⟨#[102, 114, 97]⟩, ⟨#[122, 122, 122]⟩] : List ByteArray) (drawOf l ((linksTo l at_ 10).2 + 2) 2).toNat ByteArray.empty with h | h
        · have : ∀ y ∈ ([⟨#[102, 114, 97]⟩, ⟨#[122, 122, 122]⟩] : List ByteArray), y.size ≤ 3 := by decide
          exact this _ h
        · rw [h]; decide
  · exact h0 x hx
theorem small_getD {xs : List Lk} (h : ∀ x ∈ xs, SmallLk x) (i : Nat) : (xs.getD i noLk).a.size ≤ maxLen ∧ (xs.getD i noLk).b.size ≤ maxLen := by
  rcases getD_mem_or xs i noLk with h1 | h1
  · have := h _ h1
    exact ⟨Nat.le_trans this.1 (by decide), Nat.le_trans this.2 (by decide)⟩
  · rw [h1]; exact ⟨by decide, by decide⟩
theorem linksOf_length (l : List Int) (at_ : Int) : (linksOf l at_).1.length ≤ 11 ∧ at_ ≤ (linksOf l at_).2 ∧ (linksOf l at_).2 ≤ at_ + 25 := by
  have := linksTo_bound l at_ 10
  unfold linksOf
  split <;> simp <;> omega
theorem nat_links {xs : List Lk} (h : linksFault xs = 0) : ∃ ys : List Link, ys.map lkOf = xs := by
  obtain ⟨_, hc⟩ := fault_zero h
  refine ⟨xs.map fun x => ⟨x.a, x.b, x.m.toNat⟩, ?_⟩
  rw [List.map_map]
  refine List.ext_getElem (by simp) fun i h1 h2 => ?_
  have := code_zero (hc i h2)
  rw [List.getD_eq_getElem?_getD, List.getElem?_eq_getElem h2] at this
  simp only [Option.getD_some] at this
  simp only [List.getElem_map, Function.comp, lkOf]
  obtain ⟨_, _, _, h0, _⟩ := this
  rw [Int.toNat_of_nonneg h0]
theorem fault_le {ys : List Link} (h : linksFault (ys.map lkOf) = 0) : ∀ l ∈ ys, l.m ≤ 1000000 := by
  obtain ⟨_, hc⟩ := fault_zero h
  intro l hl
  obtain ⟨i, hi, rfl⟩ := List.getElem_of_mem hl
  have h1 := code_zero (hc i (by simpa using hi))
  have h2 : (ys.map lkOf).getD i noLk = lkOf ys[i] := by simp [List.getElem?_eq_getElem hi]
  rw [h2] at h1
  have := h1.2.2.2.2
  simp only [lkOf] at this
  omega
/-- What Through hands back: some row of names that is new. -/
def ThrX (w : World) (e : Ending) (w' : World) : Prop := ∃ v n c k vals, e = .returned (.tuple #[v, .int .i64 n, .int .i64 c]) ∧ w'.ownsRow w.heap.size 9 1 v k vals ∧ k ≤ 2000 ∧ Below w.heap.size w w'
set_option maxRecDepth 100000 in
set_option maxHeartbeats 1000000 in
theorem throughAny_any (A : Option Addr) (cap : Nat) (xs : List Lk) (a b : ByteArray) (w : World) (h : LksAt w w.heap.size A xs) (hl : xs.length ≤ 1000000) (ha : isKey a = true) (hb : isKey b = true) (hsa : a.size ≤ maxLen) (hsb : b.size ≤ maxLen)
    (hss : ∀ i, (xs.getD i noLk).a.size ≤ maxLen ∧ (xs.getD i noLk).b.size ≤ maxLen) :
    Calls Tryz.prog 11 #[.slice A xs.length cap, .string a, .string b] w (ThrX w) := by
  by_cases hf : linksFault xs = 0
  · obtain ⟨ys, rfl⟩ := nat_links hf
    rw [List.length_map]
    refine (throughX_any A cap ys a b w h hf ha hb hsa hsb hss).mono ?_
    rintro e w' ⟨hbl, ⟨rfl, -⟩ | ⟨v, ts, n, rfl, how, -, -, hts⟩⟩
    · exact ⟨_, _, _, 0, [], rfl, World.ownsRow_nil _ _ _ _, by omega, hbl⟩
    · exact ⟨_, _, _, _, _, rfl, how, hts, hbl⟩
  · have hc := checkLinks_any A cap xs w h hl hss
    have hz : (linksFault xs != 0) = true := by simpa using hf
    clear hf h hss
    generalize linksFault xs = c at *
    go_enter Tryz.func11, Tryz.ntmps11
    go_wp2_with fail
    refine hc.mono ?_
    rintro e w1 ⟨rfl, hb1⟩
    have HB := Lib.hid hb1
    clear hc hb1
    go_wp2_with fail
    go_ret3
    exact ⟨_, _, _, 0, [], rfl, World.ownsRow_nil _ _ _ _, by omega, HB.out⟩
end Go.Proofs.YtkbbmlkgaooaiaaGreatDoor

namespace Go.Proofs.YtkbbmlkgaooaiaaGreatDoor
open Go.RowKit Go.Hw Go.Shelf

def strObj (A : Option Addr) (cap : Nat) (l : List Int) (x : Int) : Obj := .cells #[.slice A l.length cap, .int .i64 x] 25 (0, 0)
/-- The numbers that the law is handed. -/
structure Src (w : World) (A : Option Addr) (l : List Int) : Prop where
  ints : ∀ i, i < l.length → ∃ g off, A = some ⟨g, off, none⟩ ∧ g < w.heap.size ∧ w.cell? ⟨g, off + i, none⟩ = some (.int .i64 (l.getD i 0))
  fits : ∀ i, -9223372036854775808 ≤ l.getD i 0 ∧ l.getD i 0 ≤ 9223372036854775807
  long : l.length ≤ 17592186044416
/-- Two streams over them, x and y of their numbers drawn. -/
structure Tw (w W : World) (A : Option Addr) (cap : Nat) (l : List Int) (x y : Int) : Prop where
  below : Below w.heap.size w W
  ca : W.heap[w.heap.size]? = some (strObj A cap l x)
  cb : W.heap[w.heap.size + 1]? = some (strObj A cap l y)
  lx : 0 ≤ x ∧ x ≤ 1099511627776
  ly : 0 ≤ y ∧ y ≤ 1099511627776
theorem Tw.sa {w W : World} {A : Option Addr} {cap : Nat} {l : List Int} {x y : Int} (T : Tw w W A cap l x y) (S : Src w A l) : Str W w.heap.size A cap l x where
  cell := T.ca
  ints := fun i hi => let ⟨g, off, h1, h2, h3⟩ := S.ints i hi; ⟨g, off, h1, h2, (T.below.cell (p := ⟨g, _, none⟩) h2).trans h3⟩
  fits := S.fits
  long := S.long
  low := T.lx.1
  high := T.lx.2
theorem Tw.sb {w W : World} {A : Option Addr} {cap : Nat} {l : List Int} {x y : Int} (T : Tw w W A cap l x y) (S : Src w A l) : Str W (w.heap.size + 1) A cap l y where
  cell := T.cb
  ints := fun i hi => let ⟨g, off, h1, h2, h3⟩ := S.ints i hi; ⟨g, off, h1, by omega, (T.below.cell (p := ⟨g, _, none⟩) h2).trans h3⟩
  fits := S.fits
  long := S.long
  low := T.ly.1
  high := T.ly.2
theorem Tw.nextA {w W W' : World} {A : Option Addr} {cap : Nat} {l : List Int} {x y x' : Int} (T : Tw w W A cap l x y) (hs : Str W' w.heap.size A cap l x') (hg : W.grownBy W' (some w.heap.size)) : Tw w W' A cap l x' y where
  below := T.below.grown hg T.below.size (fun j e => by injection e with e; omega)
  ca := hs.cell
  cb := (hg.block _ (lt_of_block T.cb) (fun e => by injection e with e; omega)).trans T.cb
  lx := ⟨hs.low, hs.high⟩
  ly := T.ly
theorem Tw.nextB {w W W' : World} {A : Option Addr} {cap : Nat} {l : List Int} {x y y' : Int} (T : Tw w W A cap l x y) (hs : Str W' (w.heap.size + 1) A cap l y') (hg : W.grownBy W' (some (w.heap.size + 1))) : Tw w W' A cap l x y' where
  below := T.below.grown hg T.below.size (fun j e => by injection e with e; omega)
  ca := (hg.block _ (lt_of_block T.ca) (fun e => by injection e with e; omega)).trans T.ca
  cb := hs.cell
  lx := T.lx
  ly := ⟨hs.low, hs.high⟩
theorem Tw.size {w W : World} {A : Option Addr} {cap : Nat} {l : List Int} {x y : Int} (T : Tw w W A cap l x y) : w.heap.size + 2 ≤ W.heap.size := by have := lt_of_block T.cb; omega
/-- A row that lies beyond both streams. -/
structure Kq {α : Type} (B : Nat) (c : α → List Value) (n : Nat) (d : α) (W : World) (A : Option Addr) (L : List α) : Prop where
  at_ : RwAt c n d W A L
  low : ∀ a, A = some a → B ≤ a.block
theorem kq_of {α : Type} {B : Nat} {c : α → List Value} {n : Nat} {d : α} (hc : ∀ x, (c x).length = n) {W : World} {base : Nat} {T : TypeId} {v : Value} {L : List α} (h : W.ownsRow base T n v L.length (rwC c L)) (hB : B ≤ base) :
    ∃ A cap, v = .slice A L.length cap ∧ Kq B c n d W A L := by
  obtain ⟨A, cap, rfl, hat⟩ := rw_at (d := d) hc h
  refine ⟨A, cap, rfl, hat, fun a ha => ?_⟩
  subst ha
  have := (h.lt a.block rfl).1
  omega
theorem Kq.grown {α : Type} {B b : Nat} {c : α → List Value} {n : Nat} {d : α} {W W' : World} {A : Option Addr} {L : List α} (h : Kq B c n d W A L) (hg : W.grownBy W' (some b)) (hb : b < B) : Kq B c n d W' A L :=
  ⟨h.at_.grown hg (fun a ha e => by injection e with e; have := h.low a ha; omega), h.low⟩
theorem rts_of {W : World} {A : Option Addr} {L : List Rt} (h : qrAt W A L) : RtsAt W W.heap.size A L := fun i hi =>
  let ⟨g, off, h1, h2, h3⟩ := h i hi
  ⟨g, off, h1, h2, qr_cells h3⟩
theorem hls_of {W : World} {A : Option Addr} {L : List Hl} (h : qhAt W A L) : HlsAt W W.heap.size A L := fun i hi =>
  let ⟨g, off, h1, h2, h3⟩ := h i hi
  ⟨g, off, h1, h2, qh_cells h3⟩
theorem lks_of {W : World} {A : Option Addr} {L : List Lk} (h : qlAt W A L) : LksAt W W.heap.size A L := fun i hi =>
  let ⟨g, off, h1, h2, h3⟩ := h i hi
  ⟨g, off, h1, h2, ql_cells h3⟩
theorem hl_sizes {l : List Hl} (h : ∀ y ∈ l, y.node.size ≤ 2) : ∀ i, (l.getD i noHl).node.size ≤ maxLen := fun i => by
  rcases getD_mem_or l i noHl with h1 | h1
  · have := h _ h1; unfold maxLen; omega
  · rw [h1]; simp [noHl]
theorem pb_sizes {l : List Pb} (h : ∀ y ∈ l, PbT y) : ∀ i, PbT (l.getD i noPb) := fun i => by
  rcases getD_mem_or l i noPb with h1 | h1
  · exact h _ h1
  · rw [h1]; simp [noPb, PbT]
/-- A row that is our own, whatever lies in it. -/
def Own (w : World) (base : Nat) (T : TypeId) (n : Nat) (v : Value) (k : Nat) : Prop := ∃ vals, w.ownsRow base T n v k vals
theorem Own.shape {w : World} {base : Nat} {T : TypeId} {n : Nat} {v : Value} {k : Nat} (h : Own w base T n v k) : (v = .slice none 0 0 ∧ k = 0) ∨ ∃ g cap, v = .slice (some ⟨g, 0, none⟩) k cap ∧ base ≤ g := by
  obtain ⟨vals, h⟩ := h
  rcases h.2 with ⟨h1, h2⟩ | ⟨g, cap, cur, h1, _⟩
  · exact .inl ⟨h1, h2⟩
  · exact .inr ⟨g, cap, h1, (h.lt g (by rw [h1]; rfl)).1⟩
theorem Own.cell {w : World} {base : Nat} {T : TypeId} {n g cap k : Nat} (h : Own w base T n (.slice (some ⟨g, 0, none⟩) k cap) k) {j : Nat} (hj : j < k * n) : ∃ u, w.cell? ⟨g, j, none⟩ = some u ∧ w.frozen? ⟨g, j, none⟩ = false := by
  obtain ⟨vals, h⟩ := h
  obtain ⟨u, hu⟩ := Option.isSome_iff_exists.1 (rw_some h hj)
  exact ⟨u, hu, rw_froz h j⟩
theorem Own.put {w : World} {base : Nat} {T : TypeId} {n g cap k : Nat} (h : Own w base T n (.slice (some ⟨g, 0, none⟩) k cap) k) (j : Nat) (u : Value) : Own (w.setCell ⟨g, j, none⟩ u) base T n (.slice (some ⟨g, 0, none⟩) k cap) k :=
  let ⟨_, h⟩ := h
  ⟨_, (World.ownsRow.stored h j u).1⟩
theorem Own.slice {w : World} {base : Nat} {T : TypeId} {n : Nat} {v : Value} {k : Nat} (h : Own w base T n v k) : ∃ A c, v = .slice A k c := by
  rcases h.shape with ⟨rfl, rfl⟩ | ⟨g, cap, rfl, _⟩
  · exact ⟨_, _, rfl⟩
  · exact ⟨_, _, rfl⟩
theorem Own.at_ {w : World} {base : Nat} {T : TypeId} {n : Nat} {A : Option Addr} {c k : Nat} (h : Own w base T n (.slice A k c) k) (hk : 0 < k) : ∃ g, A = some ⟨g, 0, none⟩ ∧ base ≤ g := by
  rcases h.shape with ⟨_, h2⟩ | ⟨g, cap, h1, h2⟩
  · omega
  · injection h1 with h1
    exact ⟨g, h1, h2⟩
theorem below_put {w0 w : World} {B g : Nat} (h : Below B w0 w) (hB : B ≤ w.heap.size) (hg : B ≤ g) (j : Nat) (u : Value) : Below B w0 (w.setCell ⟨g, j, none⟩ u) :=
  h.grown (row := some g) ⟨rfl, rfl, rfl, by simp, fun i _ hi => Below.heap_setCell w _ _ i (fun e => hi (by rw [e]))⟩ hB (fun j e => by injection e with e; omega)

set_option maxRecDepth 100000 in
set_option maxHeartbeats 4000000 in
theorem routesStay_any (A : Option Addr) (cap : Nat) (l : List Int) (w : World) (hA : ∀ i, i < l.length → ∃ g off, A = some ⟨g, off, none⟩ ∧ g < w.heap.size ∧ w.cell? ⟨g, off + i, none⟩ = some (.int .i64 (l.getD i 0)))
    (hfits : ∀ i, -9223372036854775808 ≤ l.getD i 0 ∧ l.getD i 0 ≤ 9223372036854775807) (hlong : l.length ≤ 17592186044416) :
    Calls Tryz.prog 3 #[.slice A l.length cap] w fun e w' => e = .returned (.bool true) ∧ Below w.heap.size w w' := by
  have SRC := Lib.hid (show Src w A l from ⟨hA, hfits, hlong⟩)
  have hT0 : Tw w ((w.alloc (strObj A cap l 0)).alloc (strObj A cap l 0)) A cap l 0 0 := {
    below := ((Below.refl _ _).alloc (Nat.le_refl _) _).alloc (by simp) _
    ca := (heap_alloc_old _ _ (by simp)).trans (heap_alloc_new w _)
    cb := by
      have := heap_alloc_new (w.alloc (strObj A cap l 0)) (strObj A cap l 0)
      simp only [Re_size] at this
      exact this
    lx := by omega
    ly := by omega }
  unfold strObj at hT0
  have HT := Lib.hid hT0
  clear hT0 hA hfits hlong
  go_enter Tryz.func3, Tryz.ntmps3
  go_wp2_with fail
  generalize hW : World.alloc (World.alloc w _) _ = W1 at HT ⊢
  clear hW
  -- routers, twice
  have hsz := HT.out.size
  have hh0 : (0 : Int) ≤ 0 ∧ (0 : Int) ≤ 0 := ⟨by omega, by omega⟩
  refine (routers_det w.heap.size A cap l 0 W1 (HT.out.sa SRC.out) (by omega)).mono ?_
  rintro e W2 ⟨v, rfl, xs, x1, hst, ho, hs, hg, hxl, hxb, hxs⟩
  obtain ⟨AR, cR, rfl, hk⟩ := kq_of (B := w.heap.size + 2) (c := qrC) (d := noRt) qrC_len ho hsz
  have HT2 := Lib.hid (HT.out.nextA hs hg)
  have HR := Lib.hid hk
  have HXS := Lib.hid hxs
  have HST := Lib.hid hst
  clear ho hs hg hk hxs hst HT hsz
  have hsz := HT2.out.size
  go_wp2_with fail
  refine (routers_det (w.heap.size + 1) A cap l 0 W2 (HT2.out.sb SRC.out) (by omega)).mono ?_
  rintro e W3 ⟨v, rfl, xs', x1', hst', ho, hs, hg, -, -, -⟩
  rw [HST.out] at hst'
  injection hst' with e1 e2
  subst e1 e2
  obtain ⟨AT, cT, rfl, hk⟩ := kq_of (B := w.heap.size + 2) (c := qrC) (d := noRt) qrC_len ho hsz
  have HT3 := Lib.hid (HT2.out.nextB hs hg)
  have HR3 := Lib.hid (HR.out.grown hg (by omega))
  have HS3 := Lib.hid hk
  clear ho hs hg hk HT2 HR hsz HST
  have hsz := HT3.out.size
  -- health, twice
  go_wp2_with fail
  refine (healthLog_det w.heap.size A cap l x1 W3 (HT3.out.sa SRC.out) (by omega) 6 (by omega)).mono ?_
  rintro e W4 ⟨v, rfl, hl1, x2, hst, ho, hs, hg, hhl, hhb, hhs⟩
  obtain ⟨AH, cH, rfl, hk⟩ := kq_of (B := w.heap.size + 2) (c := qhC) (d := noHl) qhC_len ho hsz
  have HT4 := Lib.hid (HT3.out.nextA hs hg)
  have HR4 := Lib.hid (HR3.out.grown hg (by omega))
  have HS4 := Lib.hid (HS3.out.grown hg (by omega))
  have HH4 := Lib.hid hk
  have HHS := Lib.hid hhs
  have HST := Lib.hid hst
  clear ho hs hg hk hhs hst HT3 HR3 HS3 hsz
  have hsz := HT4.out.size
  go_wp2_with fail
  refine (healthLog_det (w.heap.size + 1) A cap l x1 W4 (HT4.out.sb SRC.out) (by omega) 6 (by omega)).mono ?_
  rintro e W5 ⟨v, rfl, hl1', x2', hst', ho, hs, hg, -, -, -⟩
  rw [HST.out] at hst'
  injection hst' with e1 e2
  subst e1 e2
  obtain ⟨AI, cI, rfl, hk⟩ := kq_of (B := w.heap.size + 2) (c := qhC) (d := noHl) qhC_len ho hsz
  have HT5 := Lib.hid (HT4.out.nextB hs hg)
  have HR5 := Lib.hid (HR4.out.grown hg (by omega))
  have HS5 := Lib.hid (HS4.out.grown hg (by omega))
  have HH5 := Lib.hid (HH4.out.grown hg (by omega))
  have HI5 := Lib.hid hk
  clear ho hs hg hk HT4 HR4 HS4 HH4 hsz HST
  have hsz := HT5.out.size
  -- probes, twice
  go_wp2_with fail
  refine (probes_det w.heap.size A cap l x2 W5 (HT5.out.sa SRC.out) (by omega) 4 (by omega)).mono ?_
  rintro e W6 ⟨v, rfl, ps, x3, hst, ho, hs, hg, hpl, hpb, hps⟩
  obtain ⟨AP, cP, rfl, hk⟩ := kq_of (B := w.heap.size + 2) (c := qpC) (d := noPb) qpC_len ho hsz
  have HT6 := Lib.hid (HT5.out.nextA hs hg)
  have HR6 := Lib.hid (HR5.out.grown hg (by omega))
  have HS6 := Lib.hid (HS5.out.grown hg (by omega))
  have HH6 := Lib.hid (HH5.out.grown hg (by omega))
  have HI6 := Lib.hid (HI5.out.grown hg (by omega))
  have HP6 := Lib.hid hk
  have HPS := Lib.hid hps
  have HST := Lib.hid hst
  clear ho hs hg hk hps hst HT5 HR5 HS5 HH5 HI5 hsz
  have hsz := HT6.out.size
  go_wp2_with fail
  refine (probes_det (w.heap.size + 1) A cap l x2 W6 (HT6.out.sb SRC.out) (by omega) 4 (by omega)).mono ?_
  rintro e W7 ⟨v, rfl, ps', x3', hst', ho, hs, hg, -, -, -⟩
  rw [HST.out] at hst'
  injection hst' with e1 e2
  subst e1 e2
  obtain ⟨AQ, cQ, rfl, hk⟩ := kq_of (B := w.heap.size + 2) (c := qpC) (d := noPb) qpC_len ho hsz
  have HT7 := Lib.hid (HT6.out.nextB hs hg)
  have HR7 := Lib.hid (HR6.out.grown hg (by omega))
  have HS7 := Lib.hid (HS6.out.grown hg (by omega))
  have HH7 := Lib.hid (HH6.out.grown hg (by omega))
  have HI7 := Lib.hid (HI6.out.grown hg (by omega))
  have HP7 := Lib.hid (HP6.out.grown hg (by omega))
  have HQ7 := Lib.hid hk
  clear ho hs hg hk HT6 HR6 HS6 HH6 HI6 HP6 hsz HST
  have hsz := HT7.out.size
  -- links, twice
  have hn1 := linksOf_length l x3
  have hsm := links_small l x3
  go_wp2_with fail
  refine (links_any w.heap.size A cap l x3 W7 (HT7.out.sa SRC.out) (by omega)).mono ?_
  rintro e W8 ⟨v, rfl, ho, hs, hg⟩
  obtain ⟨AX, cX, rfl, hk⟩ := kq_of (B := w.heap.size + 2) (c := qlC) (d := noLk) qlC_len ho hsz
  have HT8 := Lib.hid (HT7.out.nextA hs hg)
  have HR8 := Lib.hid (HR7.out.grown hg (by omega))
  have HS8 := Lib.hid (HS7.out.grown hg (by omega))
  have HH8 := Lib.hid (HH7.out.grown hg (by omega))
  have HI8 := Lib.hid (HI7.out.grown hg (by omega))
  have HP8 := Lib.hid (HP7.out.grown hg (by omega))
  have HQ8 := Lib.hid (HQ7.out.grown hg (by omega))
  have HX8 := Lib.hid hk
  clear ho hs hg hk HT7 HR7 HS7 HH7 HI7 HP7 HQ7 hsz
  have hsz := HT8.out.size
  go_wp2_with fail
  refine (links_any (w.heap.size + 1) A cap l x3 W8 (HT8.out.sb SRC.out) (by omega)).mono ?_
  rintro e W9 ⟨v, rfl, ho, hs, hg⟩
  obtain ⟨AY, cY, rfl, hk⟩ := kq_of (B := w.heap.size + 2) (c := qlC) (d := noLk) qlC_len ho hsz
  have HB9 := Lib.hid (HT8.out.nextB hs hg).below
  have HR9 := Lib.hid (HR8.out.grown hg (by omega)).at_
  have HS9 := Lib.hid (HS8.out.grown hg (by omega)).at_
  have HH9 := Lib.hid (HH8.out.grown hg (by omega)).at_
  have HI9 := Lib.hid (HI8.out.grown hg (by omega)).at_
  have HP9 := Lib.hid (HP8.out.grown hg (by omega)).at_
  have HQ9 := Lib.hid (HQ8.out.grown hg (by omega)).at_
  have HX9 := Lib.hid (HX8.out.grown hg (by omega)).at_
  have HY9 := Lib.hid hk.at_
  have HSM := Lib.hid (small_getD hsm)
  have hyl : (linksOf l x3).1.length ≤ 11 := hn1.1
  generalize (linksOf l x3).1 = ys at *
  clear ho hs hg hk HT8 HR8 HS8 HH8 HI8 HP8 HQ8 HX8 hsz hn1 hsm SRC
  -- Firsts
  have RH : RhT xs hl1 := ⟨by omega, HXS.out, by omega, hl_sizes HHS.out⟩
  have hfi := Firsts_full AR cR xs AH cH hl1 50 W9 (rts_of HR9.out) (hls_of HH9.out) RH (by omega)
  clear RH
  go_wp2_with fail
  refine hfi.mono ?_
  rintro e W10 ⟨v, L, rfl, hO, hL, hb10⟩
  have HO := Lib.hid (show Own W10 W9.heap.size 46 5 v L.length from ⟨_, hO⟩)
  have HBT := Lib.hid hb10
  have hrf := routersFault_any AT cT xs W10 (rts_of (HS9.out.below hb10)) (by omega) HXS.out
  have hcode := rhCode_zero (r := xs) (l := hl1)
  have HHF := Lib.hid (fun (W : World) (hb : Below W9.heap.size W9 W) => healthFault_any AI cI hl1 W (hls_of (HI9.out.below hb)) (by omega) (hl_sizes HHS.out))
  clear hfi hO hb10 HXS HHS
  generalize L.length = nL at *
  generalize rhCode xs hl1 = rc at *
  go_wp2_with fail
  refine hrf.mono ?_
  rintro e W11 ⟨rfl, hb11⟩
  have HB11 := Lib.hid (HBT.out.trans (hb11.mono HBT.out.size))
  have HO11 := Lib.hid (show Own W11 W9.heap.size 46 5 v nL from let ⟨_, h⟩ := HO.out; ⟨_, own_below h hb11 (Nat.le_refl _)⟩)
  clear hrf hb11 HO HBT
  generalize rtFault xs = rf at *
  generalize hlFault hl1 = hf at *
  obtain ⟨AL, cL, rfl⟩ := HO11.out.slice
  rcases (show (rf = 0 ∧ hf = 0) ∨ (rf = 0 ∧ hf ≠ 0) ∨ rf ≠ 0 from by omega) with ⟨h1, h2⟩ | ⟨h1, h2⟩ | h1
  case' inl =>
    have hb1 : (rf == 0) = true := by simpa using h1
    have hb2 : (hf == 0) = true := by simpa using h2
    have hb3 : (rc == 0) = true := by simpa using hcode.2 ⟨h1, h2⟩
    have hhf := HHF.out W11 HB11.out
    clear h1 h2 hcode HHF
    go_wp2_with fail
    refine hhf.mono ?_
    rintro e W12 ⟨rfl, hb12⟩
    have HB12 := Lib.hid (HB11.out.trans (hb12.mono HB11.out.size))
    have HO12 := Lib.hid (show Own W12 W9.heap.size 46 5 (.slice AL nL cL) nL from let ⟨_, h⟩ := HO11.out; ⟨_, own_below h hb12 (Nat.le_refl _)⟩)
    clear hhf hb12 HB11 HO11
    go_wp2_with fail
  case' inr.inl =>
    have hb1 : (rf == 0) = true := by simpa using h1
    have hb2 : (hf == 0) = false := by simpa using h2
    have hb3 : (rc == 0) = false := by simpa using fun h => h2 (hcode.1 h).2
    have hhf := HHF.out W11 HB11.out
    clear h1 h2 hcode HHF
    go_wp2_with fail
    refine hhf.mono ?_
    rintro e W12 ⟨rfl, hb12⟩
    have HB12 := Lib.hid (HB11.out.trans (hb12.mono HB11.out.size))
    have HO12 := Lib.hid (show Own W12 W9.heap.size 46 5 (.slice AL nL cL) nL from let ⟨_, h⟩ := HO11.out; ⟨_, own_below h hb12 (Nat.le_refl _)⟩)
    clear hhf hb12 HB11 HO11
    go_wp2_with fail
  case' inr.inr =>
    have hb1 : (rf == 0) = false := by simpa using h1
    have hb3 : (rc == 0) = false := by simpa using fun h => h1 (hcode.1 h).1
    clear h1 hcode HHF
    obtain ⟨W12, rfl⟩ : ∃ W12 : World, W12 = W11 := ⟨_, rfl⟩
    have HB12 := HB11
    have HO12 := HO11
    clear HB11 HO11
    go_wp2_with fail
  all_goals
    go_loopw [60] (fun v60 wr => ∃ k : Nat, k ≤ nL ∧ v60 = .int .i64 k ∧ Own wr W9.heap.size 46 5 (.slice AL nL cL) nL ∧ Below W9.heap.size W9 wr) (fun v60 _ => nL - (intOf v60).toNat)
    case atStart => exact ⟨0, by omega, rfl, HO12.out, HB12.out⟩
    case round =>
      clear HO12 HB12
      obtain ⟨k, hk, rfl, hO, hB⟩ := hrel
      by_cases hlt : k < nL
      · obtain ⟨g, rfl, hg⟩ := hO.at_ (by omega)
        obtain ⟨u, hu, hfz⟩ := hO.cell (j := k * 5 + 4) (by omega)
        have hN := Lib.hid (show Own (wr.setCell ⟨g, k * 5 + 4, none⟩ (.string ⟨#[115, 112, 111, 105, 108, 116]⟩)) W9.heap.size 46 5 (.slice (some ⟨g, 0, none⟩) nL cL) nL ∧ Below W9.heap.size W9 (wr.setCell ⟨g, k * 5 + 4, none⟩ (.string ⟨#[115, 112, 111, 105, 108, 116]⟩)) from ⟨hO.put _ _, below_put hB hB.size hg _ _⟩)
        clear hO hB
        go_wp2_with fail
        go_roundw
        case rel => exact ⟨k + 1, by omega, by go_num, hN.out.1, hN.out.2⟩
        case measure => simp [intOf]; omega
      · have : k = nL := by omega
        subst this
        have HB13 := Lib.hid hB
        clear hO hB
        have hth := throughAny_any AX cX ys ⟨#[102, 114, 97]⟩ ⟨#[110, 121, 99]⟩ wr (lks_of (HX9.out.below HB13.out)) (by omega) (by decide) (by decide) (by decide) (by decide) HSM.out
        go_wp2_with fail
        refine hth.mono ?_
        rintro e W14 ⟨z, n, c, kz, vals, rfl, hO, hkz, hb14⟩
        have HB14 := Lib.hid (HB13.out.trans (hb14.mono HB13.out.size))
        have hO2 : Own W14 wr.heap.size 9 1 z kz := ⟨_, hO⟩
        obtain ⟨AZ, cZ, rfl⟩ := hO2.slice
        have HOZ := Lib.hid hO2
        have hbw : W9.heap.size ≤ wr.heap.size := HB13.out.size
        clear hth hb14 HB13 hO hO2
        rcases (show c ≠ 0 ∨ (c = 0 ∧ kz = 0) ∨ (c = 0 ∧ 0 < kz) from by omega) with h1 | ⟨h1, h2⟩ | ⟨h1, h2⟩
        case' inl =>
          have hc1 : (c == 0) = false := by simpa using h1
          have HBE := HB14
          obtain ⟨W15, rfl⟩ : ∃ W15 : World, W15 = W14 := ⟨_, rfl⟩
          clear h1 HOZ HB14
          go_wp2_with fail
        case' inr.inl =>
          have hc1 : (c == 0) = true := by simpa using h1
          have hc2 : decide (0 < kz) = false := by simp; omega
          have HBE := HB14
          obtain ⟨W15, rfl⟩ : ∃ W15 : World, W15 = W14 := ⟨_, rfl⟩
          clear h1 h2 HOZ HB14
          go_wp2_with fail
        case' inr.inr =>
          have hc1 : (c == 0) = true := by simpa using h1
          have hc2 : decide (0 < kz) = true := by simp; omega
          obtain ⟨g, rfl, hg⟩ := HOZ.out.at_ h2
          obtain ⟨u, hu, hfz⟩ := HOZ.out.cell (j := 0) (by omega)
          have HBE := Lib.hid (below_put HB14.out HB14.out.size (show W9.heap.size ≤ g by omega) 0 (.string ⟨#[115, 112, 111, 105, 108, 116]⟩))
          clear h1 HOZ HB14
          go_wp2_with fail
          clear hu hfz
          generalize World.setCell W14 _ _ = W15 at *
        all_goals
          refine (Homes_any AP cP ps 5 ⟨#[110, 97]⟩ W15 (HP9.out.below HBE.out) (by omega) (pb_sizes HPS.out) (by omega) (by decide) (by decide)).mono ?_
          rintro e W16 ⟨v16, c16, rfl, hb16⟩
          have HB16 := Lib.hid (HBE.out.trans (hb16.mono HBE.out.size))
          clear hb16 HBE
          go_wp2_with fail
          refine (qr_equal AR AT cR cT xs W16 (HR9.out.below HB16.out) (HS9.out.below HB16.out) (by omega)).mono ?_
          rintro e W17 ⟨rfl, hb17⟩
          have HB17 := Lib.hid (HB16.out.trans (hb17.mono HB16.out.size))
          clear hb17 HB16
          go_wp2_with fail
          refine (qh_equal AH AI cH cI hl1 W17 (HH9.out.below HB17.out) (HI9.out.below HB17.out) (by omega)).mono ?_
          rintro e W18 ⟨rfl, hb18⟩
          have HB18 := Lib.hid (HB17.out.trans (hb18.mono HB17.out.size))
          clear hb18 HB17
          go_wp2_with fail
          refine (qp_equal AP AQ cP cQ ps W18 (HP9.out.below HB18.out) (HQ9.out.below HB18.out) (by omega)).mono ?_
          rintro e W19 ⟨rfl, hb19⟩
          have HB19 := Lib.hid (HB18.out.trans (hb19.mono HB18.out.size))
          clear hb19 HB18
          go_wp2_with fail
          refine (ql_equal AX AY cX cY ys W19 (HX9.out.below HB19.out) (HY9.out.below HB19.out) (by omega)).mono ?_
          rintro e W20 ⟨rfl, hb20⟩
          have HB20 := Lib.hid (HB19.out.trans (hb20.mono HB19.out.size))
          clear hb20 HB19
          go_wp2_with fail
          refine (ready_true W20).mono ?_
          rintro e W21 ⟨rfl, hb21⟩
          have HB21 := Lib.hid (HB9.out.trans ((HB20.out.trans (hb21.mono HB20.out.size)).mono HB9.out.size))
          clear hb21 HB20
          go_wp2_with fail
          go_ret
          exact ⟨rfl, HB21.out⟩
end Go.Proofs.YtkbbmlkgaooaiaaGreatDoor
