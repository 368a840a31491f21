/- PathsAreKept: the walk. -/
import Derived.Test.YtdkgmmngoojamaaGreatDoorPaI
import Derived.Test.YtdkgmmngoojamaaGreatDoorReady
namespace Go.Proofs.YtdkgmmngoojamaaGreatDoor
open Go.RowKit Go.Hw Go.Shelf

theorem flat3 {α : Type} (f : α → List Value) (hf : ∀ x, (f x).length = 3) (l : List α) : ∀ i (h : i < l.length) j u, (f l[i])[j]? = some u → (l.flatMap f)[i * 3 + j]? = some u := by
  induction l with
  | nil => intro i h; simp at h
  | cons a l ih =>
    intro i h j u hu
    rw [List.flatMap_cons]
    have hj : j < 3 := by
      have := (List.getElem?_eq_some_iff.1 hu).1
      rw [hf] at this
      exact this
    rcases i with _ | i
    · rw [List.getElem?_append_left (by rw [hf]; omega), show 0 * 3 + j = j from by omega]
      exact hu
    · rw [List.getElem?_append_right (by rw [hf]; omega), hf, show (i + 1) * 3 + j - 3 = i * 3 + j from by omega]
      exact ih i (by simp at h; omega) j u hu
theorem sms_at {w : World} {base : Nat} {v : Value} {xs : List Smp} (h : w.ownsRow base 93 3 v xs.length (smsCells xs)) : ∃ A cap, v = .slice A xs.length cap ∧ SmsAt w w.heap.size A xs := by
  obtain ⟨A, cap, rfl, hc⟩ := own_reads h
  refine ⟨A, cap, rfl, fun i hi => ?_⟩
  have he : xs.getD i noSmp = xs[i] := by rw [List.getD_eq_getElem?_getD, List.getElem?_eq_getElem hi]; rfl
  have hcell := fun j u hu => hc _ _ (flat3 smCells (fun _ => rfl) xs i hi j u hu)
  obtain ⟨g, h1, h2, h3⟩ := hcell 0 _ rfl
  obtain ⟨g', h1', _, h4⟩ := hcell 1 _ rfl
  obtain ⟨g'', h1'', _, h5⟩ := hcell 2 _ rfl
  rw [h1] at h1' h1''
  injection h1' with h1'
  injection h1' with h1'
  injection h1'' with h1''
  injection h1'' with h1''
  subst h1' h1''
  exact ⟨g, 0, h1, h2, by rw [he, Nat.zero_add]; exact h3, by rw [he, Nat.zero_add]; exact h4, by rw [he, Nat.zero_add]; exact h5⟩
/-- Turns in memory, below block B. -/
def TnsAt (w : World) (B : Nat) (A : Option Addr) (l : List Tn) : Prop :=
  ∀ i, i < l.length → ∃ g, A = some ⟨g, 0, none⟩ ∧ g < B ∧ w.cell? ⟨g, i * 3, none⟩ = some (.string (l.getD i noTn).who) ∧ w.cell? ⟨g, i * 3 + 1, none⟩ = some (.int .i64 (l.getD i noTn).from_) ∧ w.cell? ⟨g, i * 3 + 2, none⟩ = some (.int .i64 (l.getD i noTn).to_)
theorem TnsAt.below {w w' : World} {B : Nat} {A : Option Addr} {l : List Tn} (h : TnsAt w B A l) (hb : Below B w w') : TnsAt w' B A l := fun i hi =>
  let ⟨g, h1, h2, h3, h4, h5⟩ := h i hi
  ⟨g, h1, h2, (hb.cell (p := ⟨g, _, none⟩) h2).trans h3, (hb.cell (p := ⟨g, _, none⟩) h2).trans h4, (hb.cell (p := ⟨g, _, none⟩) h2).trans h5⟩
theorem tns_at {w : World} {base : Nat} {v : Value} {l : List Tn} (h : TnsOwn w base v l) : ∃ A cap, v = .slice A l.length cap ∧ TnsAt w w.heap.size A l := by
  obtain ⟨A, cap, rfl, hc⟩ := own_reads h
  refine ⟨A, cap, rfl, fun i hi => ?_⟩
  have he : l.getD i noTn = l[i] := by rw [List.getD_eq_getElem?_getD, List.getElem?_eq_getElem hi]; rfl
  have hcell := fun j u hu => hc _ _ (flat3 tnCells (fun _ => rfl) l i hi j u hu)
  obtain ⟨g, h1, h2, h3⟩ := hcell 0 _ rfl
  obtain ⟨g', h1', _, h4⟩ := hcell 1 _ rfl
  obtain ⟨g'', h1'', _, h5⟩ := hcell 2 _ rfl
  rw [h1] at h1' h1''
  injection h1' with h1'
  injection h1' with h1'
  injection h1'' with h1''
  injection h1'' with h1''
  subst h1' h1''
  exact ⟨g, h1, h2, by rw [he]; exact h3, by rw [he]; exact h4, by rw [he]; exact h5⟩
theorem known_bd {xs : List Smp} (hf : SmpFine xs) (fresh : Int) (p : ByteArray) (t : Int) : -1 ≤ (knownP xs fresh p t).1 ∧ (knownP xs fresh p t).1 ≤ 1000000 := by
  unfold knownP knownV
  cases hy : lastOf xs p t with
  | none => simp
  | some y =>
    obtain ⟨h1, _⟩ := lastOf_mem xs p t y hy
    obtain ⟨i, hi, rfl⟩ := smp_mem h1
    exact hf.ms i hi
theorem alloc_size (w : World) (o : Obj) : (w.alloc o).heap.size = w.heap.size + 1 := by simp
theorem below_dr {B : Nat} {a w : World} (h : Below B a w) : Below B a w.drew := ⟨h.os, h.tape, h.output, h.size, h.block⟩
theorem pick_of {vs : List Int} {P : Int → Prop} (h : ∀ v ∈ vs, P v) {k : Nat} (hk : k < vs.length) : P (vs.getD k 0) := by
  rw [List.getD_eq_getElem?_getD, List.getElem?_eq_getElem hk]; exact h _ (List.getElem_mem hk)

/-- What the statement needs of place i. -/
structure Spot3 (xs : List Smp) (gain fresh : Int) (l : List Tn) (i : Nat) : Prop where
  here : (knownP xs fresh (l.getD i noTn).who (l.getD i noTn).from_).2 = true
  next : i + 1 < l.length → (l.getD i noTn).to_ = (l.getD (i + 1) noTn).from_ → (knownP xs fresh (l.getD i noTn).who (l.getD i noTn).to_).2 = true →
    gain ≤ (knownP xs fresh (l.getD i noTn).who (l.getD i noTn).to_).1 - (knownP xs fresh (l.getD (i + 1) noTn).who (l.getD i noTn).to_).1
  gone : (knownP xs fresh (l.getD i noTn).who (l.getD i noTn).to_).2 = true → (l.getD i noTn).to_ < 345686400 → i + 1 < l.length ∧ (l.getD (i + 1) noTn).from_ = (l.getD i noTn).to_
theorem spot3 {xs : List Smp} {gain fresh : Int} {l : List Tn} (K : Kept xs gain fresh l) {i : Nat} (hi : i < l.length) : Spot3 xs gain fresh l i := by
  have hget : ∀ j, j < l.length → l[j]? = some (l.getD j noTn) := fun j hj => by rw [List.getD_eq_getElem?_getD, List.getElem?_eq_getElem hj]; rfl
  refine ⟨?_, fun h1 h2 h3 => ?_, fun h1 h2 => ?_⟩
  · have h := K.good _ (List.mem_of_getElem? (hget i hi))
    rw [known_good] at h
    by_cases hb : (knownP xs fresh (l.getD i noTn).who (l.getD i noTn).from_).2 = true
    · exact hb
    · rw [if_neg hb] at h; exact absurd rfl h
  · obtain ⟨n, h4, h5⟩ := (K.next i _ _ (hget i hi) (hget (i + 1) h1)).2 h2 _ (by rw [known_good, if_pos h3])
    rw [known_good] at h4
    split at h4
    · injection h4 with h4
      rw [h4]; exact h5
    · cases h4
  · obtain ⟨z, h3, h4⟩ := K.gone i _ (hget i hi) h2 (by rw [known_good, if_pos h1]; simp)
    have h5 := (List.getElem?_eq_some_iff.1 h3).1
    rw [hget (i + 1) h5] at h3
    injection h3 with h3
    exact ⟨h5, by rw [h3]; exact h4⟩

set_option maxRecDepth 100000 in
set_option maxHeartbeats 4000000 in
theorem paths_any (A : Option Addr) (cap : Nat) (l : List Int) (w : World) (hA : ∀ i, i < l.length → ∃ g off, A = some ⟨g, off, none⟩ ∧ g < w.heap.size ∧ w.cell? ⟨g, off + i, none⟩ = some (.int .i64 (l.getD i 0)))
    (hfits : ∀ i, -9223372036854775808 ≤ l.getD i 0 ∧ l.getD i 0 ≤ 9223372036854775807) (hlong : l.length ≤ 17592186044416) :
    Calls Tryz.prog 6 #[.slice A l.length cap] w fun e w' => e = .returned (.bool true) ∧ Below w.heap.size w w' := by
  have hs0 : Str (w.alloc (.cells #[.slice A l.length cap, .int .i64 0] 25)) w.heap.size A cap l 0 := {
    cell := heap_alloc_new w _
    ints := fun i hi => by
      obtain ⟨g, off, h1, h2, h3⟩ := hA i hi
      exact ⟨g, off, h1, h2, by rw [World.cell?_alloc_lt _ _ _ h2]; exact h3⟩
    fits := hfits
    long := hlong
    low := by omega
    high := by omega }
  have hB0 : Below w.heap.size w (w.alloc (.cells #[.slice A l.length cap, .int .i64 0] 25)) := (Below.refl _ _).alloc (Nat.le_refl _) _
  have HS := Lib.hid hs0
  have HB := Lib.hid hB0
  clear hs0 hB0 hA hfits
  go_enter Tryz.func6, Tryz.ntmps6
  go_wp2_with fail
  generalize hW : World.alloc _ _ = W1 at HS HB ⊢
  clear hW
  have hlt1 := HS.out.lt
  refine (range_any w.heap.size A cap l 0 0 7 W1 HS.out (by omega) (by omega) (by omega) (by omega) (by omega)).mono ?_
  rintro e W2 ⟨rfl, hs2, hg2⟩
  have d1 := draw_low l 0 (7 - 0 + 1) (by omega)
  have d2 := draw_high l 0 (7 - 0 + 1) (by omega)
  generalize drawOf l 0 (7 - 0 + 1) = d at *
  obtain ⟨m, rfl⟩ := Int.eq_ofNat_of_zero_le d1
  have HB2 := Lib.hid (HB.out.grown hg2 HB.out.size (fun j e => by injection e with e; omega))
  rw [show (0 : Int) + (m : Int) = (m : Nat) from by omega]
  clear HS HB hg2 d1
  go_wp2_with fail
  refine (samples_any w.heap.size A cap l (0 + 1) W2 hs2 (by omega) m (by omega)).mono ?_
  rintro e W3 ⟨v, rfl, xs, x3, ho3, hs3, hg3, hxl, hxb, hxs⟩
  have HB3 := Lib.hid (HB2.out.grown hg3 HB2.out.size (fun j e => by injection e with e; omega))
  have HXS := Lib.hid (fun i => (show (xs.getD i noSmp).path.size ≤ maxLen from by
    by_cases h : i < xs.length
    · rw [List.getD_eq_getElem?_getD, List.getElem?_eq_getElem h]
      have := hxs _ (List.getElem_mem h)
      simp only [Option.getD_some]
      unfold maxLen
      omega
    · rw [List.getD_eq_getElem?_getD, List.getElem?_eq_none (by omega)]
      simp [noSmp, maxLen]))
  have hlt2 := hs2.lt
  have hnb := own_ne ho3 hlt2
  clear hs2 hg3 hxs HB2
  go_wp2_with fail
  refine (pick_any w.heap.size A cap l x3 _ (hs3.alloc _) (by omega) W3.heap.size [1, 3, 5] (by rw [heap_alloc_new]; rfl) (by have := hs3.lt; omega) (by simp) (by simp) 3 3 rfl).mono ?_
  rintro e W4 ⟨rfl, hs4, hg4⟩
  have hgain : 0 ≤ ([1, 3, 5] : List Int).getD (drawOf l x3 (([1, 3, 5] : List Int).length : Int)).toNat 0 ∧ ([1, 3, 5] : List Int).getD (drawOf l x3 (([1, 3, 5] : List Int).length : Int)).toNat 0 ≤ 1000000 := pick_in (P := fun v => 0 ≤ v ∧ v ≤ 1000000) (by simp) (by simp) _
  generalize ([1, 3, 5] : List Int).getD (drawOf l x3 (([1, 3, 5] : List Int).length : Int)).toNat 0 = gain at *
  have HB4 := Lib.hid ((HB3.out.alloc HB3.out.size (.cells #[.int .i64 1, .int .i64 3, .int .i64 5] 3)).grown hg4 (HB3.out.alloc HB3.out.size (.cells #[.int .i64 1, .int .i64 3, .int .i64 5] 3)).size (fun j e => by injection e with e; omega))
  have ho4 := (World.ownsRow.alloc ho3 (.cells #[.int .i64 1, .int .i64 3, .int .i64 5] 3)).kept hg4 (.inr hnb)
  clear hs3 hg4 ho3 HB3
  go_wp2_with fail
  refine (pick_any w.heap.size A cap l (x3 + 1) _ (hs4.alloc _) (by omega) W4.heap.size [5, 10, 30] (by rw [heap_alloc_new]; rfl) (by have := hs4.lt; omega) (by simp) (by simp) 3 3 rfl).mono ?_
  rintro e W5 ⟨rfl, hs5, hg5⟩
  have hd5 : (drawOf l (x3 + 1) (([5, 10, 30] : List Int).length : Int)).toNat < ([5, 10, 30] : List Int).length := by
    have h1 := draw_low l (x3 + 1) (([5, 10, 30] : List Int).length : Int) (by simp)
    have h2 := draw_high l (x3 + 1) (([5, 10, 30] : List Int).length : Int) (by simp)
    omega
  have hfresh : 1 ≤ ([5, 10, 30] : List Int).getD (drawOf l (x3 + 1) (([5, 10, 30] : List Int).length : Int)).toNat 0 ∧ ([5, 10, 30] : List Int).getD (drawOf l (x3 + 1) (([5, 10, 30] : List Int).length : Int)).toNat 0 ≤ 1000 := pick_of (P := fun v => 1 ≤ v ∧ v ≤ 1000) (by simp) hd5
  generalize ([5, 10, 30] : List Int).getD (drawOf l (x3 + 1) (([5, 10, 30] : List Int).length : Int)).toNat 0 = fresh at *
  have HB5 := Lib.hid ((HB4.out.alloc HB4.out.size (.cells #[.int .i64 5, .int .i64 10, .int .i64 30] 3)).grown hg5 (HB4.out.alloc HB4.out.size (.cells #[.int .i64 5, .int .i64 10, .int .i64 30] 3)).size (fun j e => by injection e with e; omega))
  have ho5 := (World.ownsRow.alloc ho4 (.cells #[.int .i64 5, .int .i64 10, .int .i64 30] 3)).kept hg5 (.inr hnb)
  obtain ⟨A5, c5, rfl, hat5⟩ := sms_at ho5
  have HAT5 := Lib.hid hat5
  clear hs4 hg5 ho4 ho5 HB4 hs5 hd5 hnb hat5
  go_wp2_with fail
  generalize hW : World.alloc _ _ = W6
  have hB56 : Below W5.heap.size W5 W6 := by rw [← hW]; exact ((Below.refl _ _).alloc (Nat.le_refl _) _).alloc (by simp) _
  have hsz6 : W5.heap.size + 2 ≤ W6.heap.size := by rw [← hW]; simp
  have cx6 : W6.cell? ⟨W5.heap.size, 0, none⟩ = some (.slice A5 xs.length c5) := by
    rw [← hW, World.cell?_alloc_lt _ _ _ (by simp)]
    simp only [World.cell?, heap_alloc_new]
    rfl
  have cf6 : W6.cell? ⟨W5.heap.size + 1, 0, none⟩ = some (.int .i64 fresh) := by
    rw [← hW]
    have := heap_alloc_new (W5.alloc (.cells #[.slice A5 xs.length c5] 87)) (.cells #[.int .i64 fresh] 3)
    simp only [alloc_size] at this
    simp only [World.cell?, this]
    rfl
  clear hW
  have HB6 := Lib.hid (HB5.out.trans (hB56.mono HB5.out.size))
  have hS6 := (HAT5.out.below hB56)
  have HKC : Hid (KCap W6 W6.heap.size W5.heap.size (W5.heap.size + 1) A5 c5 xs fresh) := Lib.hid ⟨cx6, cf6, hS6.more (by omega), by omega, by omega, Nat.le_refl _⟩
  have HS6 := Lib.hid (hS6.more (B' := W6.heap.size) (by omega))
  have hw5 := HB5.out.size
  clear hB56 HB5 HAT5 hS6
  refine (samplesFault_any A5 c5 xs W6 HS6.out (by omega) HXS.out).mono ?_
  rintro e W7 ⟨rfl, hb7⟩
  have HKC7 := Lib.hid (HKC.out.below hb7)
  have HB7 := Lib.hid (HB6.out.trans (hb7.mono HB6.out.size))
  have HS7 := Lib.hid ((HS6.out.below hb7).more hb7.size)
  have hs67 := hb7.size
  have cx7 := (hb7.cell (p := ⟨W5.heap.size, 0, none⟩) (show W5.heap.size < W6.heap.size by omega)).trans cx6
  have cf7 := (hb7.cell (p := ⟨W5.heap.size + 1, 0, none⟩) (show W5.heap.size + 1 < W6.heap.size by omega)).trans cf6
  clear HKC HB6 HS6 hb7 cx6 cf6
  by_cases hf : smpFault xs = 0
  rotate_left
  · have hcc : (smpFault xs != 0) = true := by simpa using hf
    clear cx7 cf7 hf
    go_wp2_with fail
    refine Calls.mono (ready_true W7) ?_
    rintro _ W8 ⟨rfl, hb8⟩
    have HB8 := Lib.hid (HB7.out.trans (hb8.mono HB7.out.size))
    clear hb8
    go_wp2_with fail
    go_ret
    exact ⟨rfl, HB8.out⟩
  have hfine := smp_fine hf (by omega)
  have hused := used_any A5 c5 xs gain fresh W7 HS7.out (by omega) HXS.out hf hgain hfresh
  have HFINE := Lib.hid hfine
  rw [hf]
  clear hf hfine
  go_wp2_with fail
  refine hused.mono ?_
  rintro e W8 ⟨v8, out, rfl, hO8, hK8, hb8, hol⟩
  obtain ⟨A8, c8, rfl, hT8⟩ := tns_at hO8
  have HT8 := Lib.hid hT8
  have HK8 := Lib.hid hK8
  have HKC8 := Lib.hid (HKC7.out.below (hb8.mono hs67))
  have HB8 := Lib.hid (HB7.out.trans (hb8.mono HB7.out.size))
  have hs78 := hb8.size
  have hw68 : W6.heap.size ≤ W8.heap.size := by omega
  clear hused hO8 hT8 hK8 hb8 HKC7 HB7 HS7 cx7 cf7 HXS
  go_wp2_with fail
  go_loopw [49] (fun v wr => ∃ i : Nat, i ≤ out.length ∧ v = .int .i64 i ∧ Below W8.heap.size W8 wr) (fun v _ => out.length - (intOf v).toNat)
  case atStart => exact ⟨0, by omega, rfl, Below.refl _ _⟩
  case round =>
    obtain ⟨i, hi, rfl, hb⟩ := hrel
    by_cases hlt : i < out.length
    · obtain ⟨g, rfl, hg, c0, c1, c2⟩ := (HT8.out.below hb) i hlt
      obtain ⟨q1, q2, q3⟩ := spot3 HK8.out hlt
      have k1 := fun W (hW : Below W8.heap.size W8 W) => known_any W6.heap.size W5.heap.size (W5.heap.size + 1) A5 c5 xs fresh (out.getD i noTn).from_ (out.getD i noTn).who W (HKC8.out.below (hW.mono hw68)) HFINE.out (by omega) hfresh
      have k2 := fun W (hW : Below W8.heap.size W8 W) => known_any W6.heap.size W5.heap.size (W5.heap.size + 1) A5 c5 xs fresh (out.getD i noTn).to_ (out.getD i noTn).who W (HKC8.out.below (hW.mono hw68)) HFINE.out (by omega) hfresh
      have k3 := fun W (hW : Below W8.heap.size W8 W) => known_any W6.heap.size W5.heap.size (W5.heap.size + 1) A5 c5 xs fresh (out.getD i noTn).to_ (out.getD (i + 1) noTn).who W (HKC8.out.below (hW.mono hw68)) HFINE.out (by omega) hfresh
      have hb2 := known_bd HFINE.out fresh (out.getD i noTn).who (out.getD i noTn).to_
      have hb3 := known_bd HFINE.out fresh (out.getD (i + 1) noTn).who (out.getD i noTn).to_
      have hzc : Hid (i + 1 < out.length → wr.cell? ⟨g, (i + 1) * 3, none⟩ = some (.string (out.getD (i + 1) noTn).who) ∧ wr.cell? ⟨g, (i + 1) * 3 + 1, none⟩ = some (.int .i64 (out.getD (i + 1) noTn).from_)) := Lib.hid fun h1 => by
        obtain ⟨g', e', _, d0, d1, _⟩ := (HT8.out.below hb) (i + 1) h1
        injection e' with e'
        injection e' with e'
        subst e'
        exact ⟨d0, d1⟩
      have hgw : g < wr.heap.size := Nat.lt_of_lt_of_le hg hb.size
      generalize out.getD i noTn = y at *
      generalize out.getD (i + 1) noTn = z at *
      obtain ⟨yw, yf, yt⟩ := y
      obtain ⟨zw, zf, zt⟩ := z
      simp only at q1 q2 q3 k1 k2 k3 hb2 hb3 hzc c0 c1 c2
      generalize knownP xs fresh yw yf = p1 at *
      generalize knownP xs fresh yw yt = p2 at *
      generalize knownP xs fresh zw yt = p3 at *
      obtain ⟨n1, b1⟩ := p1
      obtain ⟨n2, b2⟩ := p2
      obtain ⟨n3, b3⟩ := p3
      simp only at q1 q2 q3 k1 k2 k3 hb2 hb3
      subst q1
      have HK1 := Lib.hid k1
      have HK2 := Lib.hid k2
      have HK3 := Lib.hid k3
      have Q2 := Lib.hid q2
      have Q3 := Lib.hid q3
      have hbB := hb.alloc hb.size (.cells #[.string yw, .int .i64 yf, .int .i64 yt] 51)
      have HBB := Lib.hid hbB
      have hnew := heap_alloc_new wr (.cells #[.string yw, .int .i64 yf, .int .i64 yt] 51)
      have hbw : wr.heap.size < (wr.alloc (.cells #[.string yw, .int .i64 yf, .int .i64 yt] 51)).heap.size := by simp
      have hgB : g < (wr.alloc (.cells #[.string yw, .int .i64 yf, .int .i64 yt] 51)).heap.size := by simp; omega
      have HN := Lib.hid hnew
      clear k1 k2 k3 q2 q3 hbB hb hnew
      have hzc' : Hid (i + 1 < out.length → (wr.alloc (.cells #[.string yw, .int .i64 yf, .int .i64 yt] 51)).cell? ⟨g, (i + 1) * 3, none⟩ = some (.string zw) ∧ (wr.alloc (.cells #[.string yw, .int .i64 yf, .int .i64 yt] 51)).cell? ⟨g, (i + 1) * 3 + 1, none⟩ = some (.int .i64 zf)) := Lib.hid fun h1 => by
        obtain ⟨d0, d1⟩ := hzc.out h1
        exact ⟨(World.cell?_alloc_lt _ _ ⟨g, _, none⟩ hgw).trans d0, (World.cell?_alloc_lt _ _ ⟨g, _, none⟩ hgw).trans d1⟩
      clear hzc
      go_wp2_with fail
      clear c0 c1 c2
      refine (HK1.out _ HBB.out).mono ?_
      rintro e W9 ⟨rfl, hb9⟩
      have hn9 := (hb9.block wr.heap.size hbw).trans HN.out
      have HN9 := Lib.hid hn9
      have x0 := cell_of hn9 0
      have x1 := cell_of hn9 1
      have x2 := cell_of hn9 2
      simp only [List.getElem?_toArray, List.getElem?_cons_zero, List.getElem?_cons_succ] at x0 x1 x2
      have hbb9 := HBB.out.trans (hb9.mono HBB.out.size)
      have HB9 := Lib.hid hbb9
      have hz9 : Hid (i + 1 < out.length → W9.cell? ⟨g, (i + 1) * 3, none⟩ = some (.string zw) ∧ W9.cell? ⟨g, (i + 1) * 3 + 1, none⟩ = some (.int .i64 zf)) := Lib.hid fun h1 => ⟨(hb9.cell (p := ⟨g, _, none⟩) hgB).trans (hzc'.out h1).1, (hb9.cell (p := ⟨g, _, none⟩) hgB).trans (hzc'.out h1).2⟩
      have hg9 : g < W9.heap.size := Nat.lt_of_lt_of_le hgB hb9.size
      have hw9 : wr.heap.size < W9.heap.size := Nat.lt_of_lt_of_le hbw hb9.size
      clear hb9 hn9 hbb9 HBB HN hzc' HK1 hgB hbw
      by_cases h1 : i + 1 < out.length
      · obtain ⟨z0, z1⟩ := hz9.out h1
        have hd : decide ((i : Int) + 1 < (out.length : Int)) = true := by simp; omega
        have s0 : IntKind.i64.wrap ((i : Int) + 1) = (i : Int) + 1 := IntWalk.i64_in _ (by omega)
        have s1 : 0 ≤ (i : Int) + 1 := by omega
        have s2 : ((i : Int) + 1).toNat = i + 1 := by omega
        have s3 : (i : Int) + 1 < (out.length : Int) := by omega
        by_cases h2 : zf = yt
        · subst h2
          go_wp2_with fail
          go_quiet (fail)
          go_wp2_with fail
          refine (HK2.out _ (below_dn HB9.out _)).mono ?_
          rintro e W10 ⟨rfl, hb10⟩
          have x2' := (hb10.cell (p := ⟨wr.heap.size, 2, none⟩) hw9).trans (show (W9.drewN nq).cell? ⟨wr.heap.size, 2, none⟩ = some (.int .i64 zf) from x2)
          have x0' := (hb10.cell (p := ⟨wr.heap.size, 0, none⟩) hw9).trans (show (W9.drewN nq).cell? ⟨wr.heap.size, 0, none⟩ = some (.string yw) from x0)
          have z0' := (hb10.cell (p := ⟨g, (i + 1) * 3, none⟩) hg9).trans (show (W9.drewN nq).cell? ⟨g, (i + 1) * 3, none⟩ = some (.string zw) from z0)
          have z1' := (hb10.cell (p := ⟨g, (i + 1) * 3 + 1, none⟩) hg9).trans (show (W9.drewN nq).cell? ⟨g, (i + 1) * 3 + 1, none⟩ = some (.int .i64 zf) from z1)
          have HB10 := Lib.hid ((below_dn HB9.out nq).trans (hb10.mono HB9.out.size))
          have hg10 : g < W10.heap.size := Nat.lt_of_lt_of_le hg9 hb10.size
          have hw10 : wr.heap.size < W10.heap.size := Nat.lt_of_lt_of_le hw9 hb10.size
          clear hb10 x0 x1 x2 z0 z1 hz9
          go_wp2_with fail
          go_region_held3 (fun w' => w'.cell? ⟨wr.heap.size, 2, none⟩ = some (.int .i64 zf) ∧ w'.cell? ⟨g, (i + 1) * 3, none⟩ = some (.string zw))
            (first | go_keep | exact ⟨x2', z0'⟩ | exact ⟨u2, u0⟩ | ((repeat' apply And.intro) <;> (first | (go_simp; done) | with_reducible assumption)))
            ((go_at_call 37; refine (HK3.out _ (by first | exact HB10.out | exact below_dr HB10.out | exact below_dn HB10.out _)).mono ?_; rintro e W11 ⟨rfl, hb11⟩; have u2 : W11.cell? ⟨wr.heap.size, 2, none⟩ = some (.int .i64 zf) := (hb11.cell (p := ⟨wr.heap.size, 2, none⟩) hw10).trans (by go_simp); have u0 : W11.cell? ⟨g, (i + 1) * 3, none⟩ = some (.string zw) := (hb11.cell (p := ⟨g, (i + 1) * 3, none⟩) hg10).trans (by go_simp)))
          have HB11 := Lib.hid ((below_dr HB10.out).trans (hb11.mono HB10.out.size))
          have u1 : W11.cell? ⟨g, (i + 1) * 3 + 1, none⟩ = some (.int .i64 zf) := (hb11.cell (p := ⟨g, (i + 1) * 3 + 1, none⟩) hg10).trans (by go_simp)
          have u3 : W11.cell? ⟨wr.heap.size, 0, none⟩ = some (.string yw) := (hb11.cell (p := ⟨wr.heap.size, 0, none⟩) hw10).trans (by go_simp)
          have hg11 : g < W11.heap.size := Nat.lt_of_lt_of_le hg10 hb11.size
          have hw11 : wr.heap.size < W11.heap.size := Nat.lt_of_lt_of_le hw10 hb11.size
          clear hb11 x2' x0' z0' z1' u0 HN9
          cases b2
          · clear Q2 Q3
            go_wp2_with fail
            refine (HK2.out _ HB11.out).mono ?_
            rintro e W12 ⟨rfl, hb12⟩
            have v2 := (hb12.cell (p := ⟨wr.heap.size, 2, none⟩) hw11).trans u2
            have v1 := (hb12.cell (p := ⟨g, (i + 1) * 3 + 1, none⟩) hg11).trans u1
            have HB12 := Lib.hid (HB11.out.trans (hb12.mono HB11.out.size))
            clear hb12 u2 u1 u3
            go_wp2_with fail
            go_quiet (fail)
            go_wp2_with fail
            go_roundw
            case rel => exact ⟨i + 1, by omega, by go_num, below_dn HB12.out _⟩
            case measure => simp [intOf]; omega
          · have hq := Q2.out h1 trivial rfl
            clear Q2 Q3
            go_wp2_with fail
            refine (HK2.out _ HB11.out).mono ?_
            rintro e W12 ⟨rfl, hb12⟩
            have v2 := (hb12.cell (p := ⟨wr.heap.size, 2, none⟩) hw11).trans u2
            have v1 := (hb12.cell (p := ⟨g, (i + 1) * 3 + 1, none⟩) hg11).trans u1
            have HB12 := Lib.hid (HB11.out.trans (hb12.mono HB11.out.size))
            clear hb12 u2 u1 u3
            by_cases hye : zf < 345686400
            · have hne : ((i : Int) + 1 == (out.length : Int)) = false := by rw [beq_eq_false_iff_ne]; omega
              have hyd : decide (zf < 345686400) = true := by simpa using hye
              have hzz : decide (zf < zf) = false := by simp
              go_wp2_with fail
              go_quiet (fail)
              go_wp2_with fail
              go_roundw
              case rel => exact ⟨i + 1, by omega, by go_num, below_dn HB12.out _⟩
              case measure => simp [intOf]; omega
            · have hyd : decide (zf < 345686400) = false := by simpa using hye
              go_wp2_with fail
              go_quiet (fail)
              go_wp2_with fail
              go_roundw
              case rel => exact ⟨i + 1, by omega, by go_num, below_dn HB12.out _⟩
              case measure => simp [intOf]; omega
        · have hze : (zf == yt) = false := by rw [beq_eq_false_iff_ne]; exact h2
          have Q3' : Hid (b2 = true → ¬ yt < 345686400) := Lib.hid fun h3 h4 => h2 (Q3.out h3 h4).2
          go_wp2_with fail
          go_quiet (fail)
          clear Q3 Q2 HK3 hz9
          go_wp2_with fail
          refine (HK2.out _ (below_dn HB9.out _)).mono ?_
          rintro e W10 ⟨rfl, hb10⟩
          have x2' := (hb10.cell (p := ⟨wr.heap.size, 2, none⟩) hw9).trans (show (W9.drewN nq).cell? ⟨wr.heap.size, 2, none⟩ = some (.int .i64 yt) from x2)
          have HB10 := Lib.hid ((below_dn HB9.out nq).trans (hb10.mono HB9.out.size))
          clear hb10 x0 x1 x2 z0 z1
          cases b2
          · go_wp2_with fail
            go_quiet (fail)
            go_wp2_with fail
            go_roundw
            case rel => exact ⟨i + 1, by omega, by go_num, below_dn HB10.out _⟩
            case measure => simp [intOf]; omega
          · have hye : ¬ yt < 345686400 := by have := Q3'.out rfl; omega
            have hyd : decide (yt < 345686400) = false := by simpa using hye
            go_wp2_with fail
            go_quiet (fail)
            go_wp2_with fail
            go_roundw
            case rel => exact ⟨i + 1, by omega, by go_num, below_dn HB10.out _⟩
            case measure => simp [intOf]; omega
      · have hie : i + 1 = out.length := by omega
        have hd : decide ((i : Int) + 1 < (out.length : Int)) = false := by simp; omega
        have s0 : IntKind.i64.wrap ((i : Int) + 1) = (i : Int) + 1 := IntWalk.i64_in _ (by omega)
        have Q3' : Hid (b2 = true → ¬ yt < 345686400) := Lib.hid fun h2 h3 => h1 (Q3.out h2 h3).1
        clear Q3 Q2 HK3 hz9 h1
        go_wp2_with fail
        go_quiet (fail)
        go_wp2_with fail
        refine (HK2.out _ (below_dn HB9.out _)).mono ?_
        rintro e W10 ⟨rfl, hb10⟩
        have x2' := (hb10.cell (p := ⟨wr.heap.size, 2, none⟩) hw9).trans (show (W9.drewN nq).cell? ⟨wr.heap.size, 2, none⟩ = some (.int .i64 yt) from x2)
        have HB10 := Lib.hid ((below_dn HB9.out nq).trans (hb10.mono HB9.out.size))
        clear hb10 x0 x1 x2 s0 hd
        cases b2
        · go_wp2_with fail
          go_quiet (fail)
          go_wp2_with fail
          go_roundw
          case rel => exact ⟨i + 1, by omega, by go_num, below_dn HB10.out _⟩
          case measure => simp [intOf]; omega
        · have hye : ¬ yt < 345686400 := by have := Q3'.out rfl; omega
          have hyd : decide (yt < 345686400) = false := by simpa using hye
          go_wp2_with fail
          go_quiet (fail)
          go_wp2_with fail
          go_roundw
          case rel => exact ⟨i + 1, by omega, by go_num, below_dn HB10.out _⟩
          case measure => simp [intOf]; omega
    · have : i = out.length := by omega
      subst this
      go_wp2_with fail
      refine Calls.mono (ready_true wr) ?_
      rintro _ W9 ⟨rfl, hb9⟩
      have HB9 := Lib.hid (HB8.out.trans ((hb.mono HB8.out.size).trans (hb9.mono (Nat.le_trans HB8.out.size hb.size))))
      clear hb9
      go_wp2_with fail
      go_ret
      exact ⟨rfl, HB9.out⟩
end Go.Proofs.YtdkgmmngoojamaaGreatDoor
