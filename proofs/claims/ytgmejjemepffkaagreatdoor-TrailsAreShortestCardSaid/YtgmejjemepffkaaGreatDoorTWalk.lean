/- TrailsAreShortest: the walk. -/
import Derived.Test.YtgmejjemepffkaaGreatDoorTPre
namespace Go.Proofs.YtgmejjemepffkaaGreatDoor
open Go.RowKit Go.Hw

def wpair (x y : ByteArray) : Obj := .cells #[.string x, .string y] 9

/-- What is known at the head of a round: the first j steps are added up. -/
def TInv (W : World) (pre : Nat → Nat) (len : Nat) (s p : Value) (wr : World) : Prop :=
  ∃ j bi : Nat, j + 1 ≤ len ∧ s = .int .i64 (pre j : Nat) ∧ p = .pointer (some ⟨bi, 0, none⟩) ∧ wr.heap[bi]? = some (.cells #[.int .i64 ((j : Int) + 1)] 3 (0, 0)) ∧ W.heap.size ≤ bi ∧ Below W.heap.size W wr
def cellInt (p : Value) (wr : World) : Nat := match p with
  | .pointer (some a) => (match wr.cell? a with | some v => (intOf v).toNat | none => 0)
  | _ => 0
theorem cellInt_at {wr : World} {bi : Nat} {x : Int} {T : TypeId} (h : wr.heap[bi]? = some (.cells #[.int .i64 x] T (0, 0))) : cellInt (.pointer (some ⟨bi, 0, none⟩)) wr = x.toNat := by
  unfold cellInt
  simp only [cell_of_one h, intOf]

set_option maxRecDepth 100000 in
set_option maxHeartbeats 2000000 in
theorem trails_any (A : Option Addr) (cap : Nat) (l : List Int) (w : World) (hA : ∀ i, i < l.length → ∃ g off, A = some ⟨g, off, none⟩ ∧ g < w.heap.size ∧ w.cell? ⟨g, off + i, none⟩ = some (.int .i64 (l.getD i 0)))
    (hfits : ∀ i, -9223372036854775808 ≤ l.getD i 0 ∧ l.getD i 0 ≤ 9223372036854775807) (hlong : l.length ≤ 17592186044416) :
    Calls Tryz.prog 3 #[.slice A l.length cap] w fun e w' => e = .returned (.bool true) ∧ Below w.heap.size w w' := by
  have hs0 : Str (w.alloc (.cells #[.slice A l.length cap, .int .i64 0] 25)) w.heap.size A cap l 0 := {
    cell := heap_alloc_new w _
    ints := fun i hi => by
      obtain ⟨g, off, h1, h2, h3⟩ := hA i hi
      exact ⟨g, off, h1, h2, by rw [World.cell?_alloc_lt _ _ _ h2]; exact h3⟩
    fits := hfits
    long := hlong
    low := by omega
    high := by omega }
  have hB0 : Below w.heap.size w (w.alloc (.cells #[.slice A l.length cap, .int .i64 0] 25)) := (Below.refl _ _).alloc (Nat.le_refl _) _
  have HS := Lib.hid hs0
  have HB := Lib.hid hB0
  clear hs0 hB0 hA hfits
  go_enter Tryz.func3, Tryz.ntmps3
  go_wp2_with fail
  generalize hW : World.alloc _ _ = W1 at HS HB ⊢
  clear hW
  have hlt1 := HS.out.lt
  refine Calls.mono (links_any w.heap.size A cap l 0 W1 HS.out (by omega)) ?_
  rintro _ W2 ⟨v, rfl, ho, hs, hg⟩
  clear HS
  obtain ⟨hn1, hn2, hn3⟩ := linksOf_length l 0
  have hsm := links_small l 0
  generalize linksOf l 0 = st at *
  go_wp2_with fail
  have hB2 : Below w.heap.size w W2 := HB.out.grown hg HB.out.size (fun j e => by injection e with e; omega)
  have HB2 := Lib.hid hB2
  clear hB2 HB hg
  have fra : isKey ⟨#[102, 114, 97]⟩ = true ∧ (⟨#[102, 114, 97]⟩ : ByteArray).size ≤ maxLen := by decide
  have lon : isKey ⟨#[108, 111, 110]⟩ = true ∧ (⟨#[108, 111, 110]⟩ : ByteArray).size ≤ maxLen := by decide
  have nyc : isKey ⟨#[110, 121, 99]⟩ = true ∧ (⟨#[110, 121, 99]⟩ : ByteArray).size ≤ maxLen := by decide
  have syd : isKey ⟨#[115, 121, 100]⟩ = true ∧ (⟨#[115, 121, 100]⟩ : ByteArray).size ≤ maxLen := by decide
  have tok : isKey ⟨#[116, 111, 107]⟩ = true ∧ (⟨#[116, 111, 107]⟩ : ByteArray).size ≤ maxLen := by decide
  have FRA := Lib.hid fra
  have LON := Lib.hid lon
  have NYC := Lib.hid nyc
  have SYD := Lib.hid syd
  have TOK := Lib.hid tok
  clear fra lon nyc syd tok
  refine Calls.mono (some_any w.heap.size A cap l (st.2) _ (hs.alloc (wpair ⟨#[102, 114, 97]⟩ ⟨#[108, 111, 110]⟩)) (by omega) W2.heap.size [⟨#[102, 114, 97]⟩, ⟨#[108, 111, 110]⟩] (by unfold wpair; rw [heap_alloc_new]; rfl) (by have := hs.lt; omega) (by simp) (by simp) 2 2 rfl) ?_
  rintro _ W3 ⟨rfl, hs3, hg⟩
  have hk := pick_two ⟨#[102, 114, 97]⟩ ⟨#[108, 111, 110]⟩ (fun k => isKey k = true ∧ k.size ≤ maxLen) FRA.out LON.out (drawOf l (st.2) 2) (draw_low _ _ _ (by omega)) (draw_high _ _ _ (by omega))
  rw [show ((([⟨#[102, 114, 97]⟩, ⟨#[108, 111, 110]⟩] : List ByteArray).length : Nat) : Int) = 2 from rfl]
  generalize ([⟨#[102, 114, 97]⟩, ⟨#[108, 111, 110]⟩] : List ByteArray).getD (drawOf l (st.2) 2).toNat ByteArray.empty = ka at hk ⊢
  have ho3 := (ho.alloc (wpair ⟨#[102, 114, 97]⟩ ⟨#[108, 111, 110]⟩)).kept hg (.inr (own_ne ho (by have := HB2.out.size; omega)))
  have hB3 : Below w.heap.size w W3 := HB2.out.grown (grown_alloc_then hg) HB2.out.size (fun j e => by injection e with e; omega)
  have HKa := Lib.hid hk
  have HB3 := Lib.hid hB3
  clear hk hg hB3 hs ho
  go_wp2_with fail
  refine Calls.mono (some_any w.heap.size A cap l (st.2 + 1) _ (hs3.alloc (wpair ⟨#[110, 121, 99]⟩ ⟨#[115, 121, 100]⟩)) (by omega) W3.heap.size [⟨#[110, 121, 99]⟩, ⟨#[115, 121, 100]⟩] (by unfold wpair; rw [heap_alloc_new]; rfl) (by have := hs3.lt; omega) (by simp) (by simp) 2 2 rfl) ?_
  rintro _ W4 ⟨rfl, hs4, hg⟩
  have hk := pick_two ⟨#[110, 121, 99]⟩ ⟨#[115, 121, 100]⟩ (fun k => isKey k = true ∧ k.size ≤ maxLen) NYC.out SYD.out (drawOf l (st.2 + 1) 2) (draw_low _ _ _ (by omega)) (draw_high _ _ _ (by omega))
  rw [show ((([⟨#[110, 121, 99]⟩, ⟨#[115, 121, 100]⟩] : List ByteArray).length : Nat) : Int) = 2 from rfl]
  generalize ([⟨#[110, 121, 99]⟩, ⟨#[115, 121, 100]⟩] : List ByteArray).getD (drawOf l (st.2 + 1) 2).toNat ByteArray.empty = kb at hk ⊢
  have ho4 := (ho3.alloc (wpair ⟨#[110, 121, 99]⟩ ⟨#[115, 121, 100]⟩)).kept hg (.inr (own_ne ho3 (by have := HB2.out.size; omega)))
  have hB4 : Below w.heap.size w W4 := HB3.out.grown (grown_alloc_then hg) HB3.out.size (fun j e => by injection e with e; omega)
  have HKb := Lib.hid hk
  have HB4 := Lib.hid hB4
  clear hk hg hB4 hs3 ho3
  go_wp2_with fail
  refine Calls.mono (some_any w.heap.size A cap l (st.2 + 1 + 1) _ (hs4.alloc (wpair ⟨#[116, 111, 107]⟩ ⟨#[108, 111, 110]⟩)) (by omega) W4.heap.size [⟨#[116, 111, 107]⟩, ⟨#[108, 111, 110]⟩] (by unfold wpair; rw [heap_alloc_new]; rfl) (by have := hs4.lt; omega) (by simp) (by simp) 2 2 rfl) ?_
  rintro _ W5 ⟨rfl, hs5, hg⟩
  have hk := pick_two ⟨#[116, 111, 107]⟩ ⟨#[108, 111, 110]⟩ (fun k => isKey k = true ∧ k.size ≤ maxLen) TOK.out LON.out (drawOf l (st.2 + 1 + 1) 2) (draw_low _ _ _ (by omega)) (draw_high _ _ _ (by omega))
  rw [show ((([⟨#[116, 111, 107]⟩, ⟨#[108, 111, 110]⟩] : List ByteArray).length : Nat) : Int) = 2 from rfl]
  generalize ([⟨#[116, 111, 107]⟩, ⟨#[108, 111, 110]⟩] : List ByteArray).getD (drawOf l (st.2 + 1 + 1) 2).toNat ByteArray.empty = kc at hk ⊢
  have ho5 := (ho4.alloc (wpair ⟨#[116, 111, 107]⟩ ⟨#[108, 111, 110]⟩)).kept hg (.inr (own_ne ho4 (by have := HB2.out.size; omega)))
  have hB5 : Below w.heap.size w W5 := HB4.out.grown (grown_alloc_then hg) HB4.out.size (fun j e => by injection e with e; omega)
  have HKc := Lib.hid hk
  have HB5 := Lib.hid hB5
  clear hk hg hB5 hs4 ho4
  go_wp2_with fail
  have hnk := own_lks ho5
  obtain ⟨A5, c5, rfl, hL⟩ := hnk
  refine Calls.mono (linksFault_any A5 c5 st.1 W5 hL (by omega) (small_getD hsm)) ?_
  rintro _ W6 ⟨rfl, hb⟩
  have hL6 := (hL.below hb).more hb.size
  have hB6 : Below w.heap.size w W6 := HB5.out.trans (hb.mono HB5.out.size)
  have HB6 := Lib.hid hB6
  have HL6 := Lib.hid hL6
  clear hB6 hL6 hL hb HB2 HB3 HB4 HB5 ho5 hs5 FRA LON NYC SYD TOK hlt1
  by_cases hf : linksFault st.1 = 0
  · rw [hf]
    obtain ⟨ys, hys⟩ := nat_links hf
    generalize st.1 = xs at *
    subst hys
    have hss := small_getD hsm
    have hly : ys.length ≤ 500 := by simp at hn1; omega
    have hle := fault_le hf
    rw [List.length_map]
    have HSS := Lib.hid hss
    have HF := Lib.hid hf
    have HLE := Lib.hid hle
    clear hss hf hsm hn1 hle hn2 hn3
    go_wp2_with fail
    refine Calls.mono (throughX_any A5 c5 ys ka kb W6 HL6.out HF.out HKa.out.1 HKb.out.1 HKa.out.2 HKb.out.2 HSS.out) ?_
    rintro _ W7 ⟨hb, ⟨rfl, hno⟩ | ⟨v, ts, n, rfl, how, htr, hsh, hts⟩⟩
    · have hB7 : Below w.heap.size w W7 := HB6.out.trans (hb.mono HB6.out.size)
      have hB8 : Below w.heap.size w (W7.alloc (.cells #[.slice none 0 0] 32)) := hB7.alloc hB7.size _
      have hL8 := (((HL6.out.below hb).more hb.size).below ((Below.refl _ _).alloc (Nat.le_refl _) (.cells #[.slice none 0 0] 32))).more (show W7.heap.size ≤ (W7.alloc (.cells #[.slice none 0 0] 32)).heap.size by simp)
      have HB8 := Lib.hid hB8
      have HL8 := Lib.hid hL8
      have HNO := Lib.hid hno
      clear hb hno hB7 hB8 hL8 HL6 HB6
      go_wp2_with fail
      generalize hW : World.alloc _ _ = W8 at HB8 HL8 ⊢
      clear hW
      refine Calls.mono (throughX_any A5 c5 ys kb ka W8 HL8.out HF.out HKb.out.1 HKa.out.1 HKb.out.2 HKa.out.2 HSS.out) ?_
      rintro _ W9 ⟨hb, ⟨rfl, hno⟩ | ⟨v, ts, n, rfl, how, htr, hsh, hts⟩⟩
      rotate_left
      · obtain ⟨⟨k, hk⟩, _⟩ := hsh
        exact absurd hk.swap (HNO.out _ _)
      have HB9 := Lib.hid (HB8.out.trans (hb.mono HB8.out.size))
      have HL9 := Lib.hid ((HL8.out.below hb).more hb.size)
      clear hb hno HL8 HB8
      go_wp2_with fail
      refine Calls.mono (throughX_any A5 c5 ys ka kc W9 HL9.out HF.out HKa.out.1 HKc.out.1 HKa.out.2 HKc.out.2 HSS.out) ?_
      rintro _ W10 ⟨hb, hor⟩
      have HB10 := Lib.hid (HB9.out.trans (hb.mono HB9.out.size))
      have HL10 := Lib.hid ((HL9.out.below hb).more hb.size)
      clear hb HL9 HB9
      rcases hor with ⟨rfl, hno⟩ | ⟨v, ts, p, rfl, how, htr, hsh, hts⟩
      · clear hno
        go_wp2_with fail
        refine Calls.mono (throughX_any A5 c5 ys kc kb W10 HL10.out HF.out HKc.out.1 HKb.out.1 HKc.out.2 HKb.out.2 HSS.out) ?_
        rintro _ W11 ⟨hb, hor⟩
        have HB11 := Lib.hid (HB10.out.trans (hb.mono HB10.out.size))
        clear hb HL10 HB10
        rcases hor with ⟨rfl, hno⟩ | ⟨v, ts, p, rfl, how, htr, hsh, hts⟩
        all_goals
          first | clear hno | clear how htr hsh hts
          go_wp2_with fail
          refine Calls.mono (ready_true _) ?_
          rintro _ W12 ⟨rfl, hb⟩
          have HB12 := Lib.hid (HB11.out.trans (hb.mono HB11.out.size))
          clear hb
          go_wp2_with fail
          go_ret
          exact ⟨rfl, HB12.out⟩
      · obtain ⟨⟨k1, hk1⟩, _⟩ := hsh
        have HK1 := Lib.hid hk1
        clear how htr hts hk1
        go_wp2_with fail
        refine Calls.mono (throughX_any A5 c5 ys kc kb W10 HL10.out HF.out HKc.out.1 HKb.out.1 HKc.out.2 HKb.out.2 HSS.out) ?_
        rintro _ W11 ⟨hb, hor⟩
        have HB11 := Lib.hid (HB10.out.trans (hb.mono HB10.out.size))
        clear hb HL10 HB10
        rcases hor with ⟨rfl, hno⟩ | ⟨v, ts, p, rfl, how, htr, hsh, hts⟩
        · clear hno
          go_wp2_with fail
          refine Calls.mono (ready_true _) ?_
          rintro _ W12 ⟨rfl, hb⟩
          have HB12 := Lib.hid (HB11.out.trans (hb.mono HB11.out.size))
          clear hb
          go_wp2_with fail
          go_ret
          exact ⟨rfl, HB12.out⟩
        · obtain ⟨⟨k2, hk2⟩, _⟩ := hsh
          exact absurd (hk2.trans HK1.out) (HNO.out _ _)
    · have hbd := trail_bound HLE.out htr
      have htp := trail_parts htr
      obtain ⟨hl1, hta, htb, pre, p0, pn, pb, ps⟩ := htp
      obtain ⟨g, cv, rfl, hgl, hgc⟩ := trail_cell how hl1
      have hn : n ≤ 2000000000 := by
        have : ts.length * 1000000 ≤ 2000 * 1000000 := Nat.mul_le_mul_right _ hts
        omega
      have hB7 : Below w.heap.size w W7 := HB6.out.trans (hb.mono HB6.out.size)
      have hB : Below W7.heap.size W7 (W7.alloc (.cells #[.slice (some ⟨g, 0, none⟩) ts.length cv] 32)) := (Below.refl _ _).alloc (Nat.le_refl _) _
      have hB8 := hB7.trans (hB.mono hB7.size)
      have hL8 := (((HL6.out.below hb).more hb.size).below hB).more hB.size
      have hgc8 : ∀ i, i < ts.length → (W7.alloc (.cells #[.slice (some ⟨g, 0, none⟩) ts.length cv] 32)).cell? ⟨g, 0 + i, none⟩ = some (.string (ts.getD i ⟨#[]⟩)) := fun i hi => (hB.cell (p := ⟨g, 0 + i, none⟩) hgl).trans (hgc i hi)
      have hct : (W7.alloc (.cells #[.slice (some ⟨g, 0, none⟩) ts.length cv] 32)).cell? ⟨W7.heap.size, 0, none⟩ = some (.slice (some ⟨g, 0, none⟩) ts.length cv) := cell_of_one (heap_alloc_new W7 _)
      have hbt : W7.heap.size < (W7.alloc (.cells #[.slice (some ⟨g, 0, none⟩) ts.length cv] 32)).heap.size := by simp
      have hgl8 : g < (W7.alloc (.cells #[.slice (some ⟨g, 0, none⟩) ts.length cv] 32)).heap.size := Nat.lt_trans hgl hbt
      have HB8 := Lib.hid hB8
      have HL8 := Lib.hid hL8
      have HGC := Lib.hid hgc8
      have HCT := Lib.hid hct
      have HBT := Lib.hid hbt
      have HGL := Lib.hid hgl8
      have HTA := Lib.hid hta
      have HTB := Lib.hid htb
      have HPS := Lib.hid ps
      have HPB := Lib.hid pb
      have HP0 := Lib.hid p0
      have HPN := Lib.hid pn
      have HSH := Lib.hid hsh
      clear hb how htr hsh hgl hgc hB hB7 hB8 hL8 hgc8 hct hbt hgl8 hta htb ps pb p0 pn HL6 HB6 hbd
      go_wp2_with fail
      generalize hbtn : W7.heap.size = bt at HBT HCT ⊢
      generalize hW : World.alloc _ _ = W8 at HB8 HL8 HGC HCT HBT HGL ⊢
      clear hW hbtn
      refine Calls.mono (throughX_any A5 c5 ys kb ka W8 HL8.out HF.out HKb.out.1 HKa.out.1 HKb.out.2 HKa.out.2 HSS.out) ?_
      rintro _ W9 ⟨hb, ⟨rfl, hno⟩ | ⟨v, ts2, m, rfl, how, htr, hsh2, hts2⟩⟩
      · obtain ⟨⟨k, hk⟩, _⟩ := HSH.out
        exact absurd hk.swap (hno _ _)
      obtain rfl : n = m := Shortest.same HSH.out hsh2.swap
      have HB9 := Lib.hid (HB8.out.trans (hb.mono HB8.out.size))
      have HL9 := Lib.hid ((HL8.out.below hb).more hb.size)
      have HGC9 := Lib.hid (fun i hi => (hb.cell (p := ⟨g, 0 + i, none⟩) HGL.out).trans (HGC.out i hi))
      have HCT9 := Lib.hid ((hb.cell (p := ⟨bt, 0, none⟩) HBT.out).trans HCT.out)
      have HBT9 := Lib.hid (Nat.lt_of_lt_of_le HBT.out hb.size)
      have HGL9 := Lib.hid (Nat.lt_of_lt_of_le HGL.out hb.size)
      clear hb how htr hsh2 hts2 HB8 HL8 HGC HCT HBT HGL
      go_wp2_with fail
      refine Calls.mono (throughX_any A5 c5 ys ka kc W9 HL9.out HF.out HKa.out.1 HKc.out.1 HKa.out.2 HKc.out.2 HSS.out) ?_
      rintro _ W10 ⟨hb, hor⟩
      have HB10 := Lib.hid (HB9.out.trans (hb.mono HB9.out.size))
      have HL10 := Lib.hid ((HL9.out.below hb).more hb.size)
      have HGC10 := Lib.hid (fun i hi => (hb.cell (p := ⟨g, 0 + i, none⟩) HGL9.out).trans (HGC9.out i hi))
      have HCT10 := Lib.hid ((hb.cell (p := ⟨bt, 0, none⟩) HBT9.out).trans HCT9.out)
      have HBT10 := Lib.hid (Nat.lt_of_lt_of_le HBT9.out hb.size)
      have HGL10 := Lib.hid (Nat.lt_of_lt_of_le HGL9.out hb.size)
      clear hb HB9 HL9 HGC9 HCT9 HBT9 HGL9
      rcases hor with ⟨rfl, hno⟩ | ⟨v, ts2, p, rfl, how, htr, hsh2, hts2⟩
      · clear hno
        go_wp2_with fail
        refine Calls.mono (throughX_any A5 c5 ys kc kb W10 HL10.out HF.out HKc.out.1 HKb.out.1 HKc.out.2 HKb.out.2 HSS.out) ?_
        rintro _ W11 ⟨hb, hor⟩
        have HB11 := Lib.hid (HB10.out.trans (hb.mono HB10.out.size))
        have HL11 := Lib.hid ((HL10.out.below hb).more hb.size)
        have HGC11 := Lib.hid (fun i hi => (hb.cell (p := ⟨g, 0 + i, none⟩) HGL10.out).trans (HGC10.out i hi))
        have HCT11 := Lib.hid ((hb.cell (p := ⟨bt, 0, none⟩) HBT10.out).trans HCT10.out)
        have HBT11 := Lib.hid (Nat.lt_of_lt_of_le HBT10.out hb.size)
        have HGL11 := Lib.hid (Nat.lt_of_lt_of_le HGL10.out hb.size)
        clear hb HB10 HL10 HGC10 HCT10 HBT10 HGL10
        rcases hor with ⟨rfl, hno⟩ | ⟨v, ts2, p, rfl, how, htr, hsh2, hts2⟩
        · clear hno
          go_wp2_with fail
          go_loopw [20, 21] (fun sm p wr => TInv W11 pre ts.length sm p wr) (fun _ p wr => ts.length - cellInt p wr)
          case atStart => exact ⟨0, W11.heap.size, hl1, by rw [HP0.out]; rfl, rfl, heap_alloc_new W11 _, Nat.le_refl _, (Below.refl _ _).alloc (Nat.le_refl _) _⟩
          case round =>
            obtain ⟨j, bi, hj, rfl, rfl, hbi, hbl, hB⟩ := hrel
            have cbi := cell_of_one hbi
            have lbi := lt_of_block hbi
            have cbt : wr.cell? ⟨bt, 0, none⟩ = some (.slice (some ⟨g, 0, none⟩) ts.length cv) := (hB.cell (p := ⟨bt, 0, none⟩) HBT11.out).trans HCT11.out
            by_cases hlt : j + 1 < ts.length
            · obtain ⟨m, hstep, hpre⟩ := HPS.out j hlt
              obtain ⟨kk, hkk, hidx, hm⟩ := step_found HF.out hstep
              have hcap : Cap wr wr.heap.size bt bi (ts.getD j ⟨#[]⟩) (ts.getD (j + 1) ⟨#[]⟩) := {
                ex := ⟨g, 0, ts.length, cv, j, hlt, hts, cbt, cbi, (hB.cell (p := ⟨g, 0 + j, none⟩) HGL11.out).trans (HGC11.out j (by omega)), (hB.cell (p := ⟨g, 0 + (j + 1), none⟩) HGL11.out).trans (HGC11.out (j + 1) hlt), Nat.lt_of_lt_of_le HGL11.out hB.size⟩
                bt := Nat.lt_of_lt_of_le HBT11.out hB.size
                bi := lbi
                low := Nat.le_refl _ }
              have hcall := tidx_any A5 c5 (ys.map lkOf) bt bi wr.heap.size _ _ wr ((HL11.out.below hB).more hB.size) (by simpa using hly) hcap
              rw [List.length_map, hidx] at hcall
              have hpb := HPB.out (j + 1)
              have HPRE := Lib.hid hpre
              have hpj : pre j + m ≤ n := by rw [← hpre]; exact hpb
              have HBI := Lib.hid hbi
              have HM := Lib.hid hm
              clear hstep hidx hcap hpre hpb hbi hm
              have hd : decide ((j : Int) + 1 < (ts.length : Int)) = true := by simp; omega
              go_wp2_with fail
              refine hcall.mono ?_
              rintro e w1 ⟨rfl, hb1⟩
              have HB1 := Lib.hid hb1
              have hL1 := ((HL11.out.below hB).more hB.size).below hb1
              obtain ⟨g5, off5, hA5, hg5, _, _, hm5⟩ := hL1 kk (by simpa using hkk)
              rw [HM.out] at hm5
              have hbi1 := (hb1.block bi lbi).trans HBI.out
              have cbi1 := cell_of_one hbi1
              have HA5 := Lib.hid hA5
              have HB' := Lib.hid hB
              have hd2 : decide ((kk : Int) < (ys.length : Int)) = true := by simp; omega
              rw [hA5]
              clear hcall hb1 hL1 cbi cbt hbi1 hB hA5 HM lbi
              go_wp2_with fail
              generalize hW : World.alloc _ _ = W12
              have h12 : W12.heap[w1.heap.size]? = some (.cells #[.int .i64 ((j : Int) + 1 + 1)] 3 (0, 0)) := by rw [← hW]; exact heap_alloc_new w1 _
              have hB12 : Below W11.heap.size W11 W12 := by rw [← hW]; exact (HB'.out.trans (HB1.out.mono HB'.out.size)).alloc (Nat.le_trans HB'.out.size HB1.out.size) _
              clear hW
              rw [← HA5.out]
              go_roundw
              case rel => exact ⟨j + 1, w1.heap.size, hlt, by rw [HPRE.out]; go_num, rfl, by rw [h12]; go_num, Nat.le_trans HB'.out.size HB1.out.size, hB12⟩
              case measure =>
                rw [cellInt_at HBI.out, cellInt_at h12]
                omega
            · have hj' : j = ts.length - 1 := by omega
              subst hj'
              rw [HPN.out]
              have c0 := (hB.cell (p := ⟨g, 0 + 0, none⟩) HGL11.out).trans (HGC11.out 0 (by omega))
              have cl := (hB.cell (p := ⟨g, 0 + (ts.length - 1), none⟩) HGL11.out).trans (HGC11.out (ts.length - 1) (by omega))
              rw [List.getD_eq_getElem?_getD, HTA.out] at c0
              rw [List.getD_eq_getElem?_getD, HTB.out] at cl
              simp only [Option.getD_some, Nat.zero_add] at c0 cl
              have hd : decide (((ts.length - 1 : Nat) : Int) + 1 < (ts.length : Int)) = false := by simp; omega
              have hd3 : decide ((ts.length : Int) > 0) = true := by simp; omega
              have e1 : (ka.toList == ka.toList) = true := by simp
              have e2 : (kb.toList == kb.toList) = true := by simp
              have HB' := Lib.hid hB
              clear hB hbi
              go_wp2_with fail
              refine Calls.mono (ready_true _) ?_
              rintro _ W13 ⟨rfl, hb⟩
              have HB13 := Lib.hid ((HB11.out.trans (HB'.out.mono HB11.out.size)).trans (hb.mono (Nat.le_trans HB11.out.size HB'.out.size)))
              clear hb c0 cl cbi cbt
              go_wp2_with fail
              go_ret
              exact ⟨rfl, HB13.out⟩
        · clear how htr hsh2 hts2
          go_wp2_with fail
          go_loopw [20, 21] (fun sm p wr => TInv W11 pre ts.length sm p wr) (fun _ p wr => ts.length - cellInt p wr)
          case atStart => exact ⟨0, W11.heap.size, hl1, by rw [HP0.out]; rfl, rfl, heap_alloc_new W11 _, Nat.le_refl _, (Below.refl _ _).alloc (Nat.le_refl _) _⟩
          case round =>
            obtain ⟨j, bi, hj, rfl, rfl, hbi, hbl, hB⟩ := hrel
            have cbi := cell_of_one hbi
            have lbi := lt_of_block hbi
            have cbt : wr.cell? ⟨bt, 0, none⟩ = some (.slice (some ⟨g, 0, none⟩) ts.length cv) := (hB.cell (p := ⟨bt, 0, none⟩) HBT11.out).trans HCT11.out
            by_cases hlt : j + 1 < ts.length
            · obtain ⟨m, hstep, hpre⟩ := HPS.out j hlt
              obtain ⟨kk, hkk, hidx, hm⟩ := step_found HF.out hstep
              have hcap : Cap wr wr.heap.size bt bi (ts.getD j ⟨#[]⟩) (ts.getD (j + 1) ⟨#[]⟩) := {
                ex := ⟨g, 0, ts.length, cv, j, hlt, hts, cbt, cbi, (hB.cell (p := ⟨g, 0 + j, none⟩) HGL11.out).trans (HGC11.out j (by omega)), (hB.cell (p := ⟨g, 0 + (j + 1), none⟩) HGL11.out).trans (HGC11.out (j + 1) hlt), Nat.lt_of_lt_of_le HGL11.out hB.size⟩
                bt := Nat.lt_of_lt_of_le HBT11.out hB.size
                bi := lbi
                low := Nat.le_refl _ }
              have hcall := tidx_any A5 c5 (ys.map lkOf) bt bi wr.heap.size _ _ wr ((HL11.out.below hB).more hB.size) (by simpa using hly) hcap
              rw [List.length_map, hidx] at hcall
              have hpb := HPB.out (j + 1)
              have HPRE := Lib.hid hpre
              have hpj : pre j + m ≤ n := by rw [← hpre]; exact hpb
              have HBI := Lib.hid hbi
              have HM := Lib.hid hm
              clear hstep hidx hcap hpre hpb hbi hm
              have hd : decide ((j : Int) + 1 < (ts.length : Int)) = true := by simp; omega
              go_wp2_with fail
              refine hcall.mono ?_
              rintro e w1 ⟨rfl, hb1⟩
              have HB1 := Lib.hid hb1
              have hL1 := ((HL11.out.below hB).more hB.size).below hb1
              obtain ⟨g5, off5, hA5, hg5, _, _, hm5⟩ := hL1 kk (by simpa using hkk)
              rw [HM.out] at hm5
              have hbi1 := (hb1.block bi lbi).trans HBI.out
              have cbi1 := cell_of_one hbi1
              have HA5 := Lib.hid hA5
              have HB' := Lib.hid hB
              have hd2 : decide ((kk : Int) < (ys.length : Int)) = true := by simp; omega
              rw [hA5]
              clear hcall hb1 hL1 cbi cbt hbi1 hB hA5 HM lbi
              go_wp2_with fail
              generalize hW : World.alloc _ _ = W12
              have h12 : W12.heap[w1.heap.size]? = some (.cells #[.int .i64 ((j : Int) + 1 + 1)] 3 (0, 0)) := by rw [← hW]; exact heap_alloc_new w1 _
              have hB12 : Below W11.heap.size W11 W12 := by rw [← hW]; exact (HB'.out.trans (HB1.out.mono HB'.out.size)).alloc (Nat.le_trans HB'.out.size HB1.out.size) _
              clear hW
              rw [← HA5.out]
              go_roundw
              case rel => exact ⟨j + 1, w1.heap.size, hlt, by rw [HPRE.out]; go_num, rfl, by rw [h12]; go_num, Nat.le_trans HB'.out.size HB1.out.size, hB12⟩
              case measure =>
                rw [cellInt_at HBI.out, cellInt_at h12]
                omega
            · have hj' : j = ts.length - 1 := by omega
              subst hj'
              rw [HPN.out]
              have c0 := (hB.cell (p := ⟨g, 0 + 0, none⟩) HGL11.out).trans (HGC11.out 0 (by omega))
              have cl := (hB.cell (p := ⟨g, 0 + (ts.length - 1), none⟩) HGL11.out).trans (HGC11.out (ts.length - 1) (by omega))
              rw [List.getD_eq_getElem?_getD, HTA.out] at c0
              rw [List.getD_eq_getElem?_getD, HTB.out] at cl
              simp only [Option.getD_some, Nat.zero_add] at c0 cl
              have hd : decide (((ts.length - 1 : Nat) : Int) + 1 < (ts.length : Int)) = false := by simp; omega
              have hd3 : decide ((ts.length : Int) > 0) = true := by simp; omega
              have e1 : (ka.toList == ka.toList) = true := by simp
              have e2 : (kb.toList == kb.toList) = true := by simp
              have HB' := Lib.hid hB
              clear hB hbi
              go_wp2_with fail
              refine Calls.mono (ready_true _) ?_
              rintro _ W13 ⟨rfl, hb⟩
              have HB13 := Lib.hid ((HB11.out.trans (HB'.out.mono HB11.out.size)).trans (hb.mono (Nat.le_trans HB11.out.size HB'.out.size)))
              clear hb c0 cl cbi cbt
              go_wp2_with fail
              go_ret
              exact ⟨rfl, HB13.out⟩
      · have hbp := trail_bound HLE.out htr
        have hp : p ≤ 2000000000 := by
          have : ts2.length * 1000000 ≤ 2000 * 1000000 := Nat.mul_le_mul_right _ hts2
          omega
        have HSP := Lib.hid hsh2
        clear how htr hsh2 hts2 hbp
        go_wp2_with fail
        refine Calls.mono (throughX_any A5 c5 ys kc kb W10 HL10.out HF.out HKc.out.1 HKb.out.1 HKc.out.2 HKb.out.2 HSS.out) ?_
        rintro _ W11 ⟨hb, hor⟩
        have HB11 := Lib.hid (HB10.out.trans (hb.mono HB10.out.size))
        have HL11 := Lib.hid ((HL10.out.below hb).more hb.size)
        have HGC11 := Lib.hid (fun i hi => (hb.cell (p := ⟨g, 0 + i, none⟩) HGL10.out).trans (HGC10.out i hi))
        have HCT11 := Lib.hid ((hb.cell (p := ⟨bt, 0, none⟩) HBT10.out).trans HCT10.out)
        have HBT11 := Lib.hid (Nat.lt_of_lt_of_le HBT10.out hb.size)
        have HGL11 := Lib.hid (Nat.lt_of_lt_of_le HGL10.out hb.size)
        clear hb HB10 HL10 HGC10 HCT10 HBT10 HGL10
        rcases hor with ⟨rfl, hno⟩ | ⟨v3, ts3, q, rfl, how, htr, hsh2, hts2⟩
        · clear hno
          go_wp2_with fail
          go_loopw [20, 21] (fun sm p wr => TInv W11 pre ts.length sm p wr) (fun _ p wr => ts.length - cellInt p wr)
          case atStart => exact ⟨0, W11.heap.size, hl1, by rw [HP0.out]; rfl, rfl, heap_alloc_new W11 _, Nat.le_refl _, (Below.refl _ _).alloc (Nat.le_refl _) _⟩
          case round =>
            obtain ⟨j, bi, hj, rfl, rfl, hbi, hbl, hB⟩ := hrel
            have cbi := cell_of_one hbi
            have lbi := lt_of_block hbi
            have cbt : wr.cell? ⟨bt, 0, none⟩ = some (.slice (some ⟨g, 0, none⟩) ts.length cv) := (hB.cell (p := ⟨bt, 0, none⟩) HBT11.out).trans HCT11.out
            by_cases hlt : j + 1 < ts.length
            · obtain ⟨m, hstep, hpre⟩ := HPS.out j hlt
              obtain ⟨kk, hkk, hidx, hm⟩ := step_found HF.out hstep
              have hcap : Cap wr wr.heap.size bt bi (ts.getD j ⟨#[]⟩) (ts.getD (j + 1) ⟨#[]⟩) := {
                ex := ⟨g, 0, ts.length, cv, j, hlt, hts, cbt, cbi, (hB.cell (p := ⟨g, 0 + j, none⟩) HGL11.out).trans (HGC11.out j (by omega)), (hB.cell (p := ⟨g, 0 + (j + 1), none⟩) HGL11.out).trans (HGC11.out (j + 1) hlt), Nat.lt_of_lt_of_le HGL11.out hB.size⟩
                bt := Nat.lt_of_lt_of_le HBT11.out hB.size
                bi := lbi
                low := Nat.le_refl _ }
              have hcall := tidx_any A5 c5 (ys.map lkOf) bt bi wr.heap.size _ _ wr ((HL11.out.below hB).more hB.size) (by simpa using hly) hcap
              rw [List.length_map, hidx] at hcall
              have hpb := HPB.out (j + 1)
              have HPRE := Lib.hid hpre
              have hpj : pre j + m ≤ n := by rw [← hpre]; exact hpb
              have HBI := Lib.hid hbi
              have HM := Lib.hid hm
              clear hstep hidx hcap hpre hpb hbi hm
              have hd : decide ((j : Int) + 1 < (ts.length : Int)) = true := by simp; omega
              go_wp2_with fail
              refine hcall.mono ?_
              rintro e w1 ⟨rfl, hb1⟩
              have HB1 := Lib.hid hb1
              have hL1 := ((HL11.out.below hB).more hB.size).below hb1
              obtain ⟨g5, off5, hA5, hg5, _, _, hm5⟩ := hL1 kk (by simpa using hkk)
              rw [HM.out] at hm5
              have hbi1 := (hb1.block bi lbi).trans HBI.out
              have cbi1 := cell_of_one hbi1
              have HA5 := Lib.hid hA5
              have HB' := Lib.hid hB
              have hd2 : decide ((kk : Int) < (ys.length : Int)) = true := by simp; omega
              rw [hA5]
              clear hcall hb1 hL1 cbi cbt hbi1 hB hA5 HM lbi
              go_wp2_with fail
              generalize hW : World.alloc _ _ = W12
              have h12 : W12.heap[w1.heap.size]? = some (.cells #[.int .i64 ((j : Int) + 1 + 1)] 3 (0, 0)) := by rw [← hW]; exact heap_alloc_new w1 _
              have hB12 : Below W11.heap.size W11 W12 := by rw [← hW]; exact (HB'.out.trans (HB1.out.mono HB'.out.size)).alloc (Nat.le_trans HB'.out.size HB1.out.size) _
              clear hW
              rw [← HA5.out]
              go_roundw
              case rel => exact ⟨j + 1, w1.heap.size, hlt, by rw [HPRE.out]; go_num, rfl, by rw [h12]; go_num, Nat.le_trans HB'.out.size HB1.out.size, hB12⟩
              case measure =>
                rw [cellInt_at HBI.out, cellInt_at h12]
                omega
            · have hj' : j = ts.length - 1 := by omega
              subst hj'
              rw [HPN.out]
              have c0 := (hB.cell (p := ⟨g, 0 + 0, none⟩) HGL11.out).trans (HGC11.out 0 (by omega))
              have cl := (hB.cell (p := ⟨g, 0 + (ts.length - 1), none⟩) HGL11.out).trans (HGC11.out (ts.length - 1) (by omega))
              rw [List.getD_eq_getElem?_getD, HTA.out] at c0
              rw [List.getD_eq_getElem?_getD, HTB.out] at cl
              simp only [Option.getD_some, Nat.zero_add] at c0 cl
              have hd : decide (((ts.length - 1 : Nat) : Int) + 1 < (ts.length : Int)) = false := by simp; omega
              have hd3 : decide ((ts.length : Int) > 0) = true := by simp; omega
              have e1 : (ka.toList == ka.toList) = true := by simp
              have e2 : (kb.toList == kb.toList) = true := by simp
              have HB' := Lib.hid hB
              clear hB hbi
              go_wp2_with fail
              refine Calls.mono (ready_true _) ?_
              rintro _ W13 ⟨rfl, hb⟩
              have HB13 := Lib.hid ((HB11.out.trans (HB'.out.mono HB11.out.size)).trans (hb.mono (Nat.le_trans HB11.out.size HB'.out.size)))
              clear hb c0 cl cbi cbt
              go_wp2_with fail
              go_ret
              exact ⟨rfl, HB13.out⟩
        · have hbq := trail_bound HLE.out htr
          have hq : q ≤ 2000000000 := by
            have : ts3.length * 1000000 ≤ 2000 * 1000000 := Nat.mul_le_mul_right _ hts2
            omega
          have htri := Shortest.triangle HSH.out hsh2 HSP.out
          have hgt : decide ((n : Int) > (p : Int) + (q : Int)) = false := by simp; omega
          clear how htr hsh2 hts2 hbq
          go_wp2_with fail
          go_loopw [20, 21] (fun sm p wr => TInv W11 pre ts.length sm p wr) (fun _ p wr => ts.length - cellInt p wr)
          case atStart => exact ⟨0, W11.heap.size, hl1, by rw [HP0.out]; rfl, rfl, heap_alloc_new W11 _, Nat.le_refl _, (Below.refl _ _).alloc (Nat.le_refl _) _⟩
          case round =>
            obtain ⟨j, bi, hj, rfl, rfl, hbi, hbl, hB⟩ := hrel
            have cbi := cell_of_one hbi
            have lbi := lt_of_block hbi
            have cbt : wr.cell? ⟨bt, 0, none⟩ = some (.slice (some ⟨g, 0, none⟩) ts.length cv) := (hB.cell (p := ⟨bt, 0, none⟩) HBT11.out).trans HCT11.out
            by_cases hlt : j + 1 < ts.length
            · obtain ⟨m, hstep, hpre⟩ := HPS.out j hlt
              obtain ⟨kk, hkk, hidx, hm⟩ := step_found HF.out hstep
              have hcap : Cap wr wr.heap.size bt bi (ts.getD j ⟨#[]⟩) (ts.getD (j + 1) ⟨#[]⟩) := {
                ex := ⟨g, 0, ts.length, cv, j, hlt, hts, cbt, cbi, (hB.cell (p := ⟨g, 0 + j, none⟩) HGL11.out).trans (HGC11.out j (by omega)), (hB.cell (p := ⟨g, 0 + (j + 1), none⟩) HGL11.out).trans (HGC11.out (j + 1) hlt), Nat.lt_of_lt_of_le HGL11.out hB.size⟩
                bt := Nat.lt_of_lt_of_le HBT11.out hB.size
                bi := lbi
                low := Nat.le_refl _ }
              have hcall := tidx_any A5 c5 (ys.map lkOf) bt bi wr.heap.size _ _ wr ((HL11.out.below hB).more hB.size) (by simpa using hly) hcap
              rw [List.length_map, hidx] at hcall
              have hpb := HPB.out (j + 1)
              have HPRE := Lib.hid hpre
              have hpj : pre j + m ≤ n := by rw [← hpre]; exact hpb
              have HBI := Lib.hid hbi
              have HM := Lib.hid hm
              clear hstep hidx hcap hpre hpb hbi hm
              have hd : decide ((j : Int) + 1 < (ts.length : Int)) = true := by simp; omega
              go_wp2_with fail
              refine hcall.mono ?_
              rintro e w1 ⟨rfl, hb1⟩
              have HB1 := Lib.hid hb1
              have hL1 := ((HL11.out.below hB).more hB.size).below hb1
              obtain ⟨g5, off5, hA5, hg5, _, _, hm5⟩ := hL1 kk (by simpa using hkk)
              rw [HM.out] at hm5
              have hbi1 := (hb1.block bi lbi).trans HBI.out
              have cbi1 := cell_of_one hbi1
              have HA5 := Lib.hid hA5
              have HB' := Lib.hid hB
              have hd2 : decide ((kk : Int) < (ys.length : Int)) = true := by simp; omega
              rw [hA5]
              clear hcall hb1 hL1 cbi cbt hbi1 hB hA5 HM lbi
              go_wp2_with fail
              generalize hW : World.alloc _ _ = W12
              have h12 : W12.heap[w1.heap.size]? = some (.cells #[.int .i64 ((j : Int) + 1 + 1)] 3 (0, 0)) := by rw [← hW]; exact heap_alloc_new w1 _
              have hB12 : Below W11.heap.size W11 W12 := by rw [← hW]; exact (HB'.out.trans (HB1.out.mono HB'.out.size)).alloc (Nat.le_trans HB'.out.size HB1.out.size) _
              clear hW
              rw [← HA5.out]
              go_roundw
              case rel => exact ⟨j + 1, w1.heap.size, hlt, by rw [HPRE.out]; go_num, rfl, by rw [h12]; go_num, Nat.le_trans HB'.out.size HB1.out.size, hB12⟩
              case measure =>
                rw [cellInt_at HBI.out, cellInt_at h12]
                omega
            · have hj' : j = ts.length - 1 := by omega
              subst hj'
              rw [HPN.out]
              have c0 := (hB.cell (p := ⟨g, 0 + 0, none⟩) HGL11.out).trans (HGC11.out 0 (by omega))
              have cl := (hB.cell (p := ⟨g, 0 + (ts.length - 1), none⟩) HGL11.out).trans (HGC11.out (ts.length - 1) (by omega))
              rw [List.getD_eq_getElem?_getD, HTA.out] at c0
              rw [List.getD_eq_getElem?_getD, HTB.out] at cl
              simp only [Option.getD_some, Nat.zero_add] at c0 cl
              have hd : decide (((ts.length - 1 : Nat) : Int) + 1 < (ts.length : Int)) = false := by simp; omega
              have hd3 : decide ((ts.length : Int) > 0) = true := by simp; omega
              have e1 : (ka.toList == ka.toList) = true := by simp
              have e2 : (kb.toList == kb.toList) = true := by simp
              have HB' := Lib.hid hB
              clear hB hbi
              go_wp2_with fail
              refine Calls.mono (ready_true _) ?_
              rintro _ W13 ⟨rfl, hb⟩
              have HB13 := Lib.hid ((HB11.out.trans (HB'.out.mono HB11.out.size)).trans (hb.mono (Nat.le_trans HB11.out.size HB'.out.size)))
              clear hb c0 cl cbi cbt
              go_wp2_with fail
              go_ret
              exact ⟨rfl, HB13.out⟩
  · have hf1 : (linksFault st.1 == 0) = false := by simpa using hf
    have hf2 : (linksFault st.1 != 0) = true := by simpa using hf
    clear hf
    go_wp2_with fail
    refine Calls.mono (ready_true _) ?_
    rintro _ W7 ⟨rfl, hb⟩
    have hB7 : Below w.heap.size w W7 := HB6.out.trans (hb.mono HB6.out.size)
    have HB7 := Lib.hid hB7
    clear hb hB7
    go_wp2_with fail
    go_ret
    exact ⟨rfl, HB7.out⟩
end Go.Proofs.YtgmejjemepffkaaGreatDoor
