/- Stream.RightTable: the walk. Tables: from the program's entries to numbers. -/
import Derived.Test.YtpbcbgoenoolfaaGreatDoorTbF
namespace Go.Proofs.YtpbcbgoenoolfaaGreatDoor
open Go.RowKit Go.Hw
def abcS : List ByteArray := [⟨#[97]⟩, ⟨#[97]⟩, ⟨#[98]⟩, ⟨#[99]⟩]
theorem abc_key {s : ByteArray} (h : s ∈ abcS) : isKey s = true := by
  unfold abcS at h
  simp only [List.mem_cons, List.not_mem_nil, or_false] at h
  rcases h with rfl | rfl | rfl | rfl <;> decide
/-- A right table in memory. -/
def TblX (w : World) (b : Nat) (A : Option Addr) (cap : Nat) (l : List Int) (at_ : Int) (e : Ending) (w' : World) : Prop :=
  ∃ A' cap' L x, e = .returned (.slice A' (L : List En).length cap') ∧ enAt w' A' L ∧ (∀ a, A' = some a → w.heap.size ≤ a.block) ∧ (TblOk L ∧ L.length ≤ 7) ∧ StrX w w' b A cap l at_ 100 x
/-- The loop. -/
def RtI (w : World) (b : Nat) (A : Option Addr) (cap : Nat) (l : List Int) (at_ : Int) (k : Nat) (v : Value) (wr : World) : Prop :=
  ∃ (L : List En) (x : Int), L.length = k ∧ (∀ e ∈ L, PfRight e.six e.hi e.lo e.bits ∧ isKey e.tgt = true) ∧ enOwn wr w.heap.size v L ∧ (at_ + 1 ≤ x ∧ x ≤ at_ + 1 + 11 * k) ∧ Str wr b A cap l x ∧ w.grownBy wr (some b)
theorem own_keepS {w w' : World} {base b : Nat} {e : TypeId} {size : Nat} {v : Value} {n : Nat} {xs : List Value} (h : w.ownsRow base e size v n xs) (hg : w.grownBy w' (some b)) (hb : b < base) : w'.ownsRow base e size v n xs :=
  rw_same h fun k hk => hg.block k (h.lt k hk).2 (fun e => by have := (h.lt k hk).1; injection e with e; omega)
theorem rtCompact (A : Option Addr) (cap : Nat) (L : List En) (w : World) (h : enOwn w 0 (.slice A L.length cap) L) (hl : L.length ≤ 7) :
    Calls Tryz.prog 17 #[.slice A L.length cap, .func (.func 18) #[] #[]] w
      fun e w' => ∃ L', L' = dedT pfB noEn L L.length ∧ e = .returned (.slice A L'.length cap) ∧ enOwn w' 0 (.slice A L'.length cap) L' ∧ w.grownBy w' (Value.slice A L.length cap).ownBlock := by
  rcases id h.2 with ⟨h1, h2⟩ | ⟨g, cap2, cur2, e1, _⟩
  · injection h1 with h1 _ h3
    subst h1 h3
    have hl0 : L = [] := List.length_eq_zero_iff.1 h2
    subst hl0
    have HH := Lib.hid h
    clear h
    go_enter Tryz.func17, Tryz.ntmps17
    go_wp2_with fail
    go_ret
    exact ⟨[], rfl, rfl, HH.out, World.grownBy.refl _ _⟩
  · injection e1 with e1 _ e3
    subst e1
    have eg : ∀ args w, (callFunc 18 args).run Tryz.prog w = .ok (.enter 18 args) w := enters_of Tryz.func18 (by kernel_rfl) rfl
    refine (en_compact g cap L 18 #[] pfB w eg h (by omega) (fun wr _ W x y _ _ _ => tblSame_any x y W)).mono ?_
    rintro e w' ⟨L', hL, rfl, hso⟩
    exact ⟨L', hL, rfl, hso.2, hso.1⟩
set_option maxRecDepth 100000 in
set_option maxHeartbeats 4000000 in
theorem rightTable_any (b : Nat) (A : Option Addr) (cap : Nat) (l : List Int) (at_ : Int) (w : World) (h : Str w b A cap l at_) (hh : at_ < 1099511620000) :
    Calls Tryz.prog 4 #[.pointer (some ⟨b, 0, none⟩)] w (TblX w b A cap l at_) := by
  have hbl := h.lt
  have HS := Lib.hid h
  have hrg := range_any b A cap l at_ 0 7 w h (by omega) (by omega) (by omega) (by omega) (by omega)
  have d1 := draw_low l at_ 8 (by omega)
  have d2 := draw_high l at_ 8 (by omega)
  rw [show (0 : Int) + drawOf l at_ (7 - 0 + 1) = drawOf l at_ 8 from by rw [Int.zero_add]; rfl] at hrg
  obtain ⟨n, hn⟩ : ∃ n : Nat, drawOf l at_ 8 = n := ⟨(drawOf l at_ 8).toNat, by omega⟩
  rw [hn] at hrg d1 d2
  have hlow := h.low
  obtain ⟨i0, hi0, hz0, hz1, hz2⟩ := info_parts en_info
  clear hn h d1
  go_enter Tryz.func4, Tryz.ntmps4
  go_wp2_with fail
  refine hrg.mono ?_
  rintro e w1 ⟨rfl, hs1, hg1⟩
  have HI : Hid (RtI w b A cap l at_ 0 (.slice none 0 0) w1) := Lib.hid ⟨[], at_ + 1, rfl, (by intro e he; cases he), ⟨rfl, .inl ⟨rfl, rfl⟩⟩, ⟨by omega, by omega⟩, hs1, hg1⟩
  clear hrg hs1 hg1
  go_wp2_with fail
  go_loopw [3, 6] (fun v3 v6 wr => ∃ k : Nat, k ≤ n ∧ v6 = .int .i64 k ∧ RtI w b A cap l at_ k v3 wr) (fun _ v6 _ => n - (intOf v6).toNat)
  case atStart => exact ⟨0, Nat.zero_le _, rfl, HI.out⟩
  case round =>
    obtain ⟨k, hk, rfl, L, x, hLk, hR, hO, hx, hs, hg⟩ := hrel
    have HR := Lib.hid hR
    have HO := Lib.hid hO
    have HG := Lib.hid hg
    have HSx := Lib.hid hs
    have HX := Lib.hid hx
    have hbr := hs.lt
    have hwr := hg.size
    have HLK := Lib.hid hLk
    have hL7 : L.length ≤ 7 := by omega
    clear hR hO hg hs hx HI hLk
    by_cases hlt : k < n
    · have hd : decide ((k : Int) < (n : Int)) = true := by simp; omega
      go_wp2_with fail
      refine (rightPrefix_det b A cap l x wr HSx.out (by have := HX.out; omega)).mono ?_
      rintro e w2 ⟨six, hi, lo, bits_, y, ⟨-, hpr⟩, rfl, hxy, hs2, hg2⟩
      have HO2 := Lib.hid (own_keepS HO.out hg2 hbl)
      have HG2 := Lib.hid (HG.out.andThen hg2 (fun _ h => .inr h))
      have HPR := Lib.hid hpr
      have hw2 := hg2.size
      have HXY := Lib.hid hxy
      have hyb : y < 1099511627776 := by have := HX.out; omega
      have hsm := fun n' => some_any b A cap l y (w2.alloc (.cells #[.string ⟨#[97]⟩, .string ⟨#[97]⟩, .string ⟨#[98]⟩, .string ⟨#[99]⟩] 9 (0, 0))) (hs2.alloc _) hyb n' abcS
      have hsm2 := hsm w2.heap.size (heap_alloc_new w2 _) (by omega) (by decide) (by decide) 4 4 rfl
      have HSM := Lib.hid hsm2
      have e1 := draw_low l y 4 (by omega)
      have e2 := draw_high l y 4 (by omega)
      have hkey : isKey (abcS.getD (drawOf l y 4).toNat ByteArray.empty) = true := abc_key (rw_mem (by show _ < 4; omega))
      rw [show ((abcS.length : Nat) : Int) = 4 from rfl] at HSM
      generalize abcS.getD (drawOf l y 4).toNat ByteArray.empty = tg at *
      have HKEY := Lib.hid hkey
      have HG3 := Lib.hid (HG2.out.andThen (grownB ((Below.refl _ _).alloc (Nat.le_refl _) (.cells #[.string ⟨#[97]⟩, .string ⟨#[97]⟩, .string ⟨#[98]⟩, .string ⟨#[99]⟩] 9 (0, 0))) none) (fun _ h => by simp at h))
      have HO3 := Lib.hid (World.ownsRow.alloc HO2.out (.cells #[.string ⟨#[97]⟩, .string ⟨#[97]⟩, .string ⟨#[98]⟩, .string ⟨#[99]⟩] 9 (0, 0)))
      clear hsm hsm2 hg2 hs2 hpr hxy hkey e1 e2
      go_wp2_with fail
      generalize World.alloc w2 _ = W3 at *
      refine HSM.out.mono ?_
      rintro e w4 ⟨rfl, hs4, hg4⟩
      have HO4 := Lib.hid (own_keepS HO3.out hg4 hbl)
      have hw4 := hg4.size
      have HG4 := Lib.hid (HG3.out.andThen hg4 (fun _ h => .inr h))
      have HS4 := Lib.hid hs4
      have hw24 := HG4.out.size
      clear hg4 hs4 HO3 HO2 HG3
      have HEA := Lib.hid (World.ownsRow.alloc HO4.out (.cells #[.bool six, .int .u64 hi, .int .u64 lo, .int .i64 bits_, .string tg] 43 (0, 0)))
      go_wp2_with (at_builtin; refine wpList_append_own _ rfl (.tmp 8) (.tmp 15) 26 rfl w.heap.size 43 i0 (.agg #[.bool false, .int .u64 0, .int .u64 0, .int .i64 0, .string ⟨#[]⟩]) 5 48 Tryz.underlying26 hi0 hz0 hz1 hz2 rfl (by decide) _ _ _ rfl HEA.out ⟨w4.heap.size, 0, none⟩ 1 1 (enC ⟨six, hi, lo, bits_, tg⟩) rfl rfl (cells_new w4 (enC ⟨six, hi, lo, bits_, tg⟩) _) (enC_one _) (by unfold maxLen; first | omega | (simp; omega)) (by first | omega | (simp; omega)) (by first | omega | (simp; omega) | simp) ?_)
      intro v5 w5 ho5 hg5 _
      have HO5 : Hid (enOwn w5 w.heap.size v5 (L ++ [⟨six, hi, lo, bits_, tg⟩])) := Lib.hid (own_asT ho5 (by simp) (by simp [rwC]))
      have hlt5 := HEA.out.lt
      have HG5 : Hid (w.grownBy w5 (some b)) := Lib.hid ((HG4.out.andThen (grownB ((Below.refl _ _).alloc (Nat.le_refl _) _) none) (fun _ h => by simp at h)).andThen hg5 (fun j hj => .inl (hlt5 j hj).1))
      have HS5 : Hid (Str w5 b A cap l (y + 1)) := Lib.hid ((HS4.out.alloc _).grown hg5 (fun j hj => by have := (hlt5 j hj).1; omega))
      clear ho5 hg5 hlt5 HEA HO4 HG4 HS4
      go_wp2_with fail
      go_roundw
      case rel => exact ⟨k + 1, by omega, by simp, L ++ [⟨six, hi, lo, bits_, tg⟩], y + 1, by simp [HLK.out], (by
        intro e he
        rcases List.mem_append.1 he with h | h
        · exact HR.out e h
        · simp only [List.mem_cons, List.not_mem_nil, or_false] at h
          rw [h]
          exact ⟨HPR.out, HKEY.out⟩), HO5.out, (by have := HX.out; have := HXY.out; push_cast; omega), HS5.out, HG5.out⟩
      case measure => simp [intOf]; omega
    · have hkn : k = n := by omega
      subst hkn
      obtain ⟨A5, cap5, rfl, hA5⟩ := rw_at (d := noEn) enC_len HO.out
      have ho0 : enOwn wr 0 (.slice A5 L.length cap5) L := by
        obtain ⟨q1, q2⟩ := HO.out
        refine ⟨q1, ?_⟩
        rcases q2 with h | ⟨g, cap, cur, e1, e2, e3⟩
        · exact .inl h
        · exact .inr ⟨g, cap, cur, e1, Nat.zero_le _, e3⟩
      have hblk : ∀ a, A5 = some a → w.heap.size ≤ a.block := fun a ha => (HO.out.lt a.block (by rw [ha]; rfl)).1
      have eg : ∀ args w, (callFunc 15 args).run Tryz.prog w = .ok (.enter 15 args) w := enters_of Tryz.func15 (by kernel_rfl) rfl
      have hst := en_sortStable A5 cap5 L 15 #[] ordE wr eg ho0 (by omega) (fun wq _ W x y hx hy _ => tblCmp_any x y W (HR.out x hx).1 (HR.out y hy).1)
      have HST := Lib.hid hst
      have HBK := Lib.hid hblk
      clear hst ho0 hblk hA5
      go_wp2_with fail
      refine HST.out.mono ?_
      rintro e w2 ⟨rfl, hso⟩
      have hlen := isortL_length (enLt ordE) L
      have ho2 := hso.2
      rw [hlen] at ho2
      have HO2 : Hid (enOwn w2 0 (.slice A5 (isortL (enLt ordE) L).length cap5) (isortL (enLt ordE) L)) := Lib.hid hso.2
      have hcf := rtCompact A5 cap5 (isortL (enLt ordE) L) w2 HO2.out (by omega)
      rw [hlen] at hcf
      have HCF := Lib.hid hcf
      have HG1 : Hid (wr.grownBy w2 (Value.slice A5 L.length cap5).ownBlock) := Lib.hid (by have := hso.1; rwa [hlen] at this)
      clear hso ho2 hcf
      go_wp2_with fail
      refine HCF.out.mono ?_
      rintro e w3 ⟨L', hL', rfl, ho3, hg3⟩
      have hrow : ∀ j, (Value.slice A5 L.length cap5).ownBlock = some j → w.heap.size ≤ j := by
        intro j hj
        rcases A5 with _ | a
        · simp [Value.ownBlock] at hj
        · simp only [Value.ownBlock, Option.some.injEq] at hj
          rw [← hj]
          exact HBK.out a rfl
      have hTE : L' = tblE L := by rw [hL']; unfold tblE; rw [hlen]
      obtain ⟨hok, hl7⟩ := tblE_ok hL7 HR.out
      have HFIN : Hid (TblX w b A cap l at_ (.returned (.slice A5 L'.length cap5)) w3) := Lib.hid ⟨A5, cap5, L', x, rfl, rw_at' enC_len ho3, HBK.out, by rw [hTE]; exact ⟨hok, hl7⟩, strX_mk ((HSx.out.grown HG1.out (fun j hj => by have := hrow j hj; omega)).grown hg3 (fun j hj => by have := hrow j hj; omega)) ((HG.out.andThen HG1.out (fun j hj => .inl (hrow j hj))).andThen hg3 (fun j hj => .inl (hrow j hj))) (by have := HX.out; omega) (by have := HX.out; omega)⟩
      clear ho3 hg3 hrow hL' hTE
      go_wp2_with fail
      go_ret
      exact HFIN.out
end Go.Proofs.YtpbcbgoenoolfaaGreatDoor

namespace Go.Proofs.YtpbcbgoenoolfaaGreatDoor
open Go.RowKit Go.Hw
def teOf (e : En) : Te := ⟨pxOf e.six e.hi e.lo e.bits, e.bits.toNat, e.tgt.toList⟩
theorem pfLt_trans {x y z : En} (h : pfLt x y) (h2 : pfLt y z) : pfLt x z := by
  obtain ⟨s, h, l, b, t⟩ := x
  obtain ⟨s', h', l', b', t'⟩ := y
  obtain ⟨s'', h'', l'', b'', t''⟩ := z
  unfold pfLt at *
  dsimp only at *
  cases s <;> cases s' <;> cases s'' <;> simp_all <;> omega
theorem TblOk.pair {L : List En} (h : TblOk L) : L.Pairwise pfLt := by
  rw [List.pairwise_iff_getElem]
  intro i j hi hj hij
  obtain ⟨d, rfl⟩ : ∃ d, j = i + d + 1 := ⟨j - i - 1, by omega⟩
  clear hij
  have hst : ∀ k (hk : k + 1 < L.length), pfLt (L[k]'(by omega)) (L[k + 1]'hk) := fun k hk => by
    have := h.ord k hk
    rw [pfE_lt, List.getD_eq_getElem?_getD, List.getD_eq_getElem?_getD, List.getElem?_eq_getElem hk, List.getElem?_eq_getElem (show k < _ by omega)] at this
    exact this
  induction d with
  | zero => exact hst i hj
  | succ d ih => exact pfLt_trans (ih (by omega) hst) (hst (i + d + 1) hj)
theorem TblOk.sub {L M : List En} (h : TblOk L) (hs : M.Sublist L) : TblOk M := by
  have hp := h.pair.sublist hs
  refine ⟨fun e he => h.right e (hs.subset he), fun e he => h.key e (hs.subset he), fun i hi => ?_, Nat.le_trans hs.length_le h.len⟩
  have := List.pairwise_iff_getElem.1 hp i (i + 1) (by omega) hi (by omega)
  rw [pfE_lt, List.getD_eq_getElem?_getD, List.getD_eq_getElem?_getD, List.getElem?_eq_getElem hi, List.getElem?_eq_getElem (show i < _ by omega)]
  exact this
theorem squE_ok {L : List En} (h : TblOk L) : TblOk (squE L) := h.sub List.filter_sublist
theorem right_bits {s : Bool} {h l b : Int} (H : PfRight s h l b) : 0 ≤ b ∧ b ≤ lenA s := by
  obtain ⟨_, h0, m, hm, _⟩ := H
  exact ⟨h0, by omega⟩
theorem teOf_ok {L : List En} (h : TblOk L) : TbOk (L.map teOf) := by
  refine ⟨fun x hx => ?_, fun x hx y hy hs => ?_, fun x hx => ?_, fun x hx y hy hp => ?_⟩
  · obtain ⟨e, he, rfl⟩ := List.mem_map.1 hx
    exact right_al (h.right e he)
  · obtain ⟨e, he, rfl⟩ := List.mem_map.1 hx
    obtain ⟨f, hf, rfl⟩ := List.mem_map.1 hy
    have h1 := right_bits (h.right e he)
    have h2 := right_bits (h.right f hf)
    unfold teOf pxOf at *
    dsimp only at *
    rw [hs] at *
    omega
  · obtain ⟨e, he, rfl⟩ := List.mem_map.1 hx
    have hk := (key_short (h.key e he)).2
    intro hn
    have := size_of_nil hn
    omega
  · obtain ⟨e, he, rfl⟩ := List.mem_map.1 hx
    obtain ⟨f, hf, rfl⟩ := List.mem_map.1 hy
    have h1 := right_bits (h.right e he)
    have h2 := right_bits (h.right f hf)
    have g1 := (h.right e he).1
    have g2 := (h.right f hf).1
    unfold teOf pxOf at hp
    dsimp only at hp
    injection hp with p1 p2 p3
    obtain ⟨q1, q2⟩ := nOf_inj g1.1 g1.2.1 g2.1 g2.2.1 p2
    rw [p1] at p3 h1
    have q3 : e.bits = f.bits := by omega
    obtain ⟨i, hi, rfl⟩ := List.getElem_of_mem he
    obtain ⟨j, hj, rfl⟩ := List.getElem_of_mem hf
    have hne : ∀ x y : En, x.six = y.six → x.hi = y.hi → x.lo = y.lo → x.bits = y.bits → ¬ pfLt x y := by
      intro x y a1 a2 a3 a4 hh
      unfold pfLt at hh
      rw [a1] at hh
      rcases hh with ⟨b1, b2⟩ | ⟨_, hh⟩
      · rw [b1] at b2; cases b2
      · omega
    rcases Nat.lt_trichotomy i j with hij | hij | hij
    · exact absurd (List.pairwise_iff_getElem.1 h.pair i j hi hj hij) (hne _ _ p1 q1 q2 q3)
    · subst hij; rfl
    · exact absurd (List.pairwise_iff_getElem.1 h.pair j i hj hi hij) (hne _ _ p1.symm q1.symm q2.symm q3.symm)
theorem bestF_map {α β : Type} {f : α → β} {b1 : α → Int} {b2 : β → Int} {P1 : α → Bool} {P2 : β → Bool} : ∀ (L : List α) (acc : Option α), (∀ x ∈ L, b2 (f x) = b1 x ∧ P2 (f x) = P1 x) → (∀ x, acc = some x → b2 (f x) = b1 x) → bestF b2 P2 (acc.map f) (L.map f) = (bestF b1 P1 acc L).map f
  | [], _, _, _ => rfl
  | x :: L, acc, h, ha => by
    obtain ⟨e1, e2⟩ := h x (by simp)
    have hm : mostF b2 (acc.map f) = mostF b1 acc := by
      cases acc with
      | none => rfl
      | some y => exact ha y rfl
    rw [List.map_cons, bestF, bestF, e1, e2, hm]
    have he : (if P1 x && decide (mostF b1 acc < b1 x) then some (f x) else acc.map f) = (if P1 x && decide (mostF b1 acc < b1 x) then some x else acc).map f := by split <;> rfl
    rw [he]
    refine bestF_map L _ (fun y hy => h y (by simp [hy])) (fun y hy => ?_)
    split at hy
    · injection hy with hy; rw [← hy]; exact e1
    · exact ha y hy
theorem toF_map (o : Option En) : toF (o.map teOf) = (toE o).toList := by
  cases o with
  | none => exact (toList_nil rfl).symm
  | some e => rfl
theorem te_bits {L : List En} (h : TblOk L) {e : En} (he : e ∈ L) : Te.b (teOf e) = e.bits := by
  have := (right_bits (h.right e he)).1
  show ((e.bits.toNat : Nat) : Int) = e.bits
  omega
theorem te_has {L : List En} (h : TblOk L) {e : En} (he : e ∈ L) {s : Bool} {hi lo : Int} (uh : U64 hi) (ul : U64 lo) : (teOf e).hasB s (nOf hi lo) = hasE s hi lo e := by
  rw [Bool.eq_iff_iff, Te.hasB_iff]
  exact (cont_has (h.right e he) uh ul).symm
/-- What a table says, by numbers. -/
theorem look_te {L : List En} (h : TblOk L) (x : Ad) (uh : U64 x.hi) (ul : U64 x.lo) : lookF (L.map teOf) x.six (nOf x.hi x.lo) = (atE L x).toList := by
  unfold lookF atE bestE
  rw [← toF_map, ← bestF_map (f := teOf) (b1 := En.bits) (b2 := Te.b) (P1 := hasE x.six x.hi x.lo) (P2 := Te.hasB x.six (nOf x.hi x.lo)) L none (fun e he => ⟨te_bits h he, te_has h he uh ul⟩) (fun e he => by cases he)]
  rfl
theorem kept_te {L : List En} (h : TblOk L) {x : En} (hx : x ∈ L) : keptB (L.map teOf) (teOf x) = keptE L x := by
  have hr := (h.right x hx).1
  unfold keptB keptE overF bestE
  rw [← toF_map, ← bestF_map (f := teOf) (b1 := En.bits) (b2 := Te.b) (P1 := upE x) (P2 := fun y => decide (y.bits < (teOf x).bits) && y.hasB (teOf x).p.six (teOf x).p.f) L none (fun e he => ⟨te_bits h he, by
    have h1 := te_has h he (s := x.six) hr.1 hr.2.1
    have b1 := (right_bits (h.right e he)).1
    have b2 := (right_bits (h.right x hx)).1
    have hd : decide ((teOf e).bits < (teOf x).bits) = decide (e.bits < x.bits) := by
      rw [decide_eq_decide]
      show e.bits.toNat < x.bits.toNat ↔ _
      omega
    show (decide ((teOf e).bits < (teOf x).bits) && (teOf e).hasB x.six (nOf x.hi x.lo)) = _
    rw [h1, hd]
    rfl⟩) (fun e he => by cases he)]
  rfl
theorem squ_te {L : List En} (h : TblOk L) : squF (L.map teOf) = (squE L).map teOf := by
  unfold squF squE
  rw [List.filter_map]
  congr 1
  exact List.filter_congr (fun x hx => kept_te h hx)
/-- Squeeze changes nothing. -/
theorem squE_look {L : List En} (h : TblOk L) (x : Ad) (hx : AddrFine x.six x.hi x.lo) : (atE (squE L) x).toList = (atE L x).toList := by
  rw [← look_te h x hx.1 hx.2.1, ← look_te (squE_ok h) x hx.1 hx.2.1, ← squ_te h]
  exact look_squ (teOf_ok h) _ _
/-- It is its own Squeeze. -/
theorem squE_again {L : List En} (h : TblOk L) : squE (squE L) = squE L := by
  have h1 := squ_again (teOf_ok h)
  rw [squ_te h, squ_te (squE_ok h)] at h1
  have h2 := congrArg List.length h1
  rw [List.length_map, List.length_map] at h2
  exact (List.filter_sublist (p := keptE (squE L)) (l := squE L)).eq_of_length h2
/-- The edges, by numbers. -/
theorem edg_te {L : List En} (h : TblOk L) : ∀ e ∈ edgF (L.map teOf), ∃ x ∈ edgE L, AddrFine x.six x.hi x.lo ∧ e = (x.six, nOf x.hi x.lo) := by
  have hsub : ∀ x ∈ edgE L, ∀ e, e = (x.six, nOf x.hi x.lo) → ∃ x ∈ edgE L, AddrFine x.six x.hi x.lo ∧ e = (x.six, nOf x.hi x.lo) := fun x hx e he => ⟨x, hx, edgE_fine h x hx, he⟩
  intro e he
  unfold edgF at he
  rcases List.mem_cons.1 he with rfl | he
  · exact hsub noAd (by unfold edgE; simp) _ rfl
  rcases List.mem_cons.1 he with rfl | he
  · exact hsub ⟨true, 0, 0⟩ (by unfold edgE; simp) _ rfl
  obtain ⟨t, ht, hm⟩ := List.mem_flatMap.1 he
  obtain ⟨x, hx, rfl⟩ := List.mem_map.1 ht
  have hin : ∀ y ∈ edE x, y ∈ edgE L := fun y hy => by unfold edgE; exact List.mem_append_right _ (List.mem_flatMap.2 ⟨x, hx, hy⟩)
  rcases List.mem_cons.1 hm with rfl | hm
  · exact hsub ⟨x.six, x.hi, x.lo⟩ (hin _ (by unfold edE; simp)) _ rfl
  · have hr := h.right x hx
    obtain ⟨m, hm1, hm2, hn, hfl⟩ := last_num hr
    have hLE : lastE x = ⟨x.six, fil x.hi (m - 64), fil x.lo (min 64 m)⟩ := by unfold lastE; rw [show (lenA x.six - x.bits).toNat = m by omega]
    have hpm : (teOf x).p.m = m := by show (lenA x.six - x.bits).toNat = m; omega
    have hpf : (teOf x).p.f = nOf x.hi x.lo := rfl
    have hps : (teOf x).p.six = x.six := rfl
    have h2 := Nat.one_le_two_pow (n := m)
    rw [hpm, hpf, hps] at hm
    by_cases hlt : nOf x.hi x.lo + 2 ^ m < 2 ^ lenN x.six
    · rw [if_pos hlt] at hm
      simp only [List.mem_cons, List.not_mem_nil, or_false] at hm
      have hq : endA x.six (fil x.hi (m - 64)) (fil x.lo (min 64 m)) = false := by
        rw [end_num hfl, hn, decide_eq_false_iff_not]
        omega
      obtain ⟨hnn, _⟩ := nx_num hfl hq
      refine hsub ⟨x.six, nxH (fil x.hi (m - 64)) (fil x.lo (min 64 m)), nxL (fil x.lo (min 64 m))⟩ (hin _ ?_) _ ?_
      · unfold edE
        rw [hLE, if_neg (by rw [hq]; decide)]
        simp
      · rw [hm]
        show (x.six, _) = (x.six, nOf _ _)
        rw [hnn, hn]
        congr 1
        omega
    · rw [if_neg hlt] at hm
      simp at hm
/-- Tables that agree at their edges agree everywhere. -/
theorem edges_all {T U : List En} (hT : TblOk T) (hU : TblOk U) (h : ∀ x ∈ edgE T ++ edgE U, (atE T x).toList = (atE U x).toList) (a : Ad) (ha : AddrFine a.six a.hi a.lo) : (atE T a).toList = (atE U a).toList := by
  rw [← look_te hT a ha.1 ha.2.1, ← look_te hU a ha.1 ha.2.1]
  refine look_edges (fun e he => ?_) _ _ (fine_num ha)
  obtain ⟨x, hx, hf, rfl⟩ : ∃ x ∈ edgE T ++ edgE U, AddrFine x.six x.hi x.lo ∧ e = (x.six, nOf x.hi x.lo) := by
    rcases he with he | he
    · obtain ⟨x, h1, h2⟩ := edg_te hT e he
      exact ⟨x, List.mem_append_left _ h1, h2⟩
    · obtain ⟨x, h1, h2⟩ := edg_te hU e he
      exact ⟨x, List.mem_append_right _ h1, h2⟩
  show lookF _ x.six (nOf x.hi x.lo) = lookF _ x.six (nOf x.hi x.lo)
  rw [look_te hT x hf.1 hf.2.1, look_te hU x hf.1 hf.2.1]
  exact h x hx
end Go.Proofs.YtpbcbgoenoolfaaGreatDoor
