/- PathsAreKept's closure: what is known of a path at a moment. -/
import Derived.Test.YtdkgmmngoojamaaGreatDoorPaH
namespace Go.Proofs.YtdkgmmngoojamaaGreatDoor
open Go.RowKit Go.Hw Go.Shelf

def knownV (fresh t : Int) : Option Smp → Int × Bool
  | none => (0, false)
  | some y => (y.ms, decide (0 ≤ y.ms ∧ t < y.at_ + fresh))
def knownP (xs : List Smp) (fresh : Int) (p : ByteArray) (t : Int) : Int × Bool := knownV fresh t (lastOf xs p t)
theorem known_good (xs : List Smp) (fresh : Int) (p : ByteArray) (t : Int) : goodAt xs fresh t p = if (knownP xs fresh p t).2 = true then some (knownP xs fresh p t).1 else none := by
  unfold goodAt goodOf knownP knownV
  cases lastOf xs p t with
  | none => rfl
  | some y =>
    simp only [decide_eq_true_eq]
theorem below_dn {B : Nat} {a w : World} (h : Below B a w) (n : Nat) : Below B a (w.drewN n) := ⟨h.os, h.tape, h.output, h.size, h.block⟩
theorem lastOf_snoc (ys : List Smp) (y : Smp) (p : ByteArray) (t : Int) : lastOf (ys ++ [y]) p t = if y.path = p ∧ y.at_ ≤ t then some y else lastOf ys p t := by
  unfold lastOf
  rw [List.foldl_append]
  rfl
def KnI (w : World) (xs : List Smp) (fresh : Int) (p : ByteArray) (t : Int) (v8 v9 v14 : Value) (wr : World) : Prop :=
  ∃ k : Nat, k ≤ xs.length ∧ v14 = .int .i64 k ∧ v8 = .int .i64 (knownP (xs.take k) fresh p t).1 ∧ v9 = .bool (knownP (xs.take k) fresh p t).2 ∧ Below w.heap.size w wr
/-- What the closure reads. -/
structure KCap (w : World) (B bx bf : Nat) (A : Option Addr) (cap : Nat) (xs : List Smp) (fresh : Int) : Prop where
  cx : w.cell? ⟨bx, 0, none⟩ = some (.slice A xs.length cap)
  cf : w.cell? ⟨bf, 0, none⟩ = some (.int .i64 fresh)
  sms : SmsAt w B A xs
  bx : bx < B
  bf : bf < B
  low : B ≤ w.heap.size
theorem KCap.below {w w' : World} {B bx bf : Nat} {A : Option Addr} {cap : Nat} {xs : List Smp} {fresh : Int} (h : KCap w B bx bf A cap xs fresh) (hb : Below B w w') : KCap w' B bx bf A cap xs fresh :=
  ⟨(hb.cell (p := ⟨bx, 0, none⟩) h.bx).trans h.cx, (hb.cell (p := ⟨bf, 0, none⟩) h.bf).trans h.cf, h.sms.below hb, h.bx, h.bf, Nat.le_trans h.low hb.size⟩

set_option maxRecDepth 100000 in
set_option maxHeartbeats 1000000 in
theorem known_any (B bx bf : Nat) (A : Option Addr) (cap : Nat) (xs : List Smp) (fresh t : Int) (p : ByteArray) (w : World) (h : KCap w B bx bf A cap xs fresh) (hf : SmpFine xs) (hl : xs.length ≤ 2000) (hfr : 1 ≤ fresh ∧ fresh ≤ 1000) :
    Calls Tryz.prog 37 #[.string p, .int .i64 t, .pointer (some ⟨bx, 0, none⟩), .pointer (some ⟨bf, 0, none⟩)] w fun e w' => e = .returned (.tuple #[.int .i64 (knownP xs fresh p t).1, .bool (knownP xs fresh p t).2]) ∧ Below w.heap.size w w' := by
  obtain ⟨cx, cf, hs, hbx, hbf, hlow⟩ := h
  have HS := Lib.hid hs
  have HF := Lib.hid hf
  have CF := Lib.hid cf
  have hfin : Hid (knownP (xs.take xs.length) fresh p t = knownP xs fresh p t) := Lib.hid (by rw [List.take_length])
  clear hs hf cf
  go_enter Tryz.func37, Tryz.ntmps37
  go_wp2_with fail
  go_loopw [8, 9, 14] (fun v8 v9 v14 wr => KnI w xs fresh p t v8 v9 v14 wr) (fun _ _ v14 _ => xs.length - (intOf v14).toNat)
  case atStart => exact ⟨0, by omega, rfl, rfl, rfl, Below.refl _ _⟩
  case round =>
    obtain ⟨k, hk, rfl, rfl, rfl, hb⟩ := hrel
    by_cases hlt : k < xs.length
    · obtain ⟨g, off, rfl, hgb, c0, c1, c2⟩ := (HS.out.below (hb.mono hlow)) k hlt
      have hst : Hid (knownP (xs.take (k + 1)) fresh p t = if (xs.getD k noSmp).path = p ∧ (xs.getD k noSmp).at_ ≤ t then knownV fresh t (some (xs.getD k noSmp)) else knownP (xs.take k) fresh p t) := Lib.hid (by
        unfold knownP
        rw [take_getD hlt, lastOf_snoc]
        split <;> rfl)
      have htm := HF.out.time k hlt
      have cf' := (hb.cell (p := ⟨bf, 0, none⟩) (show bf < w.heap.size by omega)).trans CF.out
      generalize xs.getD k noSmp = x at *
      obtain ⟨xa, xp, xm⟩ := x
      simp only at c0 c1 c2 htm hst
      generalize hq : knownP (xs.take k) fresh p t = q at *
      obtain ⟨qn, qb⟩ := q
      clear hq
      have hb1 := hb.alloc hb.size (.cells #[.int .i64 xa, .string xp, .int .i64 xm] 93)
      have y0 : (wr.alloc (.cells #[.int .i64 xa, .string xp, .int .i64 xm] 93)).cell? ⟨bf, 0, none⟩ = some (.int .i64 fresh) := (World.cell?_alloc_lt _ _ ⟨bf, 0, none⟩ (by have := hb.size; simp only; omega)).trans cf'
      have HB1 := Lib.hid hb1
      clear hb hb1 cf'
      cases he : (xp.toList == p.toList)
      · have hne : ¬ (xp = p ∧ xa ≤ t) := fun e => by rw [e.1] at he; simp at he
        have HN : Hid (KnI w xs fresh p t (.int .i64 qn) (.bool qb) (.int .i64 ((k + 1 : Nat) : Int)) (wr.alloc (.cells #[.int .i64 xa, .string xp, .int .i64 xm] 93))) := Lib.hid ⟨k + 1, hlt, rfl, by rw [hst.out, if_neg hne], by rw [hst.out, if_neg hne], HB1.out⟩
        clear hst HB1 hne
        go_wp2_with fail
        go_roundw
        case rel => exact HN.out
        case measure => simp [intOf]; omega
      · have hxe : xp = p := bytes_ext (by simpa using he)
        by_cases hat : xa ≤ t
        · have hyes : xp = p ∧ xa ≤ t := ⟨hxe, hat⟩
          by_cases h1 : 0 ≤ xm
          · have HN : Hid (∀ q, KnI w xs fresh p t (.int .i64 xm) (.bool (decide (t < xa + fresh))) (.int .i64 ((k + 1 : Nat) : Int)) ((wr.alloc (.cells #[.int .i64 xa, .string xp, .int .i64 xm] 93)).drewN q)) := Lib.hid fun q => ⟨k + 1, hlt, rfl, by rw [hst.out, if_pos hyes]; rfl, by rw [hst.out, if_pos hyes]; simp [knownV, h1], below_dn HB1.out q⟩
            have s0 : IntKind.i64.wrap (xa + fresh) = xa + fresh := IntWalk.i64_in _ (by omega)
            clear hst HB1 hyes hxe
            go_wp2_with fail
            go_quiet (fail)
            clear s0
            go_wp2_with fail
            go_roundw
            case rel => exact HN.out _
            case measure => simp [intOf]; omega
          · have HN : Hid (∀ q, KnI w xs fresh p t (.int .i64 xm) (.bool false) (.int .i64 ((k + 1 : Nat) : Int)) ((wr.alloc (.cells #[.int .i64 xa, .string xp, .int .i64 xm] 93)).drewN q)) := Lib.hid fun q => ⟨k + 1, hlt, rfl, by rw [hst.out, if_pos hyes]; rfl, by rw [hst.out, if_pos hyes]; simp [knownV, h1], below_dn HB1.out q⟩
            have hd0 : decide ((0 : Int) ≤ xm) = false := by simpa using h1
            clear hst HB1 hyes hxe
            go_wp2_with fail
            go_quiet (fail)
            go_wp2_with fail
            go_roundw
            case rel => exact HN.out _
            case measure => simp [intOf]; omega
        · have hne : ¬ (xp = p ∧ xa ≤ t) := fun e => hat e.2
          have HN : Hid (KnI w xs fresh p t (.int .i64 qn) (.bool qb) (.int .i64 ((k + 1 : Nat) : Int)) (wr.alloc (.cells #[.int .i64 xa, .string xp, .int .i64 xm] 93))) := Lib.hid ⟨k + 1, hlt, rfl, by rw [hst.out, if_neg hne], by rw [hst.out, if_neg hne], HB1.out⟩
          clear hst HB1 hne hxe
          go_wp2_with fail
          go_roundw
          case rel => exact HN.out
          case measure => simp [intOf]; omega
    · have : k = xs.length := by omega
      subst this
      rw [hfin.out]
      clear hfin
      go_wp2_with fail
      go_ret2
      exact ⟨rfl, hb⟩
end Go.Proofs.YtdkgmmngoojamaaGreatDoor
