/- Packets as bytes: put, take, Sum: the walks. -/
import Derived.Test.YtfakfhbcpldeoaaGreatDoorPwA
import Derived.Test.YtfakfhbcpldeoaaGreatDoorRgS
import Derived.Deep.AppendLies
import Derived.WalkSmall
import Derived.BigQuiet
import Derived.Deep.Cut
import Derived.Deep.CutRange
import Derived.Deep.DeepCutAuto
import Derived.Deep.RegionHeld3
import Derived.Deep.RegionLaw
import Derived.OwnWalk
namespace Go.Proofs.YtfakfhbcpldeoaaGreatDoor
open Go.RowKit Go.Hw

def bV (bs : List UInt8) : List Value := bs.map fun c => .int .u8 c.toNat
/-- An own row of bytes. -/
def bOwn (w : World) (base : Nat) (A : Option Addr) (n cap : Nat) (bs : List UInt8) : Prop := bs.length = n ∧ w.ownsRow base 5 1 (.slice A n cap) n (bV bs)
/-- Bytes that lie at a place. -/
def bAt (w : World) (A : Option Addr) (bs : List UInt8) : Prop := ∀ i c, bs[i]? = some c → ∃ g off, A = some ⟨g, off, none⟩ ∧ g < w.heap.size ∧ w.cell? ⟨g, off + i, none⟩ = some (.int .u8 c.toNat)
theorem infoB : (Tryz.prog.info? 5).map (fun i => (i.zero, i.size, i.bytes)) = some (some (.int .u8 0), 1, 1) := by kernel_rfl
theorem bV_app (a b : List UInt8) : bV (a ++ b) = bV a ++ bV b := by simp [bV]
theorem bOwn.nil (w : World) (base : Nat) : bOwn w base none 0 0 [] := ⟨rfl, World.ownsRow_nil _ _ _ _⟩
theorem bAt.below {w w' : World} {A : Option Addr} {bs : List UInt8} (h : bAt w A bs) (hb : Below w.heap.size w w') : bAt w' A bs := fun i c hc => by
  obtain ⟨g, off, e, hl, hx⟩ := h i c hc
  exact ⟨g, off, e, Nat.lt_of_lt_of_le hl hb.size, (hb.cell (p := ⟨g, off + i, none⟩) hl).trans hx⟩
theorem bOwn.at_ {w : World} {base : Nat} {A : Option Addr} {n cap : Nat} {bs : List UInt8} (h : bOwn w base A n cap bs) : bAt w A bs := by
  intro i c hc
  have hi := (List.getElem?_eq_some_iff.1 hc).1
  rcases h.2.2 with ⟨h1, h2⟩ | ⟨g, cap', cur, h1, _⟩
  · have := h.1
    omega
  · injection h1 with hA
    subst hA
    have hx := h.2.cells (g := g) rfl i (.int .u8 c.toNat) (by simp [bV, hc])
    exact ⟨g, 0, rfl, (h.2.lt g rfl).2, by
      have e : (⟨g, 0, none⟩ : Addr).add i = ⟨g, 0 + i, none⟩ := by unfold Addr.add; split <;> simp_all
      rw [← e]; exact hx⟩
theorem bOwn.grow {w w' : World} {base g k cap cap' m : Nat} {A : Option Addr} {bs ys : List UInt8} {xs : List Value} (h : bOwn w base A k cap bs) (hx : w'.ownsRow base 5 1 (.slice (some ⟨g, 0, none⟩) (k + m) cap') (k + m) (bV bs ++ xs)) (hy : xs = bV ys) (hm : ys.length = m) : bOwn w' base (some ⟨g, 0, none⟩) (k + m) cap' (bs ++ ys) :=
  ⟨by rw [List.length_append, h.1, hm], by rw [bV_app, ← hy]; exact hx⟩
theorem byte_shift (n r : Nat) : IntKind.u8.wrap ((n : Int) / 2 ^ (8 * r)) = (((UInt8.ofNat (n / 256 ^ r)).toNat : Nat) : Int) := by
  have e : (2 : Int) ^ (8 * r) = ((256 ^ r : Nat) : Int) := by
    rw [Int.pow_mul]
    simp
  rw [e, ← Int.natCast_ediv]
  generalize n / 256 ^ r = m
  simp [IntKind.wrap, show IntKind.u8.signed = false from rfl, show IntKind.u8.bits = 8 from rfl]
def ownN (A : Option Addr) : Option Nat := (Value.slice A 0 0).ownBlock
theorem ownN_eq {A : Option Addr} {n cap : Nat} : (Value.slice A n cap).ownBlock = ownN A := by cases A <;> rfl
/-- The row's own block is the old one, or a new one; nothing else is changed. -/
def bGrow (w w' : World) (A A' : Option Addr) : Prop := w.grownBy w' (ownN A) ∧ ∀ k, ownN A' = some k → ownN A = some k ∨ w.heap.size ≤ k
theorem bGrow.refl (w : World) (A : Option Addr) : bGrow w w A A := ⟨World.grownBy.refl _ _, fun _ h => .inl h⟩
theorem bGrow.trans {w w1 w2 : World} {A B C : Option Addr} (h : bGrow w w1 A B) (k : bGrow w1 w2 B C) : bGrow w w2 A C := by
  refine ⟨h.1.andThen k.1 (fun j hj => ?_), fun j hj => ?_⟩
  · rcases h.2 j hj with e | e
    · exact .inr e
    · exact .inl e
  · rcases k.2 j hj with e | e
    · exact h.2 j e
    · exact .inr (Nat.le_trans h.1.size e)
theorem bGrow.al {w w1 : World} {A B : Option Addr} (h : bGrow w w1 A B) (o : Obj) : bGrow w (w1.alloc o) A B := h.trans ⟨World.grownBy_alloc _ _ _, fun _ e => .inl e⟩
theorem bGrow.bl {w w1 w2 : World} {A B : Option Addr} (h : bGrow w w1 A B) (hb : Below w1.heap.size w1 w2) : bGrow w w2 A B := h.trans ⟨⟨hb.os, hb.tape, hb.output, hb.size, fun k hk _ => hb.block k hk⟩, fun _ e => .inl e⟩
theorem bGrow.app {w w1 w2 : World} {A B : Option Addr} {n cap g : Nat} (h : bGrow w w1 A B) (hg : w1.grownBy w2 (Value.slice B n cap).ownBlock) (hd : (Value.slice B n cap).ownBlock = some g ∨ w1.heap.size ≤ g) : bGrow w w2 A (some ⟨g, 0, none⟩) := by
  rw [ownN_eq] at hg hd
  refine h.trans ⟨hg, fun k hk => ?_⟩
  have e : g = k := by injection hk
  subst e
  exact hd
theorem bGrow.dr {w w1 : World} {A B : Option Addr} (h : bGrow w w1 A B) : bGrow w w1.drew A B := ⟨⟨h.1.os, h.1.tape, h.1.output, h.1.size, h.1.block⟩, h.2⟩
theorem bGrow.below {w w1 : World} {A B : Option Addr} {base k cap : Nat} {bs : List UInt8} (h : bGrow w w1 A B) (ho : bOwn w base A k cap bs) (hb : base ≤ w.heap.size) : Below base w w1 :=
  (Below.refl _ _).grown h.1 hb (fun j hj => (ho.2.lt j (by rw [ownN_eq]; exact hj)).1)
/-- A block that is not the row's own stays. -/
theorem bGrow.blk {w w1 : World} {A B : Option Addr} {k : Nat} {o : Obj} (h : bGrow w w1 A B) (hk : w.heap[k]? = some o) (hn : ownN A ≠ some k) : w1.heap[k]? = some o ∧ ownN B ≠ some k := by
  have hl := lt_of_block hk
  refine ⟨(h.1.block k hl (fun e => hn e.symm)).trans hk, fun e => ?_⟩
  rcases h.2 k e with c | c
  · exact hn c
  · omega
set_option maxRecDepth 20000 in
set_option maxHeartbeats 1000000 in
theorem put_any (base : Nat) (n : Nat) (many : Nat) (hm : many ≤ 8) (A : Option Addr) (k cap : Nat) (bs : List UInt8) (w : World) (ho : bOwn w base A k cap bs) (hb : base ≤ w.heap.size) (hk : k ≤ 100000) :
    Calls Tryz.prog 37 #[.slice A k cap, .int .u64 n, .int .i64 many] w fun e w' => ∃ A' cap', e = .returned (.slice A' (k + many) cap') ∧ bOwn w' base A' (k + many) cap' (bs ++ putN n many) ∧ bGrow w w' A A' := by
  obtain ⟨i0, hi, hz0, hz1, hz2⟩ := info_parts infoB
  have s0 : IntKind.i64.wrap ((many : Int) - 1) = (many : Int) - 1 := IntWalk.i64_in _ (by omega)
  have HO := Lib.hid ho
  clear ho
  go_enter Tryz.func37, Tryz.ntmps37
  go_wp2_with fail
  go_loopw [0, 7] (fun v0 v7 wr => ∃ (r : Nat) (z : Int) (A' : Option Addr) (k' cap' : Nat) (xs : List UInt8), r ≤ many ∧ v7 = .int .i64 z ∧ z + 1 = r ∧ v0 = .slice A' k' cap' ∧ k' + r = k + many ∧ xs ++ putN n r = bs ++ putN n many ∧ bOwn wr base A' k' cap' xs ∧ bGrow w wr A A') (fun _ v7 _ => (intOf v7 + 1).toNat)
  case atStart => exact ⟨many, _, A, k, cap, bs, Nat.le_refl _, rfl, by omega, rfl, rfl, rfl, HO.out, bGrow.refl _ _⟩
  case round =>
    obtain ⟨r, z, A', k', cap', xs, hr, rfl, hz, rfl, hk', hxs, ho', hb'⟩ := hrel
    rcases r with _ | r
    · obtain rfl : z = -1 := by omega
      obtain rfl : k' = k + many := by omega
      have hxe : xs = bs ++ putN n many := by simpa [putN] using hxs
      subst hxe
      have HF := Lib.hid (And.intro ho' hb')
      clear hxs ho' hb'
      go_wp2_with fail
      go_ret
      exact ⟨_, _, rfl, HF.out.1, HF.out.2⟩
    · obtain rfl : z = (r : Int) := by omega
      have s1 : IntKind.i64.wrap (8 * (r : Int)) = 8 * (r : Int) := IntWalk.i64_in _ (by omega)
      have s2 : (8 * (r : Int)).toNat = 8 * r := by omega
      have s3 : IntKind.i64.wrap ((r : Int) - 1) = (r : Int) - 1 := IntWalk.i64_in _ (by omega)
      have d1 : decide ((0 : Int) ≤ (r : Int)) = true := by simp
      have s4 : 8 * (r : Int) < 64 := by omega
      have s5 : (0 : Int) ≤ 8 * (r : Int) := by omega
      have HO' := Lib.hid ho'
      have HB' := Lib.hid hb'
      have hbw : base ≤ wr.heap.size := Nat.le_trans hb hb'.1.size
      clear ho' hb'
      obtain ⟨c, hc⟩ : ∃ c, UInt8.ofNat (n / 256 ^ r) = c := ⟨_, rfl⟩
      have s6 : IntKind.u8.wrap ((n : Int) / 2 ^ (8 * r)) = ((c.toNat : Nat) : Int) := by rw [← hc]; exact byte_shift n r
      have HC := Lib.hid hc
      clear hc
      go_wp2_with (at_builtin; refine wpList_append_lies _ rfl (.tmp 14) (.tmp 20) 29 rfl base 5 i0 (.int .u8 0) 1 1 Tryz.underlying29 hi hz0 hz1 hz2 rfl (by decide) _ _ _ rfl (World.ownsRow.alloc HO'.out.2 _) ⟨wr.heap.size, 0, none⟩ 1 1 [.int .u8 c.toNat] rfl rfl (World.news_of_block (heap_alloc_new wr _)) (by simp [Value.oneCell']) (by omega) (by unfold maxLen; omega) (by omega) (by simp; omega) (wr.heap.size + 1) (by simp) ?_)
      intro gg cg w' hown hgrow hat hgl
      have HO2 := Lib.hid (HO'.out.grow (ys := [c]) hown rfl rfl)
      have HB2 := Lib.hid ((HB'.out.al _).app hgrow (by rcases hat with h | h; exact .inl h; exact .inr (by rw [h]; simp)))
      have HX : Hid ((xs ++ [c]) ++ putN n r = bs ++ putN n many) := Lib.hid (by rw [← hxs, List.append_assoc, ← HC.out]; rfl)
      clear hown hgrow hat hxs
      go_wp2_with fail
      exact ⟨⟨r, _, _, _, _, _, by omega, rfl, by omega, rfl, by omega, HX.out, HO2.out, HB2.out⟩, by simp [intOf]⟩
theorem or_byte (t : Nat) (c : UInt8) (ht : t < 72057594037927936) : bits .or .u64 (IntKind.u64.wrap ((t : Int) * 256)) (IntKind.u64.wrap (c.toNat : Int)) = ((t * 256 + c.toNat : Nat) : Int) := by
  have hc := UInt8.toNat_lt c
  have e1 : IntKind.u64.wrap ((t : Int) * 256) = ((2 ^ 8 * t : Nat) : Int) := by rw [IntKind.wrap_u64]; omega
  have e2 : IntKind.u64.wrap (c.toNat : Int) = ((c.toNat : Nat) : Int) := by rw [IntKind.wrap_u64]; omega
  rw [e1, e2, u64_or _ _ (by omega) (by omega) (by omega) (by omega), Int.toNat_natCast, Int.toNat_natCast, ← Nat.two_pow_add_eq_or_of_lt (by omega)]
  omega
theorem takeN_snoc (b : List UInt8) (c : UInt8) : takeN (b ++ [c]) = takeN b * 256 + c.toNat := by
  show takeFrom 0 (b ++ [c]) = _
  unfold takeFrom
  rw [List.foldl_append]
  rfl
set_option maxRecDepth 20000 in
set_option maxHeartbeats 1000000 in
theorem take_any (A : Option Addr) (cap : Nat) (bs : List UInt8) (w : World) (ho : bAt w A bs) (hl : bs.length ≤ 8) :
    Calls Tryz.prog 23 #[.slice A bs.length cap] w fun e w' => e = .returned (.int .u64 (takeN bs)) ∧ w = w' := by
  have HO := Lib.hid ho
  clear ho
  go_enter Tryz.func23, Tryz.ntmps23
  go_wp2_with fail
  obtain ⟨wo, rfl⟩ : ∃ wo : World, wo = w := ⟨_, rfl⟩
  go_loopw [3, 8] (fun v3 v8 wr => ∃ k : Nat, k ≤ bs.length ∧ v8 = .int .i64 k ∧ v3 = .int .u64 (takeN (bs.take k)) ∧ wr = wo) (fun _ v8 _ => bs.length - (intOf v8).toNat)
  case atStart => exact ⟨0, by omega, rfl, rfl, rfl⟩
  case round =>
    obtain ⟨k, hk, rfl, rfl, rfl⟩ := hrel
    by_cases hlt : k < bs.length
    · have d1 : decide ((k : Int) < (bs.length : Int)) = true := by simp; omega
      obtain ⟨c, hc⟩ : ∃ c, bs[k]? = some c := ⟨bs[k], by simp [hlt]⟩
      obtain ⟨g, off, rfl, hg, hx⟩ := HO.out k c hc
      generalize hT : takeN (bs.take k) = t
      have HT := Lib.hid hT
      have HC := Lib.hid hc
      clear hT hc
      have ht : t < 72057594037927936 := by
        rw [← HT.out]
        have h1 := takeN_lt (bs.take k)
        have h2 : (bs.take k).length ≤ 7 := by simp; omega
        have h3 : 256 ^ (bs.take k).length ≤ 256 ^ 7 := Nat.pow_le_pow_right (by omega) h2
        omega
      have hor := or_byte t c ht
      have HN : Hid (takeN (bs.take (k + 1)) = t * 256 + c.toNat) := Lib.hid (by
        rw [List.take_add_one, HC.out, ← HT.out]
        exact takeN_snoc _ _)
      clear ht
      go_wp2_with fail
      exact ⟨⟨k + 1, by omega, by simp, by rw [HN.out]; simp, trivial⟩, by simp [intOf]; omega⟩
    · have : k = bs.length := by omega
      subst this
      have d1 : decide ((bs.length : Int) < (bs.length : Int)) = false := by simp
      go_wp2_with fail
      go_ret
      exact ⟨by rw [List.take_length]; rfl, rfl⟩
theorem sumRaw_le (b : List UInt8) : ∀ f, sumRaw f b ≤ 65280 * b.length := by
  induction b with
  | nil => intro f; cases f <;> simp [sumRaw]
  | cons c b ih =>
    intro f
    have hc := UInt8.toNat_lt c
    have h1 := ih true
    have h2 := ih false
    cases f <;> simp only [sumRaw, List.length_cons] <;> omega
theorem sumRaw_app (a b : List UInt8) : ∀ f, sumRaw f (a ++ b) = sumRaw f a + sumRaw (if a.length % 2 = 0 then f else !f) b := by
  induction a with
  | nil => intro f; cases f <;> simp [sumRaw]
  | cons c a ih =>
    intro f
    have e : ∀ g : Bool, (if (a.length + 1) % 2 = 0 then g else !g) = (if a.length % 2 = 0 then !g else g) := by
      intro g
      rcases Nat.mod_two_eq_zero_or_one a.length with h | h
      · rw [if_neg (by omega), if_pos h]
      · rw [if_pos (by omega), if_neg (by omega)]
    cases f
    · simp only [List.cons_append, sumRaw, ih true, List.length_cons, e]
      cases (decide (a.length % 2 = 0)) <;> simp <;> omega
    · simp only [List.cons_append, sumRaw, ih false, List.length_cons, e]
      simp; omega
theorem foldS_step {n : Nat} (h : ¬ n ≤ 65535) : foldS n = foldS (n / 65536 + n % 65536) := by rw [foldS, dif_neg h]
theorem foldS_fin {n : Nat} (h : n ≤ 65535) : foldS n = n := by rw [foldS, dif_pos h]
theorem and_two (n : Int) : bits .and .i64 n 65535 = n % 65536 := by
  have h127 : (BitVec.ofInt 64 65535).toNat = 2 ^ 16 - 1 := by decide
  have key : (BitVec.ofInt 64 n &&& BitVec.ofInt 64 65535).toNat = (n % ((2 ^ 64 : Nat) : Int)).toNat % 2 ^ 16 := by
    rw [BitVec.toNat_and, BitVec.toNat_ofInt, h127, Nat.and_two_pow_sub_one_eq_mod]
  show IntKind.i64.wrap ((BitVec.ofInt 64 n &&& BitVec.ofInt 64 65535).toNat : Nat) = n % 65536
  rw [key, IntKind.wrap_i64]
  omega
set_option maxRecDepth 20000 in
set_option maxHeartbeats 2000000 in
theorem sum_any2 (A : Option Addr) (cap : Nat) (bs : List UInt8) (w : World) (ho : bAt w A bs) (hl : bs.length ≤ 100000) :
    Calls Tryz.prog 31 #[.slice A bs.length cap] w fun e w' => e = .returned (.int .i64 (sumP bs)) ∧ w = w' := by
  have HO := Lib.hid ho
  clear ho
  go_enter Tryz.func31, Tryz.ntmps31
  go_wp2_with fail
  obtain ⟨wo, rfl⟩ : ∃ wo : World, wo = w := ⟨_, rfl⟩
  go_loopw [3, 8] (fun v3 v8 wr => ∃ k t : Nat, k ≤ bs.length ∧ v8 = .int .i64 k ∧ v3 = .int .i64 t ∧ t = sumRaw true (bs.take k) ∧ wr = wo) (fun _ v8 _ => bs.length - (intOf v8).toNat)
  case atStart => exact ⟨0, 0, by omega, rfl, rfl, rfl, rfl⟩
  case round =>
    obtain ⟨k, t, hk, rfl, rfl, ht, rfl⟩ := hrel
    by_cases hlt : k < bs.length
    · have d1 : decide ((k : Int) < (bs.length : Int)) = true := by simp; omega
      obtain ⟨c, hc⟩ : ∃ c, bs[k]? = some c := ⟨bs[k], by simp [hlt]⟩
      obtain ⟨g, off, rfl, hg, hx⟩ := HO.out k c hc
      have hcl := UInt8.toNat_lt c
      have hle := sumRaw_le (bs.take k) true
      have hlk : (bs.take k).length = k := by simp; omega
      rw [hlk, ← ht] at hle
      have HN : Hid (sumRaw true (bs.take (k + 1)) = t + (if k % 2 = 0 then c.toNat * 256 else c.toNat)) := Lib.hid (by
        rw [List.take_add_one, hc, sumRaw_app, hlk, ← ht]
        split <;> simp [sumRaw])
      have hle' : t ≤ 6528000000 := by omega
      clear hc hle hlk ht
      by_cases hev : k % 2 = 0
      · have s1 : IntKind.i64.wrap ((t : Int) + (c.toNat : Int) * 256) = (t : Int) + (c.toNat : Int) * 256 := IntWalk.i64_in _ (by omega)
        have d2 : decide ((k : Int) % 2 = 0) = true := by simp; omega
        go_wp2_with fail
        exact ⟨⟨k + 1, t + c.toNat * 256, by omega, by simp, by simp, by rw [HN.out, if_pos hev], trivial⟩, by simp [intOf]; omega⟩
      · have s1 : IntKind.i64.wrap ((t : Int) + (c.toNat : Int)) = (t : Int) + (c.toNat : Int) := IntWalk.i64_in _ (by omega)
        have d2 : decide ((k : Int) % 2 = 0) = false := by simp; omega
        go_wp2_with fail
        exact ⟨⟨k + 1, t + c.toNat, by omega, by simp, by simp, by rw [HN.out, if_neg hev], trivial⟩, by simp [intOf]; omega⟩
    · have : k = bs.length := by omega
      subst this
      have d1 : decide ((bs.length : Int) < (bs.length : Int)) = false := by simp
      have hle := sumRaw_le bs true
      rw [List.take_length] at ht
      rw [← ht] at hle
      have HT := Lib.hid ht
      have hle' : t ≤ 6528000000 := by omega
      clear ht hle HO
      go_wp2_with fail
      obtain ⟨wo, rfl⟩ : ∃ wo : World, wo = wr := ⟨_, rfl⟩
      go_loopw [3] (fun v3 wr => ∃ t : Nat, v3 = .int .i64 t ∧ t ≤ 6528000000 ∧ foldS t = foldS (sumRaw true bs) ∧ wr = wo) (fun v3 _ => (intOf v3).toNat)
      case atStart => exact ⟨t, rfl, hle', by rw [HT.out], rfl⟩
      case round =>
        obtain ⟨x, rfl, hx, hf, rfl⟩ := hrel
        have hA := and_two (x : Int)
        by_cases hlt : 65535 < x
        · have d2 : decide ((65535 : Int) < (x : Int)) = true := by simp; omega
          have s1 : IntKind.i64.wrap ((x : Int) / 65536 + (x : Int) % 65536) = (x : Int) / 65536 + (x : Int) % 65536 := IntWalk.i64_in _ (by omega)
          have HF : Hid (foldS (x / 65536 + x % 65536) = foldS (sumRaw true bs)) := Lib.hid (by rw [← foldS_step (by omega)]; exact hf)
          clear hf
          go_wp2_with fail
          exact ⟨⟨x / 65536 + x % 65536, by simp, by omega, HF.out, trivial⟩, by simp [intOf]; omega⟩
        · have d2 : decide ((65535 : Int) < (x : Int)) = false := by simp; omega
          rw [foldS_fin (by omega)] at hf
          have s1 : IntKind.i64.wrap (65535 - (x : Int)) = 65535 - (x : Int) := IntWalk.i64_in _ (by omega)
          have HF : Hid ((65535 - (x : Int)) = ((sumP bs : Nat) : Int)) := Lib.hid (by unfold sumP; rw [← hf]; omega)
          clear hf
          go_wp2_with fail
          go_ret
          exact ⟨by rw [← HF.out]; rfl, rfl⟩
end Go.Proofs.YtfakfhbcpldeoaaGreatDoor
