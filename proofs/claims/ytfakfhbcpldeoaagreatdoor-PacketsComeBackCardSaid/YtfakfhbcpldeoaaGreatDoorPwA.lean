/- Packets as bytes: what is written is read as it was, what is read is written so. No program in sight. -/
import Derived.Test.YtfakfhbcpldeoaaGreatDoorPkA
namespace Go.Proofs.YtfakfhbcpldeoaaGreatDoor
open Go.RowKit Go.Hw

/-- The bytes of a number, the highest first. -/
def putN (n : Nat) : Nat → List UInt8
  | 0 => []
  | k + 1 => UInt8.ofNat (n / 256 ^ k) :: putN n k
def takeFrom (a : Nat) (b : List UInt8) : Nat := b.foldl (fun n c => n * 256 + c.toNat) a
def takeN (b : List UInt8) : Nat := takeFrom 0 b
theorem putN_length (n k : Nat) : (putN n k).length = k := by
  induction k with
  | zero => rfl
  | succ k ih => simp [putN, ih]
theorem takeFrom_eq (b : List UInt8) : ∀ a, takeFrom a b = a * 256 ^ b.length + takeN b := by
  induction b with
  | nil => intro a; simp [takeFrom, takeN]
  | cons c b ih =>
    intro a
    have h1 : takeFrom a (c :: b) = takeFrom (a * 256 + c.toNat) b := rfl
    have h2 : takeN (c :: b) = takeFrom (0 * 256 + c.toNat) b := rfl
    rw [h1, h2, ih, ih (0 * 256 + c.toNat)]
    simp only [List.length_cons, Nat.pow_succ, Nat.zero_mul, Nat.zero_add, Nat.add_mul]
    rw [Nat.mul_assoc a 256, Nat.mul_comm 256, Nat.add_assoc]
theorem takeN_cons (c : UInt8) (b : List UInt8) : takeN (c :: b) = c.toNat * 256 ^ b.length + takeN b := by
  have h2 : takeN (c :: b) = takeFrom (0 * 256 + c.toNat) b := rfl
  rw [h2, takeFrom_eq]; simp
theorem takeN_lt (b : List UInt8) : takeN b < 256 ^ b.length := by
  induction b with
  | nil => simp [takeN, takeFrom]
  | cons c b ih =>
    rw [takeN_cons, List.length_cons, Nat.pow_succ]
    have := c.toNat_lt
    have h3 : (c.toNat + 1) * 256 ^ b.length ≤ 256 * 256 ^ b.length := Nat.mul_le_mul_right _ (by omega)
    rw [Nat.add_mul] at h3
    omega
theorem putN_add (c : Nat) (n : Nat) : ∀ k m, k ≤ m → putN (c * 256 ^ m + n) k = putN n k := by
  intro k
  induction k with
  | zero => intros; rfl
  | succ k ih =>
    intro m hm
    have e : UInt8.ofNat ((c * 256 ^ m + n) / 256 ^ k) = UInt8.ofNat (n / 256 ^ k) := by
      obtain ⟨j, rfl⟩ : ∃ j, m = k + 1 + j := ⟨m - (k + 1), by omega⟩
      have hp : 256 ^ (k + 1 + j) = 256 ^ k * (256 * 256 ^ j) := by
        rw [Nat.pow_add, Nat.pow_succ, Nat.mul_assoc]
      have : c * 256 ^ (k + 1 + j) + n = n + 256 ^ k * (256 * (c * 256 ^ j)) := by
        rw [hp, Nat.add_comm, ← Nat.mul_assoc c, Nat.mul_comm c, Nat.mul_assoc, ← Nat.mul_assoc c, Nat.mul_comm c 256, Nat.mul_assoc 256]
      rw [this, Nat.add_mul_div_left _ _ (Nat.pow_pos (by decide))]
      apply UInt8.toNat.inj
      simp
    rw [putN, putN, e, ih m (by omega)]
theorem put_take (b : List UInt8) : putN (takeN b) b.length = b := by
  induction b with
  | nil => rfl
  | cons c b ih =>
    rw [takeN_cons, List.length_cons, putN, putN_add _ _ _ _ (Nat.le_refl _), ih]
    congr 1
    rw [Nat.mul_comm, Nat.mul_add_div (Nat.pow_pos (by decide)), Nat.div_eq_of_lt (takeN_lt b), Nat.add_zero]
    simp
theorem takeN_put (n k : Nat) : takeN (putN n k) = n % 256 ^ k := by
  induction k with
  | zero => simp [putN, takeN, takeFrom, Nat.mod_one]
  | succ k ih =>
    rw [putN, takeN_cons, putN_length, ih]
    have e : (UInt8.ofNat (n / 256 ^ k)).toNat = n / 256 ^ k % 256 := by simp
    rw [e, Nat.pow_succ, Nat.mod_mul, Nat.add_comm, Nat.mul_comm]
theorem takeN_put_lt {n k : Nat} (h : n < 256 ^ k) : takeN (putN n k) = n := by rw [takeN_put, Nat.mod_eq_of_lt h]
theorem putN_app (n j k : Nat) : putN n (j + k) = putN (n / 256 ^ k) j ++ putN n k := by
  induction j with
  | zero => simp [putN]
  | succ j ih =>
    rw [show j + 1 + k = (j + k) + 1 from by omega, putN, putN, ih, List.cons_append, Nat.div_div_eq_div_mul, ← Nat.pow_add, Nat.add_comm k j]
/-- The sum of the bytes by twos. -/
def sumRaw : Bool → List UInt8 → Nat
  | _, [] => 0
  | true, c :: b => c.toNat * 256 + sumRaw false b
  | false, c :: b => c.toNat + sumRaw true b
def foldS (n : Nat) : Nat := if h : n ≤ 65535 then n else foldS (n / 65536 + n % 65536)
termination_by n
decreasing_by omega
theorem foldS_le (n : Nat) : foldS n ≤ 65535 := by
  induction n using Nat.strongRecOn with
  | _ n ih =>
    rw [foldS]
    split
    · assumption
    · exact ih _ (by omega)
def sumP (b : List UInt8) : Nat := 65535 - foldS (sumRaw true b)
def addrP (six : Bool) (hi lo : Int) : List UInt8 := if six then putN hi.toNat 8 ++ putN lo.toNat 8 else putN lo.toNat 4
def wireP (p : Pk) : Int := if p.f.s6 && p.f.proto == 1 then 58 else p.f.proto
def flagsP (p : Pk) : UInt8 := UInt8.ofNat ((if p.fin then 1 else 0) + (if p.syn then 2 else 0) + (if p.rst then 4 else 0) + (if p.has then 16 else 0))
def kindP (p : Pk) : UInt8 := if p.f.s6 then (if p.reply then 129 else 128) else if p.reply then 0 else 8
def atP (proto : Int) : Nat := if proto = 6 then 16 else if proto = 17 then 6 else 2
def leastP (proto : Int) : Nat := if proto = 6 then 20 else 8
/-- A part ahead of the payload, without its sum. -/
def frontP (p : Pk) (n : Nat) : List UInt8 :=
  if p.f.proto = 6 then putN p.f.fp.toNat 2 ++ putN p.f.tp.toNat 2 ++ putN p.seq.toNat 4 ++ putN p.ack.toNat 4 ++ [0x50, flagsP p, 0xff, 0xff, 0, 0, 0, 0]
  else if p.f.proto = 17 then putN p.f.fp.toNat 2 ++ putN p.f.tp.toNat 2 ++ putN (8 + n) 2 ++ [0, 0]
  else [kindP p, 0, 0, 0] ++ putN p.id.toNat 2 ++ putN p.seq.toNat 2
def partP (p : Pk) (pay : List UInt8) : List UInt8 := frontP p pay.length ++ pay
def pseudoP (p : Pk) (n : Nat) : List UInt8 :=
  if p.f.s6 then addrP true p.f.sh p.f.sl ++ addrP p.f.t6 p.f.th p.f.tl ++ putN n 4 ++ [0, 0, 0, UInt8.ofNat (wireP p).toNat]
  else if p.f.proto ≠ 1 then addrP false p.f.sh p.f.sl ++ addrP p.f.t6 p.f.th p.f.tl ++ [0, UInt8.ofNat p.f.proto.toNat] ++ putN n 2
  else []
def partSumP (p : Pk) (part : List UInt8) : Nat :=
  if p.f.proto = 17 ∧ sumP (pseudoP p part.length ++ part) = 0 then 65535 else sumP (pseudoP p part.length ++ part)
/-- Two bytes of a number laid at a place. -/
def put2 (b : List UInt8) (i n : Nat) : List UInt8 := (b.set i (UInt8.ofNat (n / 256))).set (i + 1) (UInt8.ofNat n)
def partW (p : Pk) (pay : List UInt8) : List UInt8 := put2 (partP p pay) (atP p.f.proto) (partSumP p (partP p pay))
def head4 (p : Pk) (n : Nat) : List UInt8 := [0x45, 0] ++ putN (20 + n) 2 ++ [0, 0, 0, 0, UInt8.ofNat p.hops.toNat, UInt8.ofNat p.f.proto.toNat, 0, 0] ++ addrP false p.f.sh p.f.sl ++ addrP p.f.t6 p.f.th p.f.tl
def head6 (p : Pk) (n : Nat) : List UInt8 := [0x60, 0, 0, 0] ++ putN n 2 ++ [UInt8.ofNat (wireP p).toNat, UInt8.ofNat p.hops.toNat] ++ addrP true p.f.sh p.f.sl ++ addrP p.f.t6 p.f.th p.f.tl
def writeP (p : Pk) (pay : List UInt8) : List UInt8 :=
  if p.f.s6 then head6 p (partW p pay).length ++ partW p pay
  else put2 (head4 p (partW p pay).length) 10 (sumP (head4 p (partW p pay).length)) ++ partW p pay
def subB (b : List UInt8) (i j : Nat) : List UInt8 := (b.drop i).take (j - i)
def numB (b : List UInt8) (i j : Nat) : Int := ((takeN (subB b i j) : Nat) : Int)
def bytB (b : List UInt8) (i : Nat) : Nat := (b.getD i 0).toNat
def noPk : Pk := ⟨⟨0, false, 0, 0, false, 0, 0, 0, 0⟩, 0, false, false, false, false, 0, 0, false, 0, none, 0, 0⟩
/-- What the first bytes tell. -/
def ok4 (b : List UInt8) : Bool := decide (20 ≤ b.length) && sumP (put2 (b.take 20) 10 0) == takeN (subB b 10 12) && takeN (subB b 2 4) == b.length && (bytB b 1 == 0 && bytB b 4 == 0 && bytB b 5 == 0 && bytB b 6 == 0 && bytB b 7 == 0)
def pk4 (b : List UInt8) : Pk := { noPk with hops := bytB b 8, f := ⟨bytB b 9, false, 0, numB b 12 16, false, 0, numB b 16 20, 0, 0⟩ }
def ok6 (b : List UInt8) : Bool := decide (40 ≤ b.length) && takeN (subB b 4 6) == b.length - 40 && (bytB b 1 == 0 && bytB b 2 == 0 && bytB b 3 == 0)
def prot6 (n : Nat) : Int := if n = 58 then 1 else if n = 1 then 0 else n
def pk6 (b : List UInt8) : Pk := { noPk with hops := bytB b 7, f := ⟨prot6 (bytB b 6), true, numB b 8 16, numB b 16 24, true, numB b 24 32, numB b 32 40, 0, 0⟩ }
/-- The fields of a part. -/
def fieldsP (p : Pk) (b : List UInt8) : Pk :=
  if p.f.proto = 1 then { p with reply := bytB b 0 == 0 || bytB b 0 == 129, id := numB b 4 6, seq := numB b 6 8 }
  else if p.f.proto = 6 then { p with f := { p.f with fp := numB b 0 2, tp := numB b 2 4 }, seq := numB b 4 8, ack := numB b 8 12, fin := bytB b 13 % 2 == 1, syn := bytB b 13 / 2 % 2 == 1, rst := bytB b 13 / 4 % 2 == 1, has := bytB b 13 / 16 % 2 == 1 }
  else { p with f := { p.f with fp := numB b 0 2, tp := numB b 2 4 } }
def partOk (p : Pk) (b : List UInt8) : Bool :=
  decide (leastP p.f.proto ≤ b.length) && !(p.f.proto == 6 && (fieldsP p b).ack != 0 && !(fieldsP p b).has) && partP (fieldsP p b) (b.drop (leastP p.f.proto)) == put2 b (atP p.f.proto) 0
def knownP (n : Int) : Bool := n == 6 || n == 17 || n == 1
/-- What is read behind the first bytes. -/
def restP (p : Pk) (b : List UInt8) : Option (Pk × List UInt8) :=
  if knownP p.f.proto && partOk p b && decide (b.length - leastP p.f.proto ≤ 1400) && takeN (subB b (atP p.f.proto) (atP p.f.proto + 2)) == partSumP (fieldsP p b) (partP (fieldsP p b) (b.drop (leastP p.f.proto))) then some (fieldsP p b, b.drop (leastP p.f.proto)) else none
def readP (b : List UInt8) : Option (Pk × List UInt8) :=
  if b.length < 20 then none
  else if bytB b 0 = 0x45 then (if ok4 b then restP (pk4 b) (b.drop 20) else none)
  else if bytB b 0 = 0x60 then (if ok6 b then restP (pk6 b) (b.drop 40) else none)
  else none
theorem takeN2 (a b : UInt8) : putN (takeN [a, b]) 2 = [a, b] := put_take [a, b]
theorem takeN4 (a b c d : UInt8) : putN (takeN [a, b, c, d]) 4 = [a, b, c, d] := put_take [a, b, c, d]
theorem takeN8 (a b c d e f g h : UInt8) : putN (takeN [a, b, c, d, e, f, g, h]) 8 = [a, b, c, d, e, f, g, h] := put_take [a, b, c, d, e, f, g, h]
theorem of_byte (c : UInt8) : UInt8.ofNat c.toNat = c := by simp
theorem byte_eq {c : UInt8} {n : Nat} (h : c.toNat = n) : c = UInt8.ofNat n := by rw [← h, of_byte]
theorem put2_put2 (b : List UInt8) (i n m : Nat) : put2 (put2 b i n) i m = put2 b i m := by
  unfold put2
  rw [List.set_comm _ _ (show i + 1 ≠ i by omega), List.set_set, List.set_set]
theorem put2_len (b : List UInt8) (i n : Nat) : (put2 b i n).length = b.length := by simp [put2]
theorem sub2 {b : List UInt8} {i : Nat} (h : i + 1 < b.length) : subB b i (i + 2) = [b[i]'(by omega), b[i + 1]] := by
  unfold subB
  rw [show i + 2 - i = 2 from by omega, List.drop_eq_getElem_cons (by omega : i < b.length), List.drop_eq_getElem_cons h]
  rfl
theorem put2_take {b : List UInt8} {i : Nat} (h : i + 1 < b.length) : put2 b i (takeN (subB b i (i + 2))) = b := by
  rw [sub2 h]
  have e := takeN2 (b[i]'(by omega)) b[i + 1]
  simp only [putN] at e
  injection e with e1 e2
  injection e2 with e2 _
  unfold put2
  rw [show 256 = 256 ^ 1 from rfl, e1]
  have e3 : UInt8.ofNat (takeN [b[i]'(by omega), b[i + 1]]) = b[i + 1] := by simpa using e2
  rw [e3]
  simp
theorem takeN_two (n : Nat) (h : n < 65536) : takeN [UInt8.ofNat (n / 256), UInt8.ofNat n] = n := by
  have := takeN_put_lt (n := n) (k := 2) (by omega)
  simpa [putN] using this
theorem sub_put2 {b : List UInt8} {i n : Nat} (h : i + 1 < b.length) (hn : n < 65536) : takeN (subB (put2 b i n) i (i + 2)) = n := by
  rw [sub2 (by rw [put2_len]; exact h)]
  have e0 : (put2 b i n)[i]'(by rw [put2_len]; omega) = UInt8.ofNat (n / 256) := by simp [put2]
  have e1 : (put2 b i n)[i + 1]'(by rw [put2_len]; omega) = UInt8.ofNat n := by simp [put2]
  rw [e0, e1, takeN_two n hn]
theorem sumP_lt (b : List UInt8) : sumP b < 65536 := by unfold sumP; omega
theorem partSumP_lt (p : Pk) (b : List UInt8) : partSumP p b < 65536 := by
  unfold partSumP
  split
  · omega
  · exact sumP_lt _
theorem restP_spec {p q : Pk} {b pay : List UInt8} (h : restP p b = some (q, pay)) : knownP p.f.proto = true ∧ q = fieldsP p b ∧ pay = b.drop (leastP p.f.proto) ∧ leastP p.f.proto ≤ b.length ∧ pay.length ≤ 1400 ∧
    (p.f.proto = 6 → q.ack ≠ 0 → q.has = true) ∧ partW q pay = b := by
  unfold restP at h
  split at h
  next hc =>
    injection h with h
    injection h with h1 h2
    simp only [Bool.and_eq_true, beq_iff_eq, decide_eq_true_eq, partOk, Bool.not_eq_true', Bool.and_eq_false_iff, bne_eq_false_iff_eq] at hc
    obtain ⟨⟨⟨hk, ⟨hl, ha⟩, hp⟩, hn⟩, hs⟩ := hc
    rw [h1, h2] at hp hs
    rw [h1] at ha
    refine ⟨hk, h1.symm, h2.symm, hl, by rw [← h2]; simpa using hn, ?_, ?_⟩
    · intro e1 e2
      rcases ha with (ha | ha) | ha
      · simp [e1] at ha
      · exact absurd ha e2
      · simpa using ha
    · have hpr : q.f.proto = p.f.proto := by rw [← h1]; unfold fieldsP; split <;> (try split) <;> rfl
      unfold partW
      rw [hpr, ← hs, hp, put2_put2]
      refine put2_take ?_
      have : atP p.f.proto + 1 < leastP p.f.proto := by
        unfold atP leastP
        split <;> (try split) <;> omega
      omega
  next => cases h
theorem prot_fields (p : Pk) (b : List UInt8) : (fieldsP p b).f.proto = p.f.proto ∧ (fieldsP p b).hops = p.hops ∧ (fieldsP p b).f.s6 = p.f.s6 ∧ (fieldsP p b).f.t6 = p.f.t6 ∧ (fieldsP p b).f.sh = p.f.sh ∧ (fieldsP p b).f.sl = p.f.sl ∧ (fieldsP p b).f.th = p.f.th ∧ (fieldsP p b).f.tl = p.f.tl := by
  unfold fieldsP
  split <;> (try split) <;> exact ⟨rfl, rfl, rfl, rfl, rfl, rfl, rfl, rfl⟩
theorem cons_of {b : List UInt8} {n : Nat} (h : n + 1 ≤ b.length) : ∃ c t, b = c :: t ∧ n ≤ t.length := by
  cases b with
  | nil => simp at h
  | cons c t => exact ⟨c, t, rfl, by simpa using h⟩
theorem write_read4 {b pay : List UInt8} {q : Pk} (h0 : bytB b 0 = 0x45) (h4 : ok4 b = true) (h : restP (pk4 b) (b.drop 20) = some (q, pay)) : writeP q pay = b := by
  obtain ⟨_, hq, _, _, _, _, hw⟩ := restP_spec h
  obtain ⟨f1, f2, f3, f4, f5, f6, f7, f8⟩ := prot_fields (pk4 b) (b.drop 20)
  rw [← hq] at f1 f2 f3 f4 f5 f6 f7 f8
  have hs : q.f.s6 = false := f3.trans rfl
  unfold writeP
  rw [hs, if_neg (by decide), hw]
  simp only [ok4, Bool.and_eq_true, decide_eq_true_eq, beq_iff_eq] at h4
  obtain ⟨⟨⟨hl, hsum⟩, hlen⟩, ⟨⟨⟨z1, z4⟩, z5⟩, z6⟩, z7⟩ := h4
  obtain ⟨b0, t0, rfl, l0⟩ := cons_of hl
  obtain ⟨b1, t1, rfl, l1⟩ := cons_of l0
  obtain ⟨b2, t2, rfl, l2⟩ := cons_of l1
  obtain ⟨b3, t3, rfl, l3⟩ := cons_of l2
  obtain ⟨b4, t4, rfl, l4⟩ := cons_of l3
  obtain ⟨b5, t5, rfl, l5⟩ := cons_of l4
  obtain ⟨b6, t6, rfl, l6⟩ := cons_of l5
  obtain ⟨b7, t7, rfl, l7⟩ := cons_of l6
  obtain ⟨b8, t8, rfl, l8⟩ := cons_of l7
  obtain ⟨b9, t9, rfl, l9⟩ := cons_of l8
  obtain ⟨b10, t10, rfl, l10⟩ := cons_of l9
  obtain ⟨b11, t11, rfl, l11⟩ := cons_of l10
  obtain ⟨b12, t12, rfl, l12⟩ := cons_of l11
  obtain ⟨b13, t13, rfl, l13⟩ := cons_of l12
  obtain ⟨b14, t14, rfl, l14⟩ := cons_of l13
  obtain ⟨b15, t15, rfl, l15⟩ := cons_of l14
  obtain ⟨b16, t16, rfl, l16⟩ := cons_of l15
  obtain ⟨b17, t17, rfl, l17⟩ := cons_of l16
  obtain ⟨b18, t18, rfl, l18⟩ := cons_of l17
  obtain ⟨b19, r, rfl, l19⟩ := cons_of l18
  have hd : head4 q ((b0 :: b1 :: b2 :: b3 :: b4 :: b5 :: b6 :: b7 :: b8 :: b9 :: b10 :: b11 :: b12 :: b13 :: b14 :: b15 :: b16 :: b17 :: b18 :: b19 :: r).drop 20).length = put2 ((b0 :: b1 :: b2 :: b3 :: b4 :: b5 :: b6 :: b7 :: b8 :: b9 :: b10 :: b11 :: b12 :: b13 :: b14 :: b15 :: b16 :: b17 :: b18 :: b19 :: r).take 20) 10 0 := by
    unfold head4
    have e2 : putN (20 + ((b0 :: b1 :: b2 :: b3 :: b4 :: b5 :: b6 :: b7 :: b8 :: b9 :: b10 :: b11 :: b12 :: b13 :: b14 :: b15 :: b16 :: b17 :: b18 :: b19 :: r).drop 20).length) 2 = [b2, b3] := by
      have e := takeN2 b2 b3
      rw [show takeN [b2, b3] = 20 + ((b0 :: b1 :: b2 :: b3 :: b4 :: b5 :: b6 :: b7 :: b8 :: b9 :: b10 :: b11 :: b12 :: b13 :: b14 :: b15 :: b16 :: b17 :: b18 :: b19 :: r).drop 20).length from ?_] at e
      · exact e
      · have : takeN [b2, b3] = _ := hlen
        rw [this]; simp; omega
    rw [e2, f2, f1, f4, f6, f8]
    have a1 : addrP false q.f.sh ((pk4 (b0 :: b1 :: b2 :: b3 :: b4 :: b5 :: b6 :: b7 :: b8 :: b9 :: b10 :: b11 :: b12 :: b13 :: b14 :: b15 :: b16 :: b17 :: b18 :: b19 :: r)).f.sl) = [b12, b13, b14, b15] := by
      have e := takeN4 b12 b13 b14 b15
      exact e
    have a2 : addrP (pk4 (b0 :: b1 :: b2 :: b3 :: b4 :: b5 :: b6 :: b7 :: b8 :: b9 :: b10 :: b11 :: b12 :: b13 :: b14 :: b15 :: b16 :: b17 :: b18 :: b19 :: r)).f.t6 q.f.th ((pk4 (b0 :: b1 :: b2 :: b3 :: b4 :: b5 :: b6 :: b7 :: b8 :: b9 :: b10 :: b11 :: b12 :: b13 :: b14 :: b15 :: b16 :: b17 :: b18 :: b19 :: r)).f.tl) = [b16, b17, b18, b19] := takeN4 b16 b17 b18 b19
    rw [a1, a2]
    have y0 : b0 = 0x45 := byte_eq h0
    have y1 : b1 = 0 := byte_eq z1
    have y4 : b4 = 0 := byte_eq z4
    have y5 : b5 = 0 := byte_eq z5
    have y6 : b6 = 0 := byte_eq z6
    have y7 : b7 = 0 := byte_eq z7
    subst y0 y1 y4 y5 y6 y7
    have y8 : UInt8.ofNat ((bytB (0x45 :: 0 :: b2 :: b3 :: 0 :: 0 :: 0 :: 0 :: b8 :: b9 :: b10 :: b11 :: b12 :: b13 :: b14 :: b15 :: b16 :: b17 :: b18 :: b19 :: r) 8 : Nat) : Int).toNat = b8 := of_byte b8
    have y9 : UInt8.ofNat ((bytB (0x45 :: 0 :: b2 :: b3 :: 0 :: 0 :: 0 :: 0 :: b8 :: b9 :: b10 :: b11 :: b12 :: b13 :: b14 :: b15 :: b16 :: b17 :: b18 :: b19 :: r) 9 : Nat) : Int).toNat = b9 := of_byte b9
    show [0x45, 0] ++ [b2, b3] ++ [0, 0, 0, 0, UInt8.ofNat ((bytB _ 8 : Nat) : Int).toNat, UInt8.ofNat ((bytB _ 9 : Nat) : Int).toNat, 0, 0] ++ _ ++ _ = _
    rw [y8, y9]
    rfl
  rw [hd, hsum, put2_put2]
  have := put2_take (b := (b0 :: b1 :: b2 :: b3 :: b4 :: b5 :: b6 :: b7 :: b8 :: b9 :: b10 :: b11 :: b12 :: b13 :: b14 :: b15 :: b16 :: b17 :: b18 :: b19 :: r).take 20) (i := 10) (by simp)
  rw [show subB (b0 :: b1 :: b2 :: b3 :: b4 :: b5 :: b6 :: b7 :: b8 :: b9 :: b10 :: b11 :: b12 :: b13 :: b14 :: b15 :: b16 :: b17 :: b18 :: b19 :: r) 10 12 = subB ((b0 :: b1 :: b2 :: b3 :: b4 :: b5 :: b6 :: b7 :: b8 :: b9 :: b10 :: b11 :: b12 :: b13 :: b14 :: b15 :: b16 :: b17 :: b18 :: b19 :: r).take 20) 10 (10 + 2) from rfl, this]
  exact List.take_append_drop 20 _
set_option maxRecDepth 20000 in
set_option maxHeartbeats 2000000 in
theorem write_read6 {b pay : List UInt8} {q : Pk} (h0 : bytB b 0 = 0x60) (h4 : ok6 b = true) (h : restP (pk6 b) (b.drop 40) = some (q, pay)) : writeP q pay = b := by
  obtain ⟨hk, hq, _, _, _, _, hw⟩ := restP_spec h
  obtain ⟨f1, f2, f3, f4, f5, f6, f7, f8⟩ := prot_fields (pk6 b) (b.drop 40)
  rw [← hq] at f1 f2 f3 f4 f5 f6 f7 f8
  have hs : q.f.s6 = true := f3.trans rfl
  unfold writeP
  rw [hs, if_pos rfl, hw]
  simp only [ok6, Bool.and_eq_true, decide_eq_true_eq, beq_iff_eq] at h4
  obtain ⟨⟨hl, hlen⟩, ⟨z1, z2⟩, z3⟩ := h4
  obtain ⟨b0, t0, rfl, l0⟩ := cons_of hl
  obtain ⟨b1, t1, rfl, l1⟩ := cons_of l0
  obtain ⟨b2, t2, rfl, l2⟩ := cons_of l1
  obtain ⟨b3, t3, rfl, l3⟩ := cons_of l2
  obtain ⟨b4, t4, rfl, l4⟩ := cons_of l3
  obtain ⟨b5, t5, rfl, l5⟩ := cons_of l4
  obtain ⟨b6, t6, rfl, l6⟩ := cons_of l5
  obtain ⟨b7, t7, rfl, l7⟩ := cons_of l6
  obtain ⟨b8, t8, rfl, l8⟩ := cons_of l7
  obtain ⟨b9, t9, rfl, l9⟩ := cons_of l8
  obtain ⟨b10, t10, rfl, l10⟩ := cons_of l9
  obtain ⟨b11, t11, rfl, l11⟩ := cons_of l10
  obtain ⟨b12, t12, rfl, l12⟩ := cons_of l11
  obtain ⟨b13, t13, rfl, l13⟩ := cons_of l12
  obtain ⟨b14, t14, rfl, l14⟩ := cons_of l13
  obtain ⟨b15, t15, rfl, l15⟩ := cons_of l14
  obtain ⟨b16, t16, rfl, l16⟩ := cons_of l15
  obtain ⟨b17, t17, rfl, l17⟩ := cons_of l16
  obtain ⟨b18, t18, rfl, l18⟩ := cons_of l17
  obtain ⟨b19, t19, rfl, l19⟩ := cons_of l18
  obtain ⟨b20, t20, rfl, l20⟩ := cons_of l19
  obtain ⟨b21, t21, rfl, l21⟩ := cons_of l20
  obtain ⟨b22, t22, rfl, l22⟩ := cons_of l21
  obtain ⟨b23, t23, rfl, l23⟩ := cons_of l22
  obtain ⟨b24, t24, rfl, l24⟩ := cons_of l23
  obtain ⟨b25, t25, rfl, l25⟩ := cons_of l24
  obtain ⟨b26, t26, rfl, l26⟩ := cons_of l25
  obtain ⟨b27, t27, rfl, l27⟩ := cons_of l26
  obtain ⟨b28, t28, rfl, l28⟩ := cons_of l27
  obtain ⟨b29, t29, rfl, l29⟩ := cons_of l28
  obtain ⟨b30, t30, rfl, l30⟩ := cons_of l29
  obtain ⟨b31, t31, rfl, l31⟩ := cons_of l30
  obtain ⟨b32, t32, rfl, l32⟩ := cons_of l31
  obtain ⟨b33, t33, rfl, l33⟩ := cons_of l32
  obtain ⟨b34, t34, rfl, l34⟩ := cons_of l33
  obtain ⟨b35, t35, rfl, l35⟩ := cons_of l34
  obtain ⟨b36, t36, rfl, l36⟩ := cons_of l35
  obtain ⟨b37, t37, rfl, l37⟩ := cons_of l36
  obtain ⟨b38, t38, rfl, l38⟩ := cons_of l37
  obtain ⟨b39, r, rfl, l39⟩ := cons_of l38
  have e2 : putN ((b0 :: b1 :: b2 :: b3 :: b4 :: b5 :: b6 :: b7 :: b8 :: b9 :: b10 :: b11 :: b12 :: b13 :: b14 :: b15 :: b16 :: b17 :: b18 :: b19 :: b20 :: b21 :: b22 :: b23 :: b24 :: b25 :: b26 :: b27 :: b28 :: b29 :: b30 :: b31 :: b32 :: b33 :: b34 :: b35 :: b36 :: b37 :: b38 :: b39 :: r).drop 40).length 2 = [b4, b5] := by
    have e := takeN2 b4 b5
    rw [show takeN [b4, b5] = ((b0 :: b1 :: b2 :: b3 :: b4 :: b5 :: b6 :: b7 :: b8 :: b9 :: b10 :: b11 :: b12 :: b13 :: b14 :: b15 :: b16 :: b17 :: b18 :: b19 :: b20 :: b21 :: b22 :: b23 :: b24 :: b25 :: b26 :: b27 :: b28 :: b29 :: b30 :: b31 :: b32 :: b33 :: b34 :: b35 :: b36 :: b37 :: b38 :: b39 :: r).drop 40).length from ?_] at e
    · exact e
    · have : takeN [b4, b5] = _ := hlen
      rw [this]; simp
  unfold head6
  rw [e2, f2, f4, f5, f6, f7, f8]
  have a1 : addrP true (pk6 (b0 :: b1 :: b2 :: b3 :: b4 :: b5 :: b6 :: b7 :: b8 :: b9 :: b10 :: b11 :: b12 :: b13 :: b14 :: b15 :: b16 :: b17 :: b18 :: b19 :: b20 :: b21 :: b22 :: b23 :: b24 :: b25 :: b26 :: b27 :: b28 :: b29 :: b30 :: b31 :: b32 :: b33 :: b34 :: b35 :: b36 :: b37 :: b38 :: b39 :: r)).f.sh (pk6 (b0 :: b1 :: b2 :: b3 :: b4 :: b5 :: b6 :: b7 :: b8 :: b9 :: b10 :: b11 :: b12 :: b13 :: b14 :: b15 :: b16 :: b17 :: b18 :: b19 :: b20 :: b21 :: b22 :: b23 :: b24 :: b25 :: b26 :: b27 :: b28 :: b29 :: b30 :: b31 :: b32 :: b33 :: b34 :: b35 :: b36 :: b37 :: b38 :: b39 :: r)).f.sl = [b8, b9, b10, b11, b12, b13, b14, b15] ++ [b16, b17, b18, b19, b20, b21, b22, b23] := by
    show putN (takeN [b8, b9, b10, b11, b12, b13, b14, b15]) 8 ++ putN (takeN [b16, b17, b18, b19, b20, b21, b22, b23]) 8 = _
    rw [takeN8, takeN8]
  have a2 : addrP (pk6 (b0 :: b1 :: b2 :: b3 :: b4 :: b5 :: b6 :: b7 :: b8 :: b9 :: b10 :: b11 :: b12 :: b13 :: b14 :: b15 :: b16 :: b17 :: b18 :: b19 :: b20 :: b21 :: b22 :: b23 :: b24 :: b25 :: b26 :: b27 :: b28 :: b29 :: b30 :: b31 :: b32 :: b33 :: b34 :: b35 :: b36 :: b37 :: b38 :: b39 :: r)).f.t6 (pk6 (b0 :: b1 :: b2 :: b3 :: b4 :: b5 :: b6 :: b7 :: b8 :: b9 :: b10 :: b11 :: b12 :: b13 :: b14 :: b15 :: b16 :: b17 :: b18 :: b19 :: b20 :: b21 :: b22 :: b23 :: b24 :: b25 :: b26 :: b27 :: b28 :: b29 :: b30 :: b31 :: b32 :: b33 :: b34 :: b35 :: b36 :: b37 :: b38 :: b39 :: r)).f.th (pk6 (b0 :: b1 :: b2 :: b3 :: b4 :: b5 :: b6 :: b7 :: b8 :: b9 :: b10 :: b11 :: b12 :: b13 :: b14 :: b15 :: b16 :: b17 :: b18 :: b19 :: b20 :: b21 :: b22 :: b23 :: b24 :: b25 :: b26 :: b27 :: b28 :: b29 :: b30 :: b31 :: b32 :: b33 :: b34 :: b35 :: b36 :: b37 :: b38 :: b39 :: r)).f.tl = [b24, b25, b26, b27, b28, b29, b30, b31] ++ [b32, b33, b34, b35, b36, b37, b38, b39] := by
    show putN (takeN [b24, b25, b26, b27, b28, b29, b30, b31]) 8 ++ putN (takeN [b32, b33, b34, b35, b36, b37, b38, b39]) 8 = _
    rw [takeN8, takeN8]
  rw [a1, a2]
  have hwire : wireP q = ((b6.toNat : Nat) : Int) := by
    have hp : q.f.proto = prot6 b6.toNat := f1
    have hk2 : knownP (prot6 b6.toNat) = true := hk
    unfold wireP
    rw [hs, hp]
    unfold prot6 at hk2 ⊢
    split
    next e => simp [e]
    next e =>
      rw [if_neg e] at hk2
      split
      next e1 => rw [if_pos e1] at hk2; exact absurd hk2 (by decide)
      next e1 =>
        have : (((b6.toNat : Nat) : Int) == 1) = false := by
          rw [beq_eq_false_iff_ne]; omega
        rw [this]; rfl
  rw [hwire]
  have y0 : b0 = 0x60 := byte_eq h0
  have y1 : b1 = 0 := byte_eq z1
  have y2 : b2 = 0 := byte_eq z2
  have y3 : b3 = 0 := byte_eq z3
  subst y0 y1 y2 y3
  have y6 : UInt8.ofNat ((b6.toNat : Nat) : Int).toNat = b6 := of_byte b6
  have y7 : UInt8.ofNat (pk6 (0x60 :: 0 :: 0 :: 0 :: b4 :: b5 :: b6 :: b7 :: b8 :: b9 :: b10 :: b11 :: b12 :: b13 :: b14 :: b15 :: b16 :: b17 :: b18 :: b19 :: b20 :: b21 :: b22 :: b23 :: b24 :: b25 :: b26 :: b27 :: b28 :: b29 :: b30 :: b31 :: b32 :: b33 :: b34 :: b35 :: b36 :: b37 :: b38 :: b39 :: r)).hops.toNat = b7 := of_byte b7
  rw [y6, y7]
  rfl
theorem readP_spec {b pay : List UInt8} {q : Pk} (h : readP b = some (q, pay)) : writeP q pay = b := by
  unfold readP at h
  split at h
  · cases h
  split at h
  next h0 =>
    split at h
    next h4 => exact write_read4 h0 h4 h
    next => cases h
  next =>
    split at h
    next h0 =>
      split at h
      next h4 => exact write_read6 h0 h4 h
      next => cases h
    next => cases h
theorem num_lt (b : List UInt8) (i j : Nat) : 0 ≤ numB b i j ∧ numB b i j < ((256 ^ (j - i) : Nat) : Int) := by
  unfold numB
  have h := takeN_lt (subB b i j)
  have h2 : (subB b i j).length ≤ j - i := by unfold subB; rw [List.length_take]; omega
  have h3 : 256 ^ (subB b i j).length ≤ 256 ^ (j - i) := Nat.pow_le_pow_right (by decide) h2
  omega
theorem byt_lt (b : List UInt8) (i : Nat) : bytB b i < 256 := UInt8.toNat_lt _
theorem num2 (b : List UInt8) (i : Nat) : 0 ≤ numB b i (i + 2) ∧ numB b i (i + 2) ≤ 65535 := by
  have := num_lt b i (i + 2)
  rw [show i + 2 - i = 2 from by omega] at this
  omega
theorem num4 (b : List UInt8) (i : Nat) : 0 ≤ numB b i (i + 4) ∧ numB b i (i + 4) ≤ 4294967295 := by
  have := num_lt b i (i + 4)
  rw [show i + 4 - i = 4 from by omega] at this
  omega
theorem num8 (b : List UInt8) (i : Nat) : 0 ≤ numB b i (i + 8) ∧ numB b i (i + 8) ≤ 18446744073709551615 := by
  have := num_lt b i (i + 8)
  rw [show i + 8 - i = 8 from by omega] at this
  omega
structure Bare (p : Pk) : Prop where
  six : p.f.t6 = p.f.s6
  src : AdF p.f.s6 p.f.sh p.f.sl
  dst : AdF p.f.t6 p.f.th p.f.tl
  fp : p.f.fp = 0
  tp : p.f.tp = 0
  hops : 0 ≤ p.hops ∧ p.hops ≤ 255
  syn : p.syn = false
  fin : p.fin = false
  rst : p.rst = false
  has : p.has = false
  seq : p.seq = 0
  ack : p.ack = 0
  reply : p.reply = false
  id : p.id = 0
  pn : p.pn = 0
theorem bare4 (b : List UInt8) : Bare (pk4 b) := by
  have h1 : 0 ≤ numB b 12 16 ∧ numB b 12 16 ≤ 4294967295 := num4 b 12
  have h2 : 0 ≤ numB b 16 20 ∧ numB b 16 20 ≤ 4294967295 := num4 b 16
  have h3 := byt_lt b 8
  exact ⟨rfl, ⟨Int.le_refl _, (by decide : (0 : Int) ≤ 18446744073709551615), h1.1, (by omega : numB b 12 16 ≤ 18446744073709551615), fun _ => ⟨rfl, (by omega : numB b 12 16 < 4294967296)⟩⟩, ⟨Int.le_refl _, (by decide : (0 : Int) ≤ 18446744073709551615), h2.1, (by omega : numB b 16 20 ≤ 18446744073709551615), fun _ => ⟨rfl, (by omega : numB b 16 20 < 4294967296)⟩⟩, rfl, rfl, ⟨by show (0 : Int) ≤ ((bytB b 8 : Nat) : Int); omega, by show ((bytB b 8 : Nat) : Int) ≤ 255; omega⟩, rfl, rfl, rfl, rfl, rfl, rfl, rfl, rfl, rfl⟩
theorem bare6 (b : List UInt8) : Bare (pk6 b) := by
  have h3 := byt_lt b 7
  exact ⟨rfl, ⟨(num8 b 8).1, (num8 b 8).2, (num8 b 16).1, (num8 b 16).2, fun h => by cases h⟩, ⟨(num8 b 24).1, (num8 b 24).2, (num8 b 32).1, (num8 b 32).2, fun h => by cases h⟩, rfl, rfl, ⟨by show (0 : Int) ≤ ((bytB b 7 : Nat) : Int); omega, by show ((bytB b 7 : Nat) : Int) ≤ 255; omega⟩, rfl, rfl, rfl, rfl, rfl, rfl, rfl, rfl, rfl⟩
theorem known_or {n : Int} (h : knownP n = true) : n = 6 ∨ n = 17 ∨ n = 1 := by
  simp only [knownP, Bool.or_eq_true, beq_iff_eq] at h
  omega
theorem fields_ok {p : Pk} {b : List UInt8} (hb : Bare p) (hk : knownP p.f.proto = true) (ha : p.f.proto = 6 → (fieldsP p b).ack ≠ 0 → (fieldsP p b).has = true) : PkOk (fieldsP p b) := by
  obtain ⟨⟨proto, s6, sh, sl, t6, th, tl, fp, tp⟩, hops, syn, fin, rst, has, seq, ack, reply, id, pA, pn, pc⟩ := p
  obtain ⟨g1, g2, g3, g4, g5, g6, g7, g8, g9, g10, g11, g12, g13, g14, g15⟩ := hb
  dsimp only at *
  have a1 : 0 ≤ numB b 0 2 ∧ numB b 0 2 ≤ 65535 := num2 b 0
  have a2 : 0 ≤ numB b 2 4 ∧ numB b 2 4 ≤ 65535 := num2 b 2
  have a3 : 0 ≤ numB b 4 6 ∧ numB b 4 6 ≤ 65535 := num2 b 4
  have a4 : 0 ≤ numB b 6 8 ∧ numB b 6 8 ≤ 65535 := num2 b 6
  have a5 : 0 ≤ numB b 4 8 ∧ numB b 4 8 ≤ 4294967295 := num4 b 4
  have a6 : 0 ≤ numB b 8 12 ∧ numB b 8 12 ≤ 4294967295 := num4 b 8
  have z1 : (0 : Int) ≤ 0 ∧ (0 : Int) ≤ 65535 := by decide
  have z2 : (0 : Int) ≤ 0 ∧ (0 : Int) ≤ 4294967295 := by decide
  have zp : 0 ≤ 1400 := by decide
  subst g4 g5 g7 g8 g9 g10 g11 g12 g13 g14 g15
  rcases known_or hk with rfl | rfl | rfl
  · have e : fieldsP ⟨⟨6, s6, sh, sl, t6, th, tl, 0, 0⟩, hops, false, false, false, false, 0, 0, false, 0, pA, 0, pc⟩ b = ⟨⟨6, s6, sh, sl, t6, th, tl, numB b 0 2, numB b 2 4⟩, hops, bytB b 13 / 2 % 2 == 1, bytB b 13 % 2 == 1, bytB b 13 / 4 % 2 == 1, bytB b 13 / 16 % 2 == 1, numB b 4 8, numB b 8 12, false, 0, pA, 0, pc⟩ := rfl
    rw [e] at ha ⊢
    exact ⟨⟨g1, g2, g3, a1, a2⟩, .inl rfl, g6, a5, a6, z1, fun (h : (6 : Int) = 1) => absurd h (by decide), fun (h : (6 : Int) = 17) => absurd h (by decide), fun h => absurd rfl h, fun _ => ⟨rfl, rfl⟩, ha rfl, zp⟩
  · have e : fieldsP ⟨⟨17, s6, sh, sl, t6, th, tl, 0, 0⟩, hops, false, false, false, false, 0, 0, false, 0, pA, 0, pc⟩ b = ⟨⟨17, s6, sh, sl, t6, th, tl, numB b 0 2, numB b 2 4⟩, hops, false, false, false, false, 0, 0, false, 0, pA, 0, pc⟩ := rfl
    rw [e] at ha ⊢
    exact ⟨⟨g1, g2, g3, a1, a2⟩, .inr (.inl rfl), g6, z2, z2, z1, fun (h : (17 : Int) = 1) => absurd h (by decide), fun _ => rfl, fun _ => ⟨rfl, rfl, rfl, rfl, rfl⟩, fun _ => ⟨rfl, rfl⟩, fun h => absurd rfl h, zp⟩
  · have e : fieldsP ⟨⟨1, s6, sh, sl, t6, th, tl, 0, 0⟩, hops, false, false, false, false, 0, 0, false, 0, pA, 0, pc⟩ b = ⟨⟨1, s6, sh, sl, t6, th, tl, 0, 0⟩, hops, false, false, false, false, numB b 6 8, 0, bytB b 0 == 0 || bytB b 0 == 129, numB b 4 6, pA, 0, pc⟩ := rfl
    rw [e] at ha ⊢
    exact ⟨⟨g1, g2, g3, z1, z1⟩, .inr (.inr rfl), g6, ⟨a4.1, (by omega : numB b 6 8 ≤ 4294967295)⟩, z2, a3, fun _ => ⟨rfl, rfl, a4.2⟩, fun (h : (1 : Int) = 17) => absurd h (by decide), fun _ => ⟨rfl, rfl, rfl, rfl, rfl⟩, fun h => absurd rfl h, fun h => absurd rfl h, zp⟩
theorem rest_ok {p q : Pk} {b pay : List UInt8} (hb : Bare p) (h : restP p b = some (q, pay)) : PkOk q ∧ pay.length ≤ 1400 := by
  obtain ⟨hk, hq, _, _, hn, ha, _⟩ := restP_spec h
  subst hq
  exact ⟨fields_ok hb hk ha, hn⟩
theorem readP_ok {b pay : List UInt8} {q : Pk} (h : readP b = some (q, pay)) : PkOk q ∧ pay.length ≤ 1400 := by
  unfold readP at h
  split at h
  · cases h
  split at h
  next h0 =>
    split at h
    next h4 => exact rest_ok (bare4 b) h
    next => cases h
  next =>
    split at h
    next h0 =>
      split at h
      next h4 => exact rest_ok (bare6 b) h
      next => cases h
    next => cases h
theorem takeN_four (n : Nat) (h : n < 4294967296) : takeN [UInt8.ofNat (n / 16777216), UInt8.ofNat (n / 65536), UInt8.ofNat (n / 256), UInt8.ofNat n] = n := by
  have := takeN_put_lt (n := n) (k := 4) (by omega)
  simpa [putN] using this
theorem takeN_eight (n : Nat) (h : n < 18446744073709551616) : takeN (putN n 8) = n := takeN_put_lt (by omega)
def bareP (p : Pk) : Pk := { p with pA := none, pn := 0, pc := 0 }
def baseP (p : Pk) : Pk := { noPk with hops := p.hops, f := { p.f with fp := 0, tp := 0 } }
theorem flags_bits (a b c d : Bool) : ((UInt8.ofNat ((if a then 1 else 0) + (if b then 2 else 0) + (if c then 4 else 0) + (if d then 16 else 0))).toNat % 2 == 1) = a ∧
    ((UInt8.ofNat ((if a then 1 else 0) + (if b then 2 else 0) + (if c then 4 else 0) + (if d then 16 else 0))).toNat / 2 % 2 == 1) = b ∧
    ((UInt8.ofNat ((if a then 1 else 0) + (if b then 2 else 0) + (if c then 4 else 0) + (if d then 16 else 0))).toNat / 4 % 2 == 1) = c ∧
    ((UInt8.ofNat ((if a then 1 else 0) + (if b then 2 else 0) + (if c then 4 else 0) + (if d then 16 else 0))).toNat / 16 % 2 == 1) = d := by
  cases a <;> cases b <;> cases c <;> cases d <;> decide
theorem cast_toNat {n : Int} (h : 0 ≤ n) : ((n.toNat : Nat) : Int) = n := by omega
theorem rest_write (p : Pk) (pay : List UInt8) (h : PkOk p) (hn : pay.length ≤ 1400) : restP (baseP p) (partW p pay) = some (bareP p, pay) := by
  have hat : atP p.f.proto + 1 < (partP p pay).length := by
    rcases h.known with e | e | e <;> simp [partP, frontP, atP, e, putN_length] <;> omega
  have hz : put2 (partW p pay) (atP p.f.proto) 0 = partP p pay := by
    unfold partW
    rw [put2_put2]
    rcases h.known with e | e | e <;> simp [partP, frontP, atP, e, putN, put2]
  have hl : (partW p pay).length = leastP p.f.proto + pay.length := by
    unfold partW
    rw [put2_len]
    rcases h.known with e | e | e <;> simp [partP, frontP, leastP, e, putN_length] <;> omega
  have hd : (partW p pay).drop (leastP p.f.proto) = pay := by
    rcases h.known with e | e | e <;> simp [partW, partP, frontP, atP, leastP, e, putN, put2]
  have hs : takeN (subB (partW p pay) (atP p.f.proto) (atP p.f.proto + 2)) = partSumP p (partP p pay) := sub_put2 hat (partSumP_lt _ _)
  have hf : fieldsP (baseP p) (partW p pay) = bareP p := by
    obtain ⟨⟨proto, s6, sh, sl, t6, th, tl, fp, tp⟩, hops, syn, fin, rst, has, seq, ack, reply, id, pA, pn, pc⟩ := p
    obtain ⟨⟨_, _, _, g1, g2⟩, hk, _, g3, g4, g5, g6, g7, g8, g9, _, _⟩ := h
    dsimp only at *
    rcases hk with rfl | rfl | rfl
    · obtain ⟨rfl, rfl⟩ := g9 (by decide)
      have e : partW ⟨⟨6, s6, sh, sl, t6, th, tl, fp, tp⟩, hops, syn, fin, rst, has, seq, ack, false, 0, pA, pn, pc⟩ pay =
        [UInt8.ofNat (fp.toNat / 256), UInt8.ofNat fp.toNat, UInt8.ofNat (tp.toNat / 256), UInt8.ofNat tp.toNat, UInt8.ofNat (seq.toNat / 16777216), UInt8.ofNat (seq.toNat / 65536), UInt8.ofNat (seq.toNat / 256), UInt8.ofNat seq.toNat, UInt8.ofNat (ack.toNat / 16777216), UInt8.ofNat (ack.toNat / 65536), UInt8.ofNat (ack.toNat / 256), UInt8.ofNat ack.toNat, 0x50, flagsP ⟨⟨6, s6, sh, sl, t6, th, tl, fp, tp⟩, hops, syn, fin, rst, has, seq, ack, false, 0, pA, pn, pc⟩] ++ ((partW ⟨⟨6, s6, sh, sl, t6, th, tl, fp, tp⟩, hops, syn, fin, rst, has, seq, ack, false, 0, pA, pn, pc⟩ pay).drop 14) := by
        simp [partW, partP, frontP, atP, putN, put2]
      rw [e]
      obtain ⟨b1, b2, b3, b4⟩ := flags_bits fin syn rst has
      show Pk.mk ⟨6, s6, sh, sl, t6, th, tl, ((takeN [_, _] : Nat) : Int), ((takeN [_, _] : Nat) : Int)⟩ hops (_ == 1) (_ == 1) (_ == 1) (_ == 1) ((takeN [_, _, _, _] : Nat) : Int) ((takeN [_, _, _, _] : Nat) : Int) false 0 none 0 0 = _
      rw [takeN_two _ (by omega), takeN_two _ (by omega), takeN_four _ (by omega), takeN_four _ (by omega), cast_toNat g1.1, cast_toNat g2.1, cast_toNat g3.1, cast_toNat g4.1]
      show Pk.mk _ hops ((flagsP _).toNat / 2 % 2 == 1) ((flagsP _).toNat % 2 == 1) ((flagsP _).toNat / 4 % 2 == 1) ((flagsP _).toNat / 16 % 2 == 1) _ _ _ _ _ _ _ = _
      unfold flagsP
      dsimp only
      rw [b1, b2, b3, b4]
      rfl
    · obtain ⟨rfl, rfl⟩ := g9 (by decide)
      obtain ⟨rfl, rfl, rfl, rfl, rfl⟩ := g8 (by decide)
      obtain rfl := g7 rfl
      have e : partW ⟨⟨17, s6, sh, sl, t6, th, tl, fp, tp⟩, hops, false, false, false, false, 0, 0, false, 0, pA, pn, pc⟩ pay =
        [UInt8.ofNat (fp.toNat / 256), UInt8.ofNat fp.toNat, UInt8.ofNat (tp.toNat / 256), UInt8.ofNat tp.toNat] ++ ((partW ⟨⟨17, s6, sh, sl, t6, th, tl, fp, tp⟩, hops, false, false, false, false, 0, 0, false, 0, pA, pn, pc⟩ pay).drop 4) := by
        simp [partW, partP, frontP, atP, putN, put2]
      rw [e]
      show Pk.mk ⟨17, s6, sh, sl, t6, th, tl, ((takeN [_, _] : Nat) : Int), ((takeN [_, _] : Nat) : Int)⟩ hops false false false false 0 0 false 0 none 0 0 = _
      rw [takeN_two _ (by omega), takeN_two _ (by omega), cast_toNat g1.1, cast_toNat g2.1]
      rfl
    · obtain ⟨rfl, rfl, rfl, rfl, rfl⟩ := g8 (by decide)
      obtain ⟨rfl, rfl, g0⟩ := g6 rfl
      have e : ∃ r x y z, partW ⟨⟨1, s6, sh, sl, t6, th, tl, 0, 0⟩, hops, false, false, false, false, seq, 0, reply, id, pA, pn, pc⟩ pay =
        [kindP ⟨⟨1, s6, sh, sl, t6, th, tl, 0, 0⟩, hops, false, false, false, false, seq, 0, reply, id, pA, pn, pc⟩, x, y, z, UInt8.ofNat (id.toNat / 256), UInt8.ofNat id.toNat, UInt8.ofNat (seq.toNat / 256), UInt8.ofNat seq.toNat] ++ r := by
        refine ⟨pay, 0, UInt8.ofNat (partSumP ⟨⟨1, s6, sh, sl, t6, th, tl, 0, 0⟩, hops, false, false, false, false, seq, 0, reply, id, pA, pn, pc⟩ (partP ⟨⟨1, s6, sh, sl, t6, th, tl, 0, 0⟩, hops, false, false, false, false, seq, 0, reply, id, pA, pn, pc⟩ pay) / 256), UInt8.ofNat (partSumP ⟨⟨1, s6, sh, sl, t6, th, tl, 0, 0⟩, hops, false, false, false, false, seq, 0, reply, id, pA, pn, pc⟩ (partP ⟨⟨1, s6, sh, sl, t6, th, tl, 0, 0⟩, hops, false, false, false, false, seq, 0, reply, id, pA, pn, pc⟩ pay)), ?_⟩
        simp [partW, partP, frontP, atP, putN, put2]
      obtain ⟨r, x, y, z, e⟩ := e
      rw [e]
      show Pk.mk ⟨1, s6, sh, sl, t6, th, tl, 0, 0⟩ hops false false false false ((takeN [_, _] : Nat) : Int) 0 ((kindP _).toNat == 0 || (kindP _).toNat == 129) ((takeN [_, _] : Nat) : Int) none 0 0 = _
      rw [takeN_two _ (by omega), takeN_two _ (by omega), cast_toNat g5.1, cast_toNat g3.1]
      unfold kindP
      cases s6 <;> cases reply <;> rfl
  have hp : (baseP p).f.proto = p.f.proto := rfl
  have hk : knownP p.f.proto = true := by rcases h.known with e | e | e <;> rw [e] <;> rfl
  have hps : ∀ x, partSumP (bareP p) x = partSumP p x := fun x => rfl
  have hpp : partP (bareP p) pay = partP p pay := rfl
  unfold restP
  rw [hp, if_pos ?_, hf, hd]
  unfold partOk
  rw [hp, hk, hf, hd, hz, hpp, hs, hps, hl]
  have ha : ((bareP p).ack != 0 && !(bareP p).has) = false := by
    by_cases e : p.ack = 0
    · have : (bareP p).ack = 0 := e
      simp [this]
    · have : (bareP p).has = true := h.acked e
      simp [this]
  rw [Bool.and_assoc (p.f.proto == 6), ha]
  simp
  omega
theorem partW_len (p : Pk) (pay : List UInt8) (h : PkOk p) (hn : pay.length ≤ 1400) : (partW p pay).length ≤ 1420 := by
  unfold partW
  rw [put2_len]
  rcases h.known with e | e | e <;> simp [partP, frontP, e, putN_length] <;> omega
theorem byte_int {n : Int} (h0 : 0 ≤ n) (h1 : n ≤ 255) : (((UInt8.ofNat n.toNat).toNat : Nat) : Int) = n := by
  have : (UInt8.ofNat n.toNat).toNat = n.toNat % 256 := by simp
  rw [this]; omega
set_option maxRecDepth 20000 in
set_option maxHeartbeats 2000000 in
theorem read_head4 (p : Pk) (part : List UInt8) (h : PkOk p) (hl : part.length ≤ 1420) (hs : p.f.s6 = false) : readP (put2 (head4 p part.length) 10 (sumP (head4 p part.length)) ++ part) = restP (baseP p) part := by
  have ht : p.f.t6 = false := h.fl.six.trans hs
  have e : head4 p part.length = [0x45, 0, UInt8.ofNat ((20 + part.length) / 256), UInt8.ofNat (20 + part.length), 0, 0, 0, 0, UInt8.ofNat p.hops.toNat, UInt8.ofNat p.f.proto.toNat, 0, 0,
      UInt8.ofNat (p.f.sl.toNat / 16777216), UInt8.ofNat (p.f.sl.toNat / 65536), UInt8.ofNat (p.f.sl.toNat / 256), UInt8.ofNat p.f.sl.toNat, UInt8.ofNat (p.f.tl.toNat / 16777216), UInt8.ofNat (p.f.tl.toNat / 65536), UInt8.ofNat (p.f.tl.toNat / 256), UInt8.ofNat p.f.tl.toNat] := by
    simp [head4, addrP, putN, ht]
  have hsum := sumP_lt (head4 p part.length)
  generalize hS : sumP (head4 p part.length) = S at hsum
  rw [e] at hS ⊢
  have hsrc := h.fl.src
  have hdst := h.fl.dst
  rw [hs] at hsrc
  rw [ht] at hdst
  obtain ⟨_, _, s0, _, s1⟩ := hsrc
  obtain ⟨_, _, d0, _, d1⟩ := hdst
  obtain ⟨s1, s2⟩ := s1 rfl
  obtain ⟨d1, d2⟩ := d1 rfl
  have hp : 0 ≤ p.f.proto ∧ p.f.proto ≤ 255 := by rcases h.known with e | e | e <;> omega
  generalize hB : put2 [0x45, 0, UInt8.ofNat ((20 + part.length) / 256), UInt8.ofNat (20 + part.length), 0, 0, 0, 0, UInt8.ofNat p.hops.toNat, UInt8.ofNat p.f.proto.toNat, 0, 0,
      UInt8.ofNat (p.f.sl.toNat / 16777216), UInt8.ofNat (p.f.sl.toNat / 65536), UInt8.ofNat (p.f.sl.toNat / 256), UInt8.ofNat p.f.sl.toNat, UInt8.ofNat (p.f.tl.toNat / 16777216), UInt8.ofNat (p.f.tl.toNat / 65536), UInt8.ofNat (p.f.tl.toNat / 256), UInt8.ofNat p.f.tl.toNat] 10 S ++ part = B
  have hlen : B.length = 20 + part.length := by rw [← hB]; simp [put2]; omega
  have b0 : bytB B 0 = 0x45 := by rw [← hB]; rfl
  have hd : B.drop 20 = part := by rw [← hB]; rfl
  have h4 : ok4 B = true := by
    have q1 : sumP (put2 (B.take 20) 10 0) = S := by rw [← hB, ← hS]; rfl
    have q2 : takeN (subB B 10 12) = S := by rw [← hB]; exact takeN_two S hsum
    have q3 : takeN (subB B 2 4) = 20 + part.length := by rw [← hB]; exact takeN_two _ (by omega)
    have z1 : bytB B 1 = 0 := by rw [← hB]; rfl
    have z4 : bytB B 4 = 0 := by rw [← hB]; rfl
    have z5 : bytB B 5 = 0 := by rw [← hB]; rfl
    have z6 : bytB B 6 = 0 := by rw [← hB]; rfl
    have z7 : bytB B 7 = 0 := by rw [← hB]; rfl
    simp only [ok4, q1, q2, q3, z1, z4, z5, z6, z7, hlen]
    simp
  have hk : pk4 B = baseP p := by
    have q8 : ((bytB B 8 : Nat) : Int) = p.hops := by rw [← hB]; exact byte_int h.hops.1 h.hops.2
    have q9 : ((bytB B 9 : Nat) : Int) = p.f.proto := by rw [← hB]; exact byte_int hp.1 hp.2
    have q1 : numB B 12 16 = p.f.sl := by
      have : numB B 12 16 = ((takeN [UInt8.ofNat (p.f.sl.toNat / 16777216), UInt8.ofNat (p.f.sl.toNat / 65536), UInt8.ofNat (p.f.sl.toNat / 256), UInt8.ofNat p.f.sl.toNat] : Nat) : Int) := by rw [← hB]; rfl
      rw [this, takeN_four _ (by omega), cast_toNat s0]
    have q2 : numB B 16 20 = p.f.tl := by
      have : numB B 16 20 = ((takeN [UInt8.ofNat (p.f.tl.toNat / 16777216), UInt8.ofNat (p.f.tl.toNat / 65536), UInt8.ofNat (p.f.tl.toNat / 256), UInt8.ofNat p.f.tl.toNat] : Nat) : Int) := by rw [← hB]; rfl
      rw [this, takeN_four _ (by omega), cast_toNat d0]
    unfold pk4 baseP
    rw [q8, q9, q1, q2]
    simp [hs, ht, s1, d1]
  unfold readP
  rw [if_neg (by omega), if_pos b0, h4, if_pos rfl, hk, hd]
set_option maxRecDepth 20000 in
set_option maxHeartbeats 2000000 in
theorem read_head6 (p : Pk) (part : List UInt8) (h : PkOk p) (hl : part.length ≤ 1420) (hs : p.f.s6 = true) : readP (head6 p part.length ++ part) = restP (baseP p) part := by
  have ht : p.f.t6 = true := h.fl.six.trans hs
  have hw : 0 ≤ wireP p ∧ wireP p ≤ 255 ∧ prot6 (wireP p).toNat = p.f.proto := by
    unfold wireP
    rw [hs]
    rcases h.known with e | e | e <;> rw [e] <;> decide
  generalize hW : wireP p = W at hw
  have hsrc := h.fl.src
  have hdst := h.fl.dst
  obtain ⟨s0, s1, s2, s3, _⟩ := hsrc
  obtain ⟨d0, d1, d2, d3, _⟩ := hdst
  have e8 : ∀ n, ∃ c0 c1 c2 c3 c4 c5 c6 c7, putN n 8 = [c0, c1, c2, c3, c4, c5, c6, c7] := fun n => ⟨_, _, _, _, _, _, _, _, rfl⟩
  obtain ⟨a0, a1, a2, a3, a4, a5, a6, a7, ea⟩ := e8 p.f.sh.toNat
  obtain ⟨b0, b1, b2, b3, b4, b5, b6, b7, eb⟩ := e8 p.f.sl.toNat
  obtain ⟨c0, c1, c2, c3, c4, c5, c6, c7, ec⟩ := e8 p.f.th.toNat
  obtain ⟨g0, g1, g2, g3, g4, g5, g6, g7, eg⟩ := e8 p.f.tl.toNat
  have e : head6 p part.length = [0x60, 0, 0, 0, UInt8.ofNat (part.length / 256), UInt8.ofNat part.length, UInt8.ofNat W.toNat, UInt8.ofNat p.hops.toNat,
      a0, a1, a2, a3, a4, a5, a6, a7, b0, b1, b2, b3, b4, b5, b6, b7, c0, c1, c2, c3, c4, c5, c6, c7, g0, g1, g2, g3, g4, g5, g6, g7] := by
    unfold head6 addrP
    rw [hW, ht, ea, eb, ec, eg]
    simp [putN]
  rw [e]
  generalize hB : [0x60, 0, 0, 0, UInt8.ofNat (part.length / 256), UInt8.ofNat part.length, UInt8.ofNat W.toNat, UInt8.ofNat p.hops.toNat,
      a0, a1, a2, a3, a4, a5, a6, a7, b0, b1, b2, b3, b4, b5, b6, b7, c0, c1, c2, c3, c4, c5, c6, c7, g0, g1, g2, g3, g4, g5, g6, g7] ++ part = B
  have hlen : B.length = 40 + part.length := by rw [← hB]; simp; omega
  have y0 : bytB B 0 = 0x60 := by rw [← hB]; rfl
  have hd : B.drop 40 = part := by rw [← hB]; rfl
  have h4 : ok6 B = true := by
    have q3 : takeN (subB B 4 6) = part.length := by rw [← hB]; exact takeN_two _ (by omega)
    have z1 : bytB B 1 = 0 := by rw [← hB]; rfl
    have z2 : bytB B 2 = 0 := by rw [← hB]; rfl
    have z3 : bytB B 3 = 0 := by rw [← hB]; rfl
    simp only [ok6, q3, z1, z2, z3, hlen]
    simp
  have hk : pk6 B = baseP p := by
    have q7 : ((bytB B 7 : Nat) : Int) = p.hops := by rw [← hB]; exact byte_int h.hops.1 h.hops.2
    have q6 : bytB B 6 = W.toNat := by
      have : bytB B 6 = (UInt8.ofNat W.toNat).toNat := by rw [← hB]; rfl
      have := byte_int hw.1 hw.2.1
      omega
    have q1 : numB B 8 16 = p.f.sh := by
      have : numB B 8 16 = ((takeN [a0, a1, a2, a3, a4, a5, a6, a7] : Nat) : Int) := by rw [← hB]; rfl
      rw [this, ← ea, takeN_eight _ (by omega), cast_toNat s0]
    have q2 : numB B 16 24 = p.f.sl := by
      have : numB B 16 24 = ((takeN [b0, b1, b2, b3, b4, b5, b6, b7] : Nat) : Int) := by rw [← hB]; rfl
      rw [this, ← eb, takeN_eight _ (by omega), cast_toNat s2]
    have q3 : numB B 24 32 = p.f.th := by
      have : numB B 24 32 = ((takeN [c0, c1, c2, c3, c4, c5, c6, c7] : Nat) : Int) := by rw [← hB]; rfl
      rw [this, ← ec, takeN_eight _ (by omega), cast_toNat d0]
    have q4 : numB B 32 40 = p.f.tl := by
      have : numB B 32 40 = ((takeN [g0, g1, g2, g3, g4, g5, g6, g7] : Nat) : Int) := by rw [← hB]; rfl
      rw [this, ← eg, takeN_eight _ (by omega), cast_toNat d2]
    unfold pk6 baseP
    rw [q7, q6, q1, q2, q3, q4, hw.2.2]
    simp [hs, ht]
  unfold readP
  rw [if_neg (by omega), if_neg (by omega), if_pos y0, h4, if_pos rfl, hk, hd]
/-- What is written is read as it was. -/
theorem read_write (p : Pk) (pay : List UInt8) (h : PkOk p) (hn : pay.length ≤ 1400) : readP (writeP p pay) = some (bareP p, pay) := by
  unfold writeP
  cases hs : p.f.s6
  · rw [if_neg (by decide), read_head4 p _ h (partW_len p pay h hn) hs, rest_write p pay h hn]
  · rw [if_pos rfl, read_head6 p _ h (partW_len p pay h hn) hs, rest_write p pay h hn]
end Go.Proofs.YtfakfhbcpldeoaaGreatDoor
