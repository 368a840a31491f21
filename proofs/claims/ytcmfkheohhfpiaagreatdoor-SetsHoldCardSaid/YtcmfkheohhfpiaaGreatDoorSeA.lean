/- laneref2.LeastOf; Stream.Prefixes, Stream.RightSet. Sets in a law: what an operation hands back where it is small; the closure of SetsHold. -/
import Derived.Test.YtcmfkheohhfpiaaGreatDoorSwG
import Derived.Test.YtcmfkheohhfpiaaGreatDoorRange
import Derived.Test.YtcmfkheohhfpiaaGreatDoorSvL
namespace Go.Proofs.YtcmfkheohhfpiaaGreatDoor
open Go.RowKit Go.Hw
theorem own_keepW {w w' : World} {base b : Nat} {e : TypeId} {size : Nat} {v : Value} {n : Nat} {xs : List Value} (h : w.ownsRow base e size v n xs) (hg : w.grownBy w' (some b)) (hb : b < base) : w'.ownsRow base e size v n xs :=
 rw_same h fun k hk => hg.block k (h.lt k hk).2 (fun e => by have := (h.lt k hk).1; injection e with e; omega)
theorem sp_own {w : World} {base : Nat} {v : Value} {R : List Rg} (h : spOwn w base v R) : ∃ A cap, v = .slice A R.length cap ∧ spAt w A R := by
 obtain ⟨A, cap, rfl, ha⟩ := rw_at (d := noRg) spC_len h
 exact ⟨A, cap, rfl, ha⟩
theorem setR_alB {L : List Pf} (h : ∀ p ∈ L, okP p) : ∀ b ∈ L.map bkP, alB b := fun b hb => by
 obtain ⟨p, hp, rfl⟩ := List.mem_map.1 hb
 exact (bkP_al (h p hp)).1
set_option maxRecDepth 100000 in
set_option maxHeartbeats 1000000 in
theorem leastOf_any (A : Option Addr) (cap : Nat) (L : List Pf) (w : World) (h : pxAt w A L) (hok : ∀ p ∈ L, okP p) (hl : L.length ≤ 12) :
  Calls Tryz.prog 24 #[.slice A L.length cap] w fun e w' => ∃ v P S, e = .returned v ∧ pxOwn w' w.heap.size v P ∧ SetIs P S ∧ P.length ≤ L.length ∧ Below w.heap.size w w' := by
 have hsp := spansOf_any A cap L w h hok hl
 have HOK := Lib.hid hok
 clear h hok
 go_enter Tryz.func24, Tryz.ntmps24
 go_wp2_with fail
 refine hsp.mono ?_
 rintro e W1 ⟨v1, R, rfl, ho, hr, hrl, hb⟩
 obtain ⟨A2, c2, rfl, ha2⟩ := sp_own ho
 have HB1 := Lib.hid hb
 have HR := Lib.hid hr
 have HPL : Hid ((preS (R.map rgS)).length ≤ L.length) := Lib.hid (by
  have := preS_least HR.out.norm (fun x hx => famOk_len (okR_fam HR.out.ok x hx)) (setR_alB HOK.out) (fun n => (HR.out.has n).symm)
  rwa [List.length_map] at this)
 have hpx := refPrefixes_any A2 c2 R W1 ha2 hr.ok (by have := HPL.out; omega) (by omega)
 clear hsp ho hr hrl hb ha2
 go_wp2_with fail
 refine hpx.mono ?_
 rintro e W2 ⟨v2, P, rfl, ho2, hp2, hm2, hb2⟩
 have HF : Hid (pxOwn W2 w.heap.size v2 P ∧ SetIs P (R.map rgS) ∧ P.length ≤ L.length ∧ Below w.heap.size w W2) := Lib.hid ⟨own_base ho2 HB1.out.size, set_of HR.out.ok HR.out.norm hp2 hm2, by have h1 := HPL.out; rw [← hm2, List.length_map] at h1; exact h1, HB1.out.trans (hb2.mono HB1.out.size)⟩
 clear hpx ho2 hp2 hm2 hb2
 go_wp2_with fail
 go_ret
 exact ⟨v2, P, _, rfl, HF.out⟩
def PsI (w : World) (b : Nat) (A : Option Addr) (cap : Nat) (l : List Int) (at_ : Int) (k : Nat) (v : Value) (wr : World) : Prop :=
 ∃ (L : List Pf) (x : Int), L.length = k ∧ (∀ p ∈ L, okP p) ∧ pxOwn wr w.heap.size v L ∧ (at_ ≤ x ∧ x ≤ at_ + 10 * k) ∧ Str wr b A cap l x ∧ w.grownBy wr (some b)
set_option maxRecDepth 100000 in
set_option maxHeartbeats 1000000 in
theorem prefixesDraw_any (b : Nat) (A : Option Addr) (cap : Nat) (l : List Int) (at_ : Int) (n : Nat) (w : World) (h : Str w b A cap l at_) (hn : n ≤ 12) (hh : at_ < 1099511000000) :
  Calls Tryz.prog 25 #[.pointer (some ⟨b, 0, none⟩), .int .i64 n] w fun e w' => ∃ v, e = .returned v ∧ PsI w b A cap l at_ n v w' := by
 obtain ⟨i0, hi0, hz0, hz1, hz2⟩ := info_parts px_info
 have hbl := h.lt
 have HI : Hid (PsI w b A cap l at_ 0 (.slice none 0 0) w) := Lib.hid ⟨[], at_, rfl, (by intro p hp; cases hp), World.ownsRow_nil _ _ _ _, ⟨by omega, by omega⟩, h, World.grownBy.refl _ _⟩
 clear h
 go_enter Tryz.func25, Tryz.ntmps25
 go_wp2_with fail
 go_loopw [5, 7] (fun v5 v7 wr => ∃ k : Nat, k ≤ n ∧ v7 = .int .i64 k ∧ PsI w b A cap l at_ k v5 wr) (fun _ v7 _ => n - (intOf v7).toNat)
 case atStart => exact ⟨0, Nat.zero_le _, rfl, HI.out⟩
 case round =>
  obtain ⟨k, hk, rfl, L, x, hLk, hR, hO, hx, hs, hg⟩ := hrel
  have HR := Lib.hid hR
  have HO := Lib.hid hO
  have HG := Lib.hid hg
  have HSx := Lib.hid hs
  have HX := Lib.hid hx
  have hwr := hg.size
  have HLK := Lib.hid hLk
  have hL12 : L.length ≤ 12 := by omega
  clear hR hO hg hs hx HI hLk
  by_cases hlt : k < n
  ·have hd : decide ((k : Int) < (n : Int)) = true := by simp; omega
   go_wp2_with fail
   refine (rightPrefix_det b A cap l x wr HSx.out (by have := HX.out; omega)).mono ?_
   rintro e w2 ⟨six, hi, lo, bits_, y, ⟨-, hpr⟩, rfl, hxy, hs2, hg2⟩
   have HO2 : Hid (w2.ownsRow w.heap.size 48 4 u5 L.length (rwC pxC L)) := Lib.hid (own_keepW HO.out hg2 hbl)
   have HG2 := Lib.hid (HG.out.andThen hg2 (fun _ h => .inr h))
   have HPR := Lib.hid hpr
   have hw2 := hg2.size
   have HXY := Lib.hid hxy
   have HS2 := Lib.hid hs2
   have HEA := Lib.hid (World.ownsRow.alloc HO2.out (.cells #[.bool six, .int .u64 hi, .int .u64 lo, .int .i64 bits_] 48 (0, 0)))
   clear hg2 hs2 hpr hxy
   go_wp2_with (at_builtin; refine wpList_append_own _ rfl (.tmp 9) (.tmp 12) 26 rfl w.heap.size 48 i0 (.agg #[.bool false, .int .u64 0, .int .u64 0, .int .i64 0]) 4 32 Tryz.underlying26 hi0 hz0 hz1 hz2 rfl (by decide) _ _ _ rfl HEA.out ⟨w2.heap.size, 0, none⟩ 1 1 (pxC ⟨six, hi, lo, bits_⟩) rfl rfl (cells_new w2 (pxC ⟨six, hi, lo, bits_⟩) _) (pxC_one _) (by unfold maxLen; first | omega | (simp; omega)) (by first | omega | (simp; omega)) (by first | omega | (simp; omega)) ?_)
   intro v5 w5 ho5 hg5 _
   have HO5 : Hid (pxOwn w5 w.heap.size v5 (L ++ [⟨six, hi, lo, bits_⟩])) := Lib.hid (own_asT ho5 (by simp) (by simp [rwC]))
   have hlt5 := HEA.out.lt
   have HG5 : Hid (w.grownBy w5 (some b)) := Lib.hid ((HG2.out.andThen (grownB ((Below.refl _ _).alloc (Nat.le_refl _) _) none) (fun _ h => by simp at h)).andThen hg5 (fun j hj => .inl (hlt5 j hj).1))
   have HS5 : Hid (Str w5 b A cap l y) := Lib.hid ((HS2.out.alloc _).grown hg5 (fun j hj => by have := (hlt5 j hj).1; omega))
   clear ho5 hg5 hlt5 HEA HO2 HG2 HS2
   go_wp2_with fail
   go_roundw
   case rel => exact ⟨k + 1, by omega, by simp, L ++ [⟨six, hi, lo, bits_⟩], y, by simp [HLK.out], (by
    intro p hp
    rcases List.mem_append.1 hp with h | h
    ·exact HR.out p h
    ·simp only [List.mem_cons, List.not_mem_nil, or_false] at h
     rw [h]
     exact HPR.out), HO5.out, (by have := HX.out; have := HXY.out; push_cast; omega), HS5.out, HG5.out⟩
   case measure => simp [intOf]; omega
  ·have hkn : k = n := by omega
   subst hkn
   go_wp2_with fail
   go_ret
   exact ⟨_, rfl, L, x, HLK.out, HR.out, HO.out, HX.out, HSx.out, HG.out⟩
set_option maxRecDepth 100000 in
set_option maxHeartbeats 1000000 in
theorem rightSet_any (b : Nat) (A : Option Addr) (cap : Nat) (l : List Int) (at_ : Int) (w : World) (h : Str w b A cap l at_) (hh : at_ < 1099510000000) :
  Calls Tryz.prog 5 #[.pointer (some ⟨b, 0, none⟩)] w fun e w' => ∃ v P S x, e = .returned v ∧ pxOwn w' w.heap.size v P ∧ SetIs P S ∧ P.length ≤ 5 ∧ (at_ ≤ x ∧ x ≤ at_ + 60) ∧ Str w' b A cap l x ∧ w.grownBy w' (some b) := by
 have hrg := range_any b A cap l at_ 0 5 w h (by omega) (by omega) (by omega) (by omega) (by omega)
 have d1 := draw_low l at_ 6 (by omega)
 have d2 := draw_high l at_ 6 (by omega)
 rw [show (5 : Int) - 0 + 1 = 6 from rfl, Int.zero_add] at hrg
 obtain ⟨n, hn⟩ : ∃ n : Nat, drawOf l at_ 6 = n := ⟨(drawOf l at_ 6).toNat, by omega⟩
 rw [hn] at hrg
 have hn5 : n ≤ 5 := by omega
 have hbl := h.lt
 clear h d1 d2 hn
 go_enter Tryz.func5, Tryz.ntmps5
 go_wp2_with fail
 refine hrg.mono ?_
 rintro e W1 ⟨rfl, hs1, hg1⟩
 have HG1 := Lib.hid hg1
 have hps := prefixesDraw_any b A cap l (at_ + 1) n W1 hs1 (by omega) (by omega)
 have hw1 := hg1.size
 clear hrg hs1 hg1
 go_wp2_with fail
 refine hps.mono ?_
 rintro e W2 ⟨v2, rfl, L, x, hLk, hR, hO, hx, hs, hg⟩
 have HG2 := Lib.hid (HG1.out.andThen hg (fun _ h => .inr h))
 have HS2 := Lib.hid hs
 have HX := Lib.hid hx
 have hw2 := hg.size
 have hL5 : L.length ≤ 5 := by omega
 obtain ⟨A3, c3, rfl, ha3, -⟩ := px_own hO
 have hle := leastOf_any A3 c3 L W2 ha3 hR (by omega)
 clear hps hLk hR hO hx hs hg ha3
 go_wp2_with fail
 refine hle.mono ?_
 rintro e W3 ⟨v3, P, S, rfl, ho3, hs3, hl3, hb3⟩
 have HF : Hid (pxOwn W3 w.heap.size v3 P ∧ SetIs P S ∧ P.length ≤ 5 ∧ (at_ ≤ x ∧ x ≤ at_ + 60) ∧ Str W3 b A cap l x ∧ w.grownBy W3 (some b)) := Lib.hid ⟨own_base ho3 (by omega), hs3, by omega, by have := HX.out; omega, HS2.out.grown (grownB hb3 none) (fun j hj => by cases hj), HG2.out.andThen (grownB hb3 none) (fun _ h => by cases h)⟩
 clear hle ho3 hs3 hl3 hb3
 go_wp2_with fail
 go_ret
 exact ⟨v3, P, S, x, rfl, HF.out⟩
end Go.Proofs.YtcmfkheohhfpiaaGreatDoor
namespace Go.Proofs.YtcmfkheohhfpiaaGreatDoor
open Go.RowKit Go.Hw
/-- A set is handed back. -/
def SetGot (w : World) (p : Nat → Prop) (e : Ending) (w' : World) : Prop := ∃ A c P T, e = .returned (.tuple #[.slice A P.length c, .int .i64 0]) ∧ pxAt w' A P ∧ SetIs P T ∧ (∀ k, hasS T k ↔ p k) ∧ P.length ≤ 1000 ∧ Below w.heap.size w w'
theorem SetOp.small {w : World} {p : Nat → Prop} {e : Ending} {w' : World} (h : SetOp w p e w') (hb : ∀ T, (∀ k, hasS T k ↔ p k) → NormS T → (∀ x ∈ T, famOk x) → (preS T).length ≤ 1000) : SetGot w p e w' := by
 obtain ⟨T, h1, h2, h3, v, c, P, rfl, h4, h5, h6⟩ := h
 rcases h6 with ⟨rfl, h7, h8⟩ | ⟨_, _, h7⟩
 ·obtain ⟨A, cp, rfl, ha, -⟩ := px_own h4
  exact ⟨A, cp, P, T, rfl, ha, h7, h1, by rw [h7.len]; exact h8, h5⟩
 ·exact absurd (hb T h1 h2 h3) (by omega)
theorem union_got {w : World} {A B : Option Addr} {ca cb : Nat} {L M : List Pf} {SA SB : List Sn} (hA : pxAt w A L) (hB : pxAt w B M) (hL : SetIs L SA) (hM : SetIs M SB) (h1 : L.length + M.length ≤ 1000) :
  Calls Tryz.prog 9 #[.slice A L.length ca, .slice B M.length cb] w (SetGot w (fun k => hasS SA k ∨ hasS SB k)) :=
 (union_set A B ca cb L M SA SB w hA hB hL hM (by omega) (by omega)).mono fun e w' h => h.small fun T h2 h3 h4 => by
  have := join_many hL.als hM.als h3 h4 (fun n => by rw [hL.bl, hM.bl]; exact h2 n)
  rw [List.length_map, List.length_map] at this
  omega
theorem both_got {w : World} {A B : Option Addr} {ca cb : Nat} {L M : List Pf} {SA SB : List Sn} (hA : pxAt w A L) (hB : pxAt w B M) (hL : SetIs L SA) (hM : SetIs M SB) (h1 : L.length + M.length ≤ 1000) :
  Calls Tryz.prog 10 #[.slice A L.length ca, .slice B M.length cb] w (SetGot w (fun k => hasS SA k ∧ hasS SB k)) :=
 (both_set A B ca cb L M SA SB w hA hB hL hM (by omega) (by omega)).mono fun e w' h => h.small fun T h2 h3 h4 => by
  have := both_many hL.als hM.als h3 h4 (fun n => by rw [hL.bl, hM.bl]; exact h2 n)
  rw [List.length_map, List.length_map] at this
  omega
theorem without_got {w : World} {A B : Option Addr} {ca cb : Nat} {L M : List Pf} {SA SB : List Sn} (hA : pxAt w A L) (hB : pxAt w B M) (hL : SetIs L SA) (hM : SetIs M SB) (h1 : L.length + 127 * M.length ≤ 1000) :
  Calls Tryz.prog 11 #[.slice A L.length ca, .slice B M.length cb] w (SetGot w (fun k => hasS SA k ∧ ¬ hasS SB k)) :=
 (without_set A B ca cb L M SA SB w hA hB hL hM (by omega) (by omega)).mono fun e w' h => h.small fun T h2 h3 h4 => by
  have := less_many hL.row hM.als h3 h4 (fun n => by rw [hL.bl, hM.bl]; exact h2 n)
  rw [List.length_map, List.length_map] at this
  omega
theorem rest_got {w : World} {A : Option Addr} {ca : Nat} {L : List Pf} {SA : List Sn} (hA : pxAt w A L) (hL : SetIs L SA) (h1 : L.length ≤ 7) :
  Calls Tryz.prog 12 #[.slice A L.length ca] w (SetGot w (fun k => inU k ∧ ¬ hasS SA k)) :=
 (rest_set A ca L SA w hA hL (by omega)).mono fun e w' h => h.small fun T h2 h3 h4 => by
  have := rest_many hL.als h3 h4 (fun n => by rw [hL.bl]; exact h2 n)
  rw [List.length_map] at this
  omega
theorem preG_len {x : Sn} (h : x.1 < x.2) : 0 < (preG x.1 x.2).length := by rw [preG_some h]; simp
theorem preS_nil {S : List Sn} (h : okS S) : (preS S).length = 0 ↔ S = [] := by
 constructor
 ·intro h0
  rcases S with _ | ⟨x, S⟩
  ·rfl
  ·exfalso
   have h1 := preG_len (h x (by simp))
   have h2 : preS (x :: S) = preG x.1 x.2 ++ preS S := rfl
   rw [h2, List.length_append] at h0
   omega
 ·rintro rfl; rfl
theorem preS_part {S : List Sn} {x : Sn} (hx : x ∈ S) : (preS [x]).length ≤ (preS S).length := by
 obtain ⟨a, b, rfl⟩ := List.append_of_mem hx
 rw [preS_append, show x :: b = [x] ++ b from rfl, preS_append, List.length_append, List.length_append]
 omega
theorem set_eq {S T : List Sn} (h1 : NormS S) (h2 : NormS T) (h : ∀ k, hasS S k ↔ hasS T k) : S = T := norm_eq h1 h2 h
/-- An address lies in the line. -/
theorem key_in {x : Ad} (h : fineA x) : inU (keyA x) := (keyA_lt h).1
set_option maxRecDepth 100000 in
set_option maxHeartbeats 1000000 in
theorem seHas_any (A : Option Addr) (ca : Nat) (L : List Pf) (SA : List Sn) (x : Ad) (nb : Nat) (w : World) (hA : pxAt w A L) (hL : SetIs L SA) (h1 : L.length ≤ 1000) (hx : fineA x) (hb : w.heap[nb]? = some (.cells #[.bool x.six, .int .u64 x.hi, .int .u64 x.lo] 30 (0, 0))) :
  Calls Tryz.prog 7 #[.slice A L.length ca, .int .i64 0, .pointer (some ⟨nb, 0, none⟩)] w fun e w' => ∃ b, e = .returned (.bool b) ∧ (b = true ↔ hasS SA (keyA x)) ∧ Below w.heap.size w w' := by
 have hh := has_set A ca L SA x w hA hL h1 hx
 obtain ⟨x0, x1, x2, -⟩ := res3 hb
 clear hA hL hx hb
 go_enter Tryz.func7, Tryz.ntmps7
 go_wp2_with fail
 refine hh.mono ?_
 rintro e w1 ⟨b, rfl, hb, hb1⟩
 have H := Lib.hid (And.intro hb hb1)
 clear hb hb1 hh
 cases b
 ·go_wp2_with fail
  go_ret
  obtain ⟨h1, h2⟩ := H.out
  exact ⟨_, rfl, by simpa using h1, h2⟩
 ·go_wp2_with fail
  go_ret
  obtain ⟨h1, h2⟩ := H.out
  exact ⟨_, rfl, by simpa using h1, h2⟩
end Go.Proofs.YtcmfkheohhfpiaaGreatDoor
