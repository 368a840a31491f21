/- CachesAreTrue: the walk. -/
import Derived.Test.YtedpjecbfcogcaaGreatDoorCaV
import Derived.Test.YtedpjecbfcogcaaGreatDoorCaJ
import Derived.Test.YtedpjecbfcogcaaGreatDoorReady
import Derived.Test.YtedpjecbfcogcaaGreatDoorHbo
namespace Go.Proofs.YtedpjecbfcogcaaGreatDoor
open Go.RowKit Go.Hw Go.Shelf

theorem run_eq_rec (d : Nat) (r : Rec) (w : World) : (Op.equalIn (d + 3) 50 (.agg #[.string r.name, .int .i64 r.kind, .bool r.six, .int .u64 r.hi, .int .u64 r.lo, .string r.to, .string r.words, .int .i64 r.life]) (.agg #[.string r.name, .int .i64 r.kind, .bool r.six, .int .u64 r.hi, .int .u64 r.lo, .string r.to, .string r.words, .int .i64 r.life])).run Tryz.prog w = .ok true w := by
  have u1 := Tryz.underlying9
  have u2 := Tryz.underlying3
  have hA : Tryz.prog.underlying 50 = some (.struct (Tryz.prog.fieldsOf 50)) := by kernel_rfl
  have pA : Tryz.prog.stoodInHeld 50 = false := by kernel_rfl
  have ha := run_eq_addr d r.six r.six r.hi r.hi r.lo r.lo w
  rw [run_equalIn_agg w (d + 2) 50 _ _ hA pA]
  simp only [Program.fieldsOf, Tryz.underlying50]
  go_simp
theorem guard_rec : Tryz.prog.eqGuardType Tryz.prog.depth 50 = false := by kernel_rfl

theorem plainB {x : List UInt8} (h : (decide (x.length ≤ 63) && (!x.isEmpty) && x.all (fun b => decide ((48 ≤ b.toNat ∧ b.toNat ≤ 57) ∨ (97 ≤ b.toNat ∧ b.toNat ≤ 122)))) = true) : Plain x := by
  simp only [Bool.and_eq_true] at h
  refine plain_of (fun e => by rw [e] at h; simp at h) (of_decide_eq_true h.1.1) fun b hb => of_decide_eq_true (p := (48 ≤ b.toNat ∧ b.toNat ≤ 57) ∨ (97 ≤ b.toNat ∧ b.toNat ≤ 122)) (List.all_eq_true.1 h.2 b hb)
theorem nameOk_of {c : UInt8} (h : c = 97 ∨ c = 98 ∨ c = 99 ∨ c = 100) : NameOk ⟨#[c, 46, 110, 101, 116, 46, 120]⟩ := by
  have hs : Lib.split [c, 46, 110, 101, 116, 46, 120] [46] = [[c], [110, 101, 116], [120]] := by
    rcases h with rfl | rfl | rfl | rfl <;> decide +kernel
  refine ⟨by show 7 ≤ 253; omega, fun x hx => ?_⟩
  rw [show (⟨#[c, 46, 110, 101, 116, 46, 120]⟩ : ByteArray).data.toList = [c, 46, 110, 101, 116, 46, 120] from rfl, hs] at hx
  simp only [List.mem_cons, List.not_mem_nil, or_false] at hx
  rcases hx with rfl | rfl | rfl
  · rcases h with rfl | rfl | rfl | rfl <;> exact plainB (by decide +kernel)
  · exact plainB (by decide +kernel)
  · exact plainB (by decide +kernel)
theorem name_drawn (k : Nat) (hk : k < 4) : NameOk (([⟨#[97, 46, 110, 101, 116, 46, 120]⟩, ⟨#[98, 46, 110, 101, 116, 46, 120]⟩, ⟨#[99, 46, 110, 101, 116, 46, 120]⟩, ⟨#[100, 46, 110, 101, 116, 46, 120]⟩] : List ByteArray).getD k ByteArray.empty) := by
  have : k = 0 ∨ k = 1 ∨ k = 2 ∨ k = 3 := by omega
  rcases this with rfl | rfl | rfl | rfl <;> exact nameOk_of (by decide)

theorem zero_put (w : World) : (zeroValue 40).run Tryz.prog w = .ok (.agg #[.int .i64 0, .slice none 0 0]) w := by kernel_rfl
theorem pick4 (k : Nat) : 0 ≤ ([0, 1, 3, 20] : List Int).getD k 0 ∧ ([0, 1, 3, 20] : List Int).getD k 0 ≤ 20 := by
  match k with
  | 0 | 1 | 2 | 3 => exact ⟨by decide, by decide⟩
  | k + 4 => exact ⟨by simp, by simp⟩
set_option maxRecDepth 100000 in
set_option maxHeartbeats 4000000 in
theorem cachesTrue_any (A : Option Addr) (cap : Nat) (l : List Int) (w : World) (hA : ∀ i, i < l.length → ∃ g off, A = some ⟨g, off, none⟩ ∧ g < w.heap.size ∧ w.cell? ⟨g, off + i, none⟩ = some (.int .i64 (l.getD i 0)))
    (hfits : ∀ i, -9223372036854775808 ≤ l.getD i 0 ∧ l.getD i 0 ≤ 9223372036854775807) (hlong : l.length ≤ 17592186044416) (m : Int) (hm : w.cell? ⟨2, 0, none⟩ = some (.int .i64 m)) :
    Calls Tryz.prog 3 #[.slice A l.length cap] w fun e w' => e = .returned (.bool true) ∧ Below w.heap.size w w' := by
  have hlm := World.block_lt_of_cell? _ _ hm
  have hs0 : Str (w.alloc (.cells #[.slice A l.length cap, .int .i64 0] 25)) w.heap.size A cap l 0 := {
    cell := heap_alloc_new w _
    ints := fun i hi => by
      obtain ⟨g, off, h1, h2, h3⟩ := hA i hi
      exact ⟨g, off, h1, h2, by rw [World.cell?_alloc_lt _ _ _ h2]; exact h3⟩
    fits := hfits
    long := hlong
    low := by omega
    high := by omega }
  have hB0 : Below w.heap.size w (w.alloc (.cells #[.slice A l.length cap, .int .i64 0] 25)) := (Below.refl _ _).alloc (Nat.le_refl _) _
  have HS := Lib.hid hs0
  have HB := Lib.hid hB0
  have HM := Lib.hid hm
  clear hs0 hB0 hA hfits hm
  go_enter Tryz.func3, Tryz.ntmps3
  go_wp2_with fail
  generalize hW : World.alloc _ _ = W1 at HS HB ⊢
  clear hW
  have d0 := draw_low l 0 (3 - 1 + 1) (by omega)
  have d1 := draw_high l 0 (3 - 1 + 1) (by omega)
  refine (range_any w.heap.size A cap l 0 1 3 W1 HS.out (by omega) (by omega) (by omega) (by omega) (by omega)).mono ?_
  rintro e W2 ⟨rfl, hs2, hg2⟩
  generalize hmo : 1 + drawOf l 0 (3 - 1 + 1) = most
  have hm1 : 1 ≤ most := by omega
  have hm3 : most ≤ 3 := by omega
  have HB2 := Lib.hid (HB.out.grown hg2 HB.out.size (fun j e => by injection e with e; omega))
  have HS2 := Lib.hid hs2
  clear hmo d0 d1 hg2 hs2 HS HB
  go_wp2_with fail
  refine (newK most W2 hm1 (by omega)).mono ?_
  rintro e W3 ⟨rfl, rfl⟩
  have hsl2 := HS2.out.lt
  have hT := heap_alloc_new W2 (.cells #[.int .i64 most, .int .i64 0, .int .i64 0, .slice none 0 0] 56 (0, 0))
  have HS3 := Lib.hid (HS2.out.alloc (.cells #[.int .i64 most, .int .i64 0, .int .i64 0, .slice none 0 0] 56 (0, 0)))
  have HB3 := Lib.hid (HB2.out.alloc HB2.out.size (.cells #[.int .i64 most, .int .i64 0, .int .i64 0, .slice none 0 0] 56 (0, 0)))
  have HT3 := Lib.hid hT
  have hsz3 : W2.heap.size < (W2.alloc (.cells #[.int .i64 most, .int .i64 0, .int .i64 0, .slice none 0 0] 56 (0, 0))).heap.size := by simp
  clear hT HS2 HB2
  generalize W2.alloc _ = W3 at *
  generalize W2.heap.size = T at *
  have hmm := @run_makeMap Tryz.prog
  have HI0 : Hid (CwI w w.heap.size T W3.heap.size A cap l most 1 0 0 none 0 [] [] (W3.alloc (.map #[] 0))) := Lib.hid
    { str := HS3.out.alloc _
      below := HB3.out.alloc HB3.out.size _
      ca := ⟨(heap_alloc_old _ _ hsz3).trans HT3.out, World.ownsRow_nil _ _ _ _, fun c => by cases c⟩
      mp := MapIs.made W3 ptV
      base := Nat.le_refl _
      sT := hsl2
      sM := by omega
      tM := by omega
      sA' := fun k hk => by cases hk
      rows := fun e he => by simp at he
      rowsS := fun e he => by simp at he
      pts := fun n p hp => by simp [get_nil] at hp
      link := fun e he => by simp at he
      few := by show (0 : Int) ≤ most; omega }
  clear HS3 HB3 HT3
  go_wp2_with fail
  clear hmm
  generalize W3.alloc _ = W4 at *
  generalize W3.heap.size = M at *
  have c0 := draw_low l 1 20 (by omega)
  have c1 := draw_high l 1 20 (by omega)
  refine (next_any w.heap.size A cap l 1 20 W4 HI0.out.str (by omega) (by omega) (by omega)).mono ?_
  rintro e W5 ⟨rfl, hs5, hg5⟩
  have HI1 := Lib.hid (HI0.out.stream hs5 hg5)
  clear HI0 hs5 hg5
  generalize drawOf l 1 20 = cn at *
  obtain ⟨nn, rfl⟩ := Int.eq_ofNat_of_zero_le c0
  have hnn : nn < 20 := by omega
  clear c0 c1 hsz3
  go_wp2_with fail
  go_loopw [39, 8] (fun v39 v8 wr => ∃ (k : Nat) (x calls cnow now : Int) (Aa : Option Addr) (ac : Nat) (L : List Kp) (pm : List (ByteArray × Pt)), k ≤ nn ∧ v39 = .int .i64 k ∧ v8 = .int .i64 now ∧ 0 ≤ cnow ∧ cnow ≤ now ∧ now ≤ 20 * k ∧ 0 ≤ calls ∧ calls ≤ 3 * k ∧ 0 ≤ x ∧ x ≤ 200 * (k + 1) ∧ CwI w w.heap.size T M A cap l most x calls cnow Aa ac L pm wr) (fun v39 _ _ => nn - (intOf v39).toNat)
  case atStart => exact ⟨0, 2, 0, 0, 0, none, 0, [], [], by omega, rfl, rfl, by omega, by omega, by omega, by omega, by omega, by omega, by omega, HI1.out⟩
  case round =>
    obtain ⟨k, x, calls, cnow, now, Aa, ac, L, pm, hk, rfl, rfl, hcn0, hcn1, hnow, hca0, hca1, hx0, hx1, hit⟩ := hrel
    by_cases hlt : k < nn
    · have HI2 := Lib.hid (hit.alloc (.cells #[.int .i64 0, .int .i64 1, .int .i64 3, .int .i64 20] 3 (0, 0)))
      have hsl := hit.str.lt
      clear hit HI1
      go_wp2_with fail
      refine (pick_any w.heap.size A cap l x _ HI2.out.str (by omega) _ [0, 1, 3, 20] (by rw [heap_alloc_new]; rfl) (by omega) (by simp) (by simp) 4 4 rfl).mono ?_
      rintro e W6 ⟨rfl, hs, hg⟩
      have hpk := pick4 (drawOf l x (([0, 1, 3, 20] : List Int).length : Nat)).toNat
      revert hpk
      generalize List.getD ([0, 1, 3, 20] : List Int) _ _ = pk
      intro hpk
      have HI3 := Lib.hid ((HI2.out.stream hs hg).alloc (.cells #[.string ⟨#[97, 46, 110, 101, 116, 46, 120]⟩, .string ⟨#[98, 46, 110, 101, 116, 46, 120]⟩, .string ⟨#[99, 46, 110, 101, 116, 46, 120]⟩, .string ⟨#[100, 46, 110, 101, 116, 46, 120]⟩] 9 (0, 0)))
      have hsl6 := hs.lt
      clear HI2 hs hg
      have s0 : IntKind.i64.wrap (now + pk) = now + pk := IntWalk.i64_in _ (by omega)
      go_wp2_with fail
      have p0 := draw_low l (x + 1) 4 (by omega)
      have p1 := draw_high l (x + 1) 4 (by omega)
      refine (some_any w.heap.size A cap l (x + 1) _ HI3.out.str (by omega) _ [⟨#[97, 46, 110, 101, 116, 46, 120]⟩, ⟨#[98, 46, 110, 101, 116, 46, 120]⟩, ⟨#[99, 46, 110, 101, 116, 46, 120]⟩, ⟨#[100, 46, 110, 101, 116, 46, 120]⟩] (by rw [heap_alloc_new]; rfl) (by omega) (by simp) (by simp) 4 4 rfl).mono ?_
      rintro e W7 ⟨rfl, hs, hg⟩
      have hnm := name_drawn (drawOf l (x + 1) 4).toNat (by omega)
      revert hnm
      show NameOk _ → _
      generalize List.getD ([⟨#[97, 46, 110, 101, 116, 46, 120]⟩, ⟨#[98, 46, 110, 101, 116, 46, 120]⟩, ⟨#[99, 46, 110, 101, 116, 46, 120]⟩, ⟨#[100, 46, 110, 101, 116, 46, 120]⟩] : List ByteArray) _ _ = n
      intro hnm
      have HI4 := Lib.hid (HI3.out.stream hs hg)
      have hsl7 := hs.lt
      have HNM := Lib.hid hnm
      clear HI3 hs hg p0 p1 hnm
      go_wp2_with fail
      refine (flip_any w.heap.size A cap l (x + 1 + 1) 2 W7 HI4.out.str (by omega) (by omega) (by omega)).mono ?_
      rintro e W8 ⟨rfl, hs, hg⟩
      have HI5 := Lib.hid (HI4.out.stream hs hg)
      clear HI4 hs hg
      generalize hfl : (drawOf l (x + 1 + 1) 2 == 0) = fl
      clear hfl
      have hnow1 : now + pk ≤ 20 * (k + 1 : Nat) := by omega
      have hnow0 : cnow ≤ now + pk := by omega
      generalize now + pk = now1 at *
      have hkk : k ≤ 20 := by omega
      cases fl
      · go_wp2_with fail
        have hkin := HI5.out.kpIn (by omega)
        have hfew := HI5.out.few
        refine (getK T most cnow calls Aa ac L now1 m n W8 HI5.out.ca (by omega) hnow0 (by omega) (by omega) (by omega) (by omega) hkin HI5.out.rows HNM.out ((HI5.out.below.cell hlm).trans HM.out)).mono ?_
        rintro e W9 ⟨K, v, found, rfl, hca9, hch9, hK9, hKl, hfound⟩
        have HI6 := Lib.hid (HI5.out.sub hca9 hch9 hnow0 hKl hK9)
        have HF := Lib.hid hfound
        have HCH9 := Lib.hid hch9
        have hkin6 := HI6.out.kpIn (by omega)
        have hfew6 := HI6.out.few
        clear hca9 hK9 hfound hkin hch9
        go_wp2_with fail
        refine (manyK T most now1 (calls + 1) Aa ac K now1 W9 HI6.out.ca (by omega) (by omega) (by omega) (by omega) (by omega) (by omega) hkin6).mono ?_
        rintro e W10 ⟨rfl, hca10, hch10⟩
        have hKl2 : (K.filter (fun e => !goesB now1 e)).length ≤ K.length := List.length_filter_le _ _
        have HI7 := Lib.hid (HI6.out.sub hca10 hch10 (Int.le_refl _) hKl2 filt_in)
        have HCH10 := Lib.hid hch10
        have hmost : decide (((K.filter (fun e => !goesB now1 e)).length : Int) > most) = false := by simp only [decide_eq_false_iff_not]; omega
        clear hca10 hch10 hkin6
        generalize K.filter (fun e => !goesB now1 e) = K2 at *
        cases found
        · go_wp2_with fail
          go_roundw
          case rel => exact ⟨k + 1, x + 1 + 1 + 1, calls + 1 + 1, now1, now1, Aa, ac, K2, pm, hlt, by go_num, rfl, by omega, by omega, by omega, by omega, by omega, by omega, by omega, HI7.out⟩
          case measure => simp [intOf]; omega
        · obtain ⟨y, hyL, hgo, hsame, hvown⟩ := HF.out rfl
          obtain ⟨hyn, hyk⟩ := same_name hsame
          obtain ⟨hk1, hp0, hp1, ⟨pa, pA, pc, R⟩, hget, hpat, hprecs, hl30, hlle⟩ := HI5.out.link y hyL
          dsimp only at hpat hprecs
          rw [hyn] at hget
          have hpt := HI7.out.pts n _ hget
          have hgo' : now1 - y.put < y.life := by unfold goesB at hgo; simpa using hgo
          rw [← hpat, ← hprecs] at hvown
          rw [← hpat] at hgo' hp0 hp1
          rw [← hprecs] at hlle
          obtain ⟨vA, vcap, rfl, -⟩ := rw_at (d := noRec) rcC_len hvown
          have hvown' : rcOwn W9 W8.heap.size (.slice vA R.length vcap) (R.map (lessLife (now1 - pa))) := by
            have h2 := hvown
            unfold rcOwn at h2 ⊢
            rw [List.length_map] at h2 ⊢
            exact h2
          have hv10 : rcAt W10 vA (R.map (lessLife (now1 - pa))) := by
            have h9 : rcAt W9 vA (R.map (lessLife (now1 - pa))) := rw_at' rcC_len hvown
            refine h9.kept HCH10.out.size fun a ha hl => HCH10.out.block _ hl fun c => ?_
            have hb := (hvown.lt a.block (by rw [own_aB, ha]; rfl)).1
            rcases c with c | c
            · have := HI5.out.ca.lt; omega
            · have := HI5.out.ca.ltA c; omega
          rw [List.length_map]
          have HV := Lib.hid hv10
          have HPT := Lib.hid hpt
          have HLE := Lib.hid hlle
          clear hvown hvown' hv10 hpt hsame hgo hpat hprecs hlle HF HCH9 HCH10 HI5 HI6 hyk hk1 hyL
          have hlk := run_get_ok (P := Tryz.prog) HI7.out.mp Tryz.underlying31 Tryz.underlying9 (zero_put W10) n
          rw [hget] at hlk
          have hlk' : (Instr.lookup 31 (.map (some M)) (.string n) true).run Tryz.prog W10 = .ok (.tuple #[.agg #[.int .i64 pa, .slice pA R.length pc], .bool true]) W10 := hlk
          have s1 : IntKind.i64.wrap (now1 - pa) = now1 - pa := IntWalk.i64_in _ (by omega)
          have h30 : decide (now1 - pa ≥ 30) = false := by simp only [decide_eq_false_iff_not]; omega
          have hll : ((R.length : Int) != (R.length : Int)) = false := by simp
          clear hlk hget
          have HI8 := Lib.hid (HI7.out.alloc (.cells #[.int .i64 pa, .slice pA R.length pc] 40 (0, 0)))
          have hbx := heap_alloc_new W10 (.cells #[.int .i64 pa, .slice pA R.length pc] 40 (0, 0))
          have h01 : Below W10.heap.size W10 (W10.alloc (.cells #[.int .i64 pa, .slice pA R.length pc] 40 (0, 0))) := (Below.refl _ _).alloc (Nat.le_refl _) _
          have HV1 := Lib.hid (HV.out.below h01)
          have HP1 := Lib.hid (HPT.out.row.below h01)
          dsimp only at HP1
          have hf50 : R.length ≤ 50 := HPT.out.few
          have HLV := Lib.hid HPT.out.lives
          have HBX := Lib.hid hbx
          clear h01 hbx HPT HV HI7
          go_wp2_with fail
          generalize W10.alloc _ = W11 at *
          generalize W10.heap.size = bx at *
          clear hlk'
          go_loopw [119] (fun v119 wq => ∃ j : Nat, j ≤ R.length ∧ v119 = .int .i64 j ∧ Below W11.heap.size W11 wq) (fun v119 _ => R.length - (intOf v119).toNat)
          case atStart => exact ⟨0, by omega, rfl, Below.refl _ _⟩
          case round =>
            obtain ⟨j, hj, rfl, hbq⟩ := hrel
            by_cases hjl : j < R.length
            · obtain ⟨g5, off5, rfl, hg5, hcc⟩ := (HP1.out.below hbq) j hjl
              obtain ⟨a0, a1, a2, a3, a4, a5, a6, a7⟩ := rc_cells hcc
              obtain ⟨g6, off6, rfl, hg6, hcd⟩ := (HV1.out.below hbq) j (by rw [List.length_map]; exact hjl)
              rw [show (R.map (lessLife (now1 - pa))).getD j noRec = lessLife (now1 - pa) (R.getD j noRec) by rw [List.getD_eq_getElem?_getD, List.getD_eq_getElem?_getD, List.getElem?_map, List.getElem?_eq_getElem hjl]; rfl] at hcd
              obtain ⟨b0, b1, b2, b3, b4, b5, b6, b7⟩ := rc_cells hcd
              obtain ⟨hv0, hv1⟩ := HLV.out _ (rw_mem (d := noRec) hjl)
              have hle := HLE.out _ (rw_mem (d := noRec) hjl)
              have hg := guard_rec
              have hrq := fun d W => run_eq_rec d (lessLife (now1 - pa) (R.getD j noRec)) W
              obtain ⟨⟨e0, e1⟩, -⟩ := res2 ((hbq.block bx (lt_of_block HBX.out)).trans HBX.out)
              have hbxl : bx < wr.heap.size := Nat.lt_of_lt_of_le (lt_of_block HBX.out) hbq.size
              generalize R.getD j noRec = r at *
              have s2 : IntKind.i64.wrap (r.life - (now1 - pa)) = r.life - (now1 - pa) := IntWalk.i64_in _ (by omega)
              have hl1 : decide (r.life - (now1 - pa) < 1) = false := by simp only [decide_eq_false_iff_not]; omega
              unfold lessLife at b0 b1 b2 b3 b4 b5 b6 b7 hrq
              dsimp only at b0 b1 b2 b3 b4 b5 b6 b7 hrq
              have HBQ := Lib.hid hbq
              clear hcc hcd hbq
              go_wp2_with fail
              go_quiet (fail)
              go_wp2_with fail
              go_roundw
              case rel => exact ⟨j + 1, hjl, by go_num, bqK (HBQ.out.alloc HBQ.out.size _) _⟩
              case measure => simp [intOf]; omega
            · have hjj : j = R.length := by omega
              subst hjj
              have HI9 := Lib.hid (HI8.out.next hbq)
              clear hbq HI8
              go_wp2_with fail
              go_roundw
              case rel => exact ⟨k + 1, x + 1 + 1 + 1, calls + 1 + 1, now1, now1, Aa, ac, K2, pm, hlt, by go_num, rfl, by omega, by omega, by omega, by omega, by omega, by omega, by omega, HI9.out⟩
              case measure => simp [intOf]; omega
      · go_wp2_with fail
        have q0 := draw_low l (x + 1 + 1 + 1) (2 - 0 + 1) (by omega)
        have q1 := draw_high l (x + 1 + 1 + 1) (2 - 0 + 1) (by omega)
        refine (range_any w.heap.size A cap l (x + 1 + 1 + 1) 0 2 W8 HI5.out.str (by omega) (by omega) (by omega) (by omega) (by omega)).mono ?_
        rintro e W9 ⟨rfl, hs, hg⟩
        have HI6 := Lib.hid (HI5.out.stream hs hg)
        generalize drawOf l (x + 1 + 1 + 1) (2 - 0 + 1) = dr at *
        obtain ⟨rn, rfl⟩ := Int.eq_ofNat_of_zero_le q0
        rw [show (0 : Int) + (rn : Int) = (rn : Nat) from by omega]
        clear HI5 hs hg
        have hs9 := HI6.out.str.lt
        go_wp2_with fail
        refine (records_any w.heap.size A cap l (x + 1 + 1 + 1 + 1) rn W9 HI6.out.str (by omega) (by omega)).mono ?_
        rintro e W10 ⟨v, rfl, R, x2, hRl, hRo, hRok, hx20, hx21, hs, hg⟩
        obtain ⟨rA, rcap, rfl, hRat⟩ := rw_at (d := noRec) rcC_len hRo
        have HI7 := Lib.hid (HI6.out.stream hs hg)
        have hrb : ∀ a, rA = some a → W9.heap.size ≤ a.block ∧ a.block < W10.heap.size := fun a ha => hRo.lt a.block (by rw [own_aB, ha]; rfl)
        have hrnil : rA = none → R = [] := fun e => by
          rcases hRo.2 with ⟨h1, h2⟩ | ⟨g, cap', cur, h1, _⟩
          · exact List.length_eq_zero_iff.1 h2
          · injection h1 with h1
            rw [e] at h1
            cases h1
        have hT9 := HI6.out.ca.lt
        have hM9 := HI6.out.mp.lt
        have hA9 := fun c (hc : aB Aa = some c) => HI6.out.ca.ltA hc
        have hprow : PutRow W10 T Aa rA R := ⟨hRat, hrnil, fun a ha => ⟨by have := (hrb a ha).1; omega, fun c => by have := (hrb a ha).1; have := hA9 _ c; omega⟩, by omega, hRok⟩
        have hfew := HI7.out.few
        have hR50 : R.length ≤ 50 := by omega
        have HRB := Lib.hid hrb
        have HA9 := Lib.hid hA9
        have HRN := Lib.hid hrnil
        have HRA := Lib.hid hRat
        clear HI6 hs hg hRo hRok hrb hA9 hrnil hRat hRl
        go_wp2_with fail
        refine (putK T most cnow calls Aa ac L now1 m n rA rcap R W10 HI7.out.ca hfew (by omega) hnow0 (by omega) (by omega) (by omega) (by omega) (HI7.out.kpIn (by omega)) HI7.out.rows hprow HNM.out ((HI7.out.below.cell hlm).trans HM.out)).mono ?_
        rintro e W11 ⟨c, rfl, hcb, hcz⟩
        by_cases hc0 : c = 0
        · obtain ⟨hlv, A', cap', L', hca', hch', hA', hlen', hL'⟩ := hcz hc0
          subst hc0
          have hM11 := HI7.out.mpC hch'
          obtain ⟨W12, hput, hM12, hg12, _⟩ := run_put (P := Tryz.prog) hM11 Tryz.underlying31 Tryz.underlying9 n ⟨now1, rA, rcap, R⟩
          have hput' : (Instr.mapUpdate 31 (.map (some M)) (.string n) (.agg #[.int .i64 now1, .slice rA R.length rcap])).run Tryz.prog W11 = .ok () W12 := hput
          have HI8 := Lib.hid (HI7.out.put hca' hch' hA' hlen' hnow0 (by omega) hL' ⟨HRA.out, HRN.out, fun a ha => ⟨(HRB.out a ha).2, by have := (HRB.out a ha).1; omega, by have := (HRB.out a ha).1; omega, by have := (HRB.out a ha).1; omega, fun c => by have := (HRB.out a ha).1; have := HA9.out _ c; omega⟩, hR50, hlv⟩ hM12 hg12)
          clear hca' hch' hA' hlen' hL' hM11 hM12 hg12 hput hlv hcb hcz HI7 hprow HRA
          go_wp2_with fail
          go_roundw
          case rel => exact ⟨k + 1, x2, calls + 1, now1, now1, A', cap', L', _, hlt, by go_num, rfl, by omega, by omega, by omega, by omega, by omega, by omega, by omega, HI8.out⟩
          case measure => simp [intOf]; omega
        · have hcn : (c == 0) = false := by simpa using hc0
          have HI8 := Lib.hid (HI7.out.next (hcb hc0))
          clear hcb hcz HI7 hprow HRA
          go_wp2_with fail
          go_roundw
          case rel => exact ⟨k + 1, x2, calls, cnow, now1, Aa, ac, L, pm, hlt, by go_num, rfl, by omega, by omega, by omega, by omega, by omega, by omega, by omega, HI8.out⟩
          case measure => simp [intOf]; omega
    · have hkk : k = nn := by omega
      subst hkk
      have HB9 := Lib.hid hit.below
      clear hit
      go_wp2_with fail
      refine Calls.mono (ready_true wr) ?_
      rintro _ W9 ⟨rfl, hb9⟩
      have HB10 := Lib.hid (HB9.out.trans (hb9.mono HB9.out.size))
      clear hb9
      go_wp2_with fail
      go_ret
      exact ⟨rfl, HB10.out⟩
/-- CachesAreTrue, whatever number the library's variable holds. -/
theorem cachesTrue_row (A : Option Addr) (cap : Nat) (l : List Int) (w : World) (hA : ∀ i, i < l.length → ∃ g off, A = some ⟨g, off, none⟩ ∧ g < w.heap.size ∧ w.cell? ⟨g, off + i, none⟩ = some (.int .i64 (l.getD i 0)))
    (hfits : ∀ i, -9223372036854775808 ≤ l.getD i 0 ∧ l.getD i 0 ≤ 9223372036854775807) (hlong : l.length ≤ 17592186044416) (hm : ∃ m, w.cell? ⟨2, 0, none⟩ = some (.int .i64 m)) :
    Calls Tryz.prog 3 #[.slice A l.length cap] w fun e w' => e = .returned (.bool true) ∧ Below w.heap.size w w' := by
  obtain ⟨m, hm⟩ := hm
  exact cachesTrue_any A cap l w hA hfits hlong m hm
end Go.Proofs.YtedpjecbfcogcaaGreatDoor
