/- The flow that a stream hands out is right. -/
import Derived.Test.YthjfnlbekbhmgaaGreatDoorDsA
import Derived.Test.YthjfnlbekbhmgaaGreatDoorPkA
import Derived.Deep.Cut
import Derived.Deep.CutRange
import Derived.Deep.DeepCutAuto
import Derived.Deep.RegionHeld3
import Derived.Deep.RegionLaw
import Derived.OwnWalk
namespace Go.Proofs.YthjfnlbekbhmgaaGreatDoor
open Go.RowKit Go.Hw

theorem bl_alloc (w : World) (o : Obj) : Below w.heap.size w (w.alloc o) := (Below.refl _ _).alloc (Nat.le_refl _) _
theorem at_any (n : Int) (w : World) (h0 : 0 ≤ n) (h1 : n ≤ 1000000) : Calls Tryz.prog 20 #[.int .i64 n] w fun e w' => e = .returned (.agg #[.bool false, .int .u64 0, .int .u64 (1681915904 + n)]) ∧ Below w.heap.size w w' := by
  have c1 : IntKind.u64.wrap n = n := IntWalk.u64_in _ (by omega)
  have c2 : IntKind.u64.wrap (1681915904 + n) = 1681915904 + n := IntWalk.u64_in _ (by omega)
  go_enter Tryz.func20, Tryz.ntmps20
  go_wp2_with fail
  exact bodyPost_ret (v := .agg #[.bool false, .int .u64 0, .int .u64 (1681915904 + n)]) (by simp [results, Tryz.results20, go_sem]) rfl ⟨rfl, bl_alloc w _⟩
theorem sixAt_any (n : Int) (w : World) (h0 : 0 ≤ n) (h1 : n ≤ 1000000) : Calls Tryz.prog 90 #[.int .i64 n] w fun e w' => e = .returned (.agg #[.bool true, .int .u64 18230571291595767808, .int .u64 n]) ∧ Below w.heap.size w w' := by
  have c1 : IntKind.u64.wrap n = n := IntWalk.u64_in _ (by omega)
  go_enter Tryz.func90, Tryz.ntmps90
  go_wp2_with fail
  exact bodyPost_ret (v := .agg #[.bool true, .int .u64 18230571291595767808, .int .u64 n]) (by simp [results, Tryz.results90, go_sem]) rfl ⟨rfl, bl_alloc w _⟩
def flA (f : Fl) : Array Value := #[.int .i64 f.proto, .bool f.s6, .int .u64 f.sh, .int .u64 f.sl, .bool f.t6, .int .u64 f.th, .int .u64 f.tl, .int .i64 f.fp, .int .i64 f.tp]
/-- A right flow of a protocol; the ports are 0 but for those that have some. -/
structure FlR (f : Fl) : Prop extends FlOk f where
  proto : f.proto = 6 ∨ f.proto = 17 ∨ f.proto = 1 ∨ f.proto = 47
  none : f.proto ≠ 6 → f.proto ≠ 17 → f.fp = 0 ∧ f.tp = 0
/-- A flow in a block, and the result's block. -/
def FlMid (w w' : World) (b : Nat) (A : Option Addr) (cap : Nat) (l : List Int) (at_ m : Int) (F : Nat) (p : Fl → Prop) : Prop := ∃ f : Fl, p f ∧ DS w w' b A cap l at_ m [(F, flA f, 37), (w.heap.size, flA noFl, 37)]
theorem DS.tail {w0 w : World} {b : Nat} {A : Option Addr} {cap : Nat} {l : List Int} {at_ m : Int} {p : Bk} {bs : List Bk} (h : DS w0 w b A cap l at_ m (p :: bs)) : DS w0 w b A cap l at_ m bs := h.drop
theorem flA_cells {w0 w : World} {b : Nat} {A : Option Addr} {cap : Nat} {l : List Int} {at_ m : Int} {bs : List Bk} {F : Nat} {T : TypeId} {f : Fl} (D : DS w0 w b A cap l at_ m ((F, flA f, T) :: bs)) :
    (w.cell? ⟨F, 0, none⟩ = some (.int .i64 f.proto) ∧ w.cell? ⟨F, 1, none⟩ = some (.bool f.s6) ∧ w.cell? ⟨F, 2, none⟩ = some (.int .u64 f.sh) ∧ w.cell? ⟨F, 3, none⟩ = some (.int .u64 f.sl) ∧ w.cell? ⟨F, 4, none⟩ = some (.bool f.t6) ∧ w.cell? ⟨F, 5, none⟩ = some (.int .u64 f.th) ∧ w.cell? ⟨F, 6, none⟩ = some (.int .u64 f.tl) ∧ w.cell? ⟨F, 7, none⟩ = some (.int .i64 f.fp) ∧ w.cell? ⟨F, 8, none⟩ = some (.int .i64 f.tp)) ∧
    (w.frozen? ⟨F, 0, none⟩ = false ∧ w.frozen? ⟨F, 1, none⟩ = false ∧ w.frozen? ⟨F, 2, none⟩ = false ∧ w.frozen? ⟨F, 3, none⟩ = false ∧ w.frozen? ⟨F, 4, none⟩ = false ∧ w.frozen? ⟨F, 5, none⟩ = false ∧ w.frozen? ⟨F, 6, none⟩ = false ∧ w.frozen? ⟨F, 7, none⟩ = false ∧ w.frozen? ⟨F, 8, none⟩ = false) :=
  ⟨⟨D.cell 0 0 rfl rfl, D.cell 0 1 rfl rfl, D.cell 0 2 rfl rfl, D.cell 0 3 rfl rfl, D.cell 0 4 rfl rfl, D.cell 0 5 rfl rfl, D.cell 0 6 rfl rfl, D.cell 0 7 rfl rfl, D.cell 0 8 rfl rfl⟩,
   ⟨D.froz 0 0 rfl, D.froz 0 1 rfl, D.froz 0 2 rfl, D.froz 0 3 rfl, D.froz 0 4 rfl, D.froz 0 5 rfl, D.froz 0 6 rfl, D.froz 0 7 rfl, D.froz 0 8 rfl⟩⟩
set_option maxRecDepth 100000 in
set_option maxHeartbeats 4000000 in
theorem rightFlow_any (b : Nat) (A : Option Addr) (cap : Nat) (l : List Int) (at_ : Int) (w : World) (h : Str w b A cap l at_) (hh : at_ < 1099511620000) :
    Calls Tryz.prog 55 #[.pointer (some ⟨b, 0, none⟩)] w fun e w' => (∃ f : Fl, FlR f ∧ e = .returned (.agg (flA f))) ∧ StrTo w w' b A cap l at_ 12 := by
  have D0 := (DS.start h).al (flA noFl) 37
  go_enter Tryz.func55, Tryz.ntmps55
  go_wp2_with fail
  refine (D0.pk (by omega) [6, 6, 6, 17, 1, 47] (by simp) rfl (by simp) (by simp) 6 6 rfl).mono ?_
  rintro e W1 ⟨⟨d1, hd1, rfl⟩, D1, hg1⟩
  clear D0 hg1
  go_wp2_with fail
  refine (D1.range (by omega) 0 5 (by omega) (by omega) (by omega) (by omega)).mono ?_
  rintro e W2 ⟨⟨d2, h20, h25, rfl⟩, D2, -⟩
  clear D1
  go_wp2_with fail
  refine (at_any d2 W2 h20 (by omega)).mono ?_
  rintro e W3 ⟨rfl, hb3⟩
  have D3 := D2.bl hb3
  clear D2 hb3
  go_wp2_with fail
  refine (D3.range (by omega) 0 5 (by omega) (by omega) (by omega) (by omega)).mono ?_
  rintro e W4 ⟨⟨d3, h30, h35, rfl⟩, D4, -⟩
  clear D3
  go_wp2_with fail
  refine (at_any d3 W4 h30 (by omega)).mono ?_
  rintro e W5 ⟨rfl, hb5⟩
  have D5 := (D4.bl hb5).al (flA ⟨d1, false, 0, 1681915904 + d2, false, 0, 1681915904 + d3, 0, 0⟩) 37
  have M5 : FlMid w (W5.alloc (.cells (flA ⟨d1, false, 0, 1681915904 + d2, false, 0, 1681915904 + d3, 0, 0⟩) 37)) b A cap l at_ 3 W5.heap.size (fun f => (FlOk f ∧ (f.proto = 6 ∨ f.proto = 17 ∨ f.proto = 1 ∨ f.proto = 47) ∧ f.fp = 0 ∧ f.tp = 0) ∧ f.s6 = false) :=
    ⟨_, ⟨⟨⟨rfl, ⟨by simp, by simp, by simp; omega, by simp; omega, fun _ => ⟨rfl, by simp; omega⟩⟩, ⟨by simp, by simp, by simp; omega, by simp; omega, fun _ => ⟨rfl, by simp; omega⟩⟩, by simp, by simp⟩, by simpa using hd1, rfl, rfl⟩, rfl⟩, D5.le (by omega)⟩
  clear D4 hb5 D5
  go_wp2_with fail
  generalize hW : World.alloc W5 _ = W6
  generalize hF : W5.heap.size = F at *
  obtain ⟨f, hf, D6⟩ := (show FlMid w W6 b A cap l at_ 3 F _ from hW ▸ M5)
  clear M5 hW hd1 hF
  refine (D6.flip (by omega) 4 (by omega) (by omega)).mono ?_
  rintro e W7 ⟨⟨y, rfl⟩, D7, -⟩
  clear D6
  go_upto_if 15 with (fail)
  go_cut [] (fun wc => FlMid w wc b A cap l at_ 5 F (fun f => (FlOk f ∧ (f.proto = 6 ∨ f.proto = 17 ∨ f.proto = 1 ∨ f.proto = 47) ∧ f.fp = 0 ∧ f.tp = 0) ∧ f.s6 = false))
  case first =>
    cases y
    · go_wp2_with fail
      go_meet
      exact ⟨f, hf, D7.le (by omega)⟩
    · go_wp2_with fail
      refine (D7.pk (by omega) [0, 5, 65536] (by simp) rfl (by simp) (by simp) 3 3 rfl).mono ?_
      rintro e W8 ⟨⟨d, hd, rfl⟩, D8, -⟩
      clear D7
      have e1 : IntKind.u64.wrap d = d := IntWalk.u64_in _ (by simp at hd; omega)
      have e2 : IntKind.u64.wrap (167772160 + d) = 167772160 + d := IntWalk.u64_in _ (by simp at hd; omega)
      obtain ⟨⟨c0, c1, c2, c3, c4, c5, c6, c7, c8⟩, z0, z1, z2, z3, z4, z5, z6, z7, z8⟩ := flA_cells D8
      go_wp2_with fail
      go_meet
      exact ⟨{ f with t6 := false, th := 0, tl := 167772160 + d }, ⟨⟨⟨hf.2.symm, hf.1.1.src, ⟨by simp, by simp, by simp at hd ⊢; omega, by simp at hd ⊢; omega, fun _ => ⟨rfl, by simp at hd ⊢; omega⟩⟩, hf.1.1.fp, hf.1.1.tp⟩, hf.1.2⟩, hf.2⟩, ((D8.set 0 4 _ rfl).set 0 5 _ rfl).set 0 6 _ rfl⟩
  case rest =>
    obtain ⟨f, hf, D8⟩ := hcut
    clear D7
    go_wp2_with fail
    refine (D8.flip (by omega) 5 (by omega) (by omega)).mono ?_
    rintro e W9 ⟨⟨y, rfl⟩, D9, -⟩
    clear D8
    go_upto_if 24 with (fail)
    go_cut [] (fun wc => FlMid w wc b A cap l at_ 8 F (fun f => FlOk f ∧ (f.proto = 6 ∨ f.proto = 17 ∨ f.proto = 1 ∨ f.proto = 47) ∧ f.fp = 0 ∧ f.tp = 0))
    case first =>
      cases y
      · go_wp2_with fail
        go_meet
        exact ⟨f, hf.1, D9.le (by omega)⟩
      · go_wp2_with fail
        refine (D9.range (by omega) 0 5 (by omega) (by omega) (by omega) (by omega)).mono ?_
        rintro e W2 ⟨⟨d2, h20, h25, rfl⟩, D2, -⟩
        clear D9
        go_wp2_with fail
        refine (sixAt_any d2 W2 h20 (by omega)).mono ?_
        rintro e W3 ⟨rfl, hb3⟩
        have D3 := D2.bl hb3
        clear D2 hb3
        go_wp2_with fail
        refine (D3.range (by omega) 0 5 (by omega) (by omega) (by omega) (by omega)).mono ?_
        rintro e W4 ⟨⟨d3, h30, h35, rfl⟩, D4, -⟩
        clear D3
        go_wp2_with fail
        refine (sixAt_any d3 W4 h30 (by omega)).mono ?_
        rintro e W5 ⟨rfl, hb5⟩
        have D5 := D4.bl hb5
        clear D4 hb5
        obtain ⟨⟨c0, c1, c2, c3, c4, c5, c6, c7, c8⟩, z0, z1, z2, z3, z4, z5, z6, z7, z8⟩ := flA_cells D5
        go_wp2_with fail
        go_meet
        exact ⟨⟨f.proto, true, 18230571291595767808, d2, true, 18230571291595767808, d3, f.fp, f.tp⟩, ⟨⟨rfl, ⟨by simp, by simp, h20, by simp; omega, fun c => by simp at c⟩, ⟨by simp, by simp, h30, by simp; omega, fun c => by simp at c⟩, hf.1.1.fp, hf.1.1.tp⟩, hf.1.2⟩, ((((((D5.set 0 1 _ rfl).set 0 2 _ rfl).set 0 3 _ rfl).set 0 4 _ rfl).set 0 5 _ rfl).set 0 6 _ rfl).le (by omega)⟩
    case rest =>
      obtain ⟨f, ⟨hf1, hf2, hf3⟩, D8⟩ := hcut
      have HZ := Lib.hid hf3
      have hf := And.intro hf1 hf2
      clear hf1 hf2 hf3
      clear D9
      obtain ⟨⟨c0, -⟩, -⟩ := flA_cells D8
      by_cases h6 : f.proto = 6
      · have e1 : (f.proto == 6) = true := by simpa using h6
        have HP : Hid (f.proto ≠ 6 → f.proto ≠ 17 → ∀ {p : Prop}, p) := Lib.hid (fun c => absurd h6 c)
        clear h6
        go_wp2_with fail
        refine (D8.pk (by omega) [0, 5000] (by simp) rfl (by simp) (by simp) 2 2 rfl).mono ?_
        rintro e V1 ⟨⟨p1, hp1, rfl⟩, E1, -⟩
        clear D8 c0
        go_wp2_with fail
        refine (E1.pk (by omega) [0, 22, 79, 80, 85, 90, 91, 100, 443, 65535] (by simp) rfl (by simp) (by simp) 10 10 rfl).mono ?_
        rintro e V2 ⟨⟨p2, hp2, rfl⟩, E2, -⟩
        clear E1
        obtain ⟨⟨c0, c1, c2, c3, c4, c5, c6, c7, c8⟩, z0, z1, z2, z3, z4, z5, z6, z7, z8⟩ := flA_cells E2
        obtain ⟨⟨y0, y1, y2, y3, y4, y5, y6, y7, y8⟩, x0, x1, x2, x3, x4, x5, x6, x7, x8⟩ := flA_cells E2.tail
        have hFR : F ≠ w.heap.size := by have := E2.ne; simp at this; exact this
        go_wp2_with fail
        generalize hW : World.setCell _ _ _ = W9
        have DD := (E2.set 0 7 (.int .i64 p1) rfl).set 0 8 (.int .i64 p2) rfl
        have E4 : DS w W9 b A cap l at_ 12 [(F, flA ({ f with fp := p1, tp := p2 }), 37), (w.heap.size, flA ({ f with fp := p1, tp := p2 }), 37)] := (DD.re 1 rfl (re9 (DD.blk _ (List.mem_of_getElem? (i := 1) rfl)) hW)).le (by omega)
        clear hW E2 DD c0 c1 c2 c3 c4 c5 c6 c7 c8 y0 y1 y2 y3 y4 y5 y6 y7 y8
        obtain ⟨⟨c0, c1, c2, c3, c4, c5, c6, c7, c8⟩, -⟩ := flA_cells E4.tail
        exact bodyPost_ret (v := .agg (flA ({ f with fp := p1, tp := p2 }))) (by simp [results, Tryz.results55, go_sem, flA, c0, c1, c2, c3, c4, c5, c6, c7, c8]) rfl ⟨⟨({ f with fp := p1, tp := p2 }), ⟨⟨hf.1.six, hf.1.src, hf.1.dst, by simp at hp1 ⊢; omega, by simp at hp2 ⊢; omega⟩, hf.2, fun c1 c2 => HP.out c1 c2⟩, rfl⟩, E4.to⟩
      by_cases h7 : f.proto = 17
      · have e1 : (f.proto == 6) = false := by simpa using h6
        have e2 : (f.proto == 17) = true := by simpa using h7
        have HP : Hid (f.proto ≠ 6 → f.proto ≠ 17 → ∀ {p : Prop}, p) := Lib.hid (fun _ c => absurd h7 c)
        clear h7
        go_wp2_with fail
        refine (D8.pk (by omega) [0, 5000] (by simp) rfl (by simp) (by simp) 2 2 rfl).mono ?_
        rintro e V1 ⟨⟨p1, hp1, rfl⟩, E1, -⟩
        clear D8 c0
        go_wp2_with fail
        refine (E1.pk (by omega) [0, 22, 79, 80, 85, 90, 91, 100, 443, 65535] (by simp) rfl (by simp) (by simp) 10 10 rfl).mono ?_
        rintro e V2 ⟨⟨p2, hp2, rfl⟩, E2, -⟩
        clear E1
        obtain ⟨⟨c0, c1, c2, c3, c4, c5, c6, c7, c8⟩, z0, z1, z2, z3, z4, z5, z6, z7, z8⟩ := flA_cells E2
        obtain ⟨⟨y0, y1, y2, y3, y4, y5, y6, y7, y8⟩, x0, x1, x2, x3, x4, x5, x6, x7, x8⟩ := flA_cells E2.tail
        have hFR : F ≠ w.heap.size := by have := E2.ne; simp at this; exact this
        go_wp2_with fail
        generalize hW : World.setCell _ _ _ = W9
        have DD := (E2.set 0 7 (.int .i64 p1) rfl).set 0 8 (.int .i64 p2) rfl
        have E4 : DS w W9 b A cap l at_ 12 [(F, flA ({ f with fp := p1, tp := p2 }), 37), (w.heap.size, flA ({ f with fp := p1, tp := p2 }), 37)] := (DD.re 1 rfl (re9 (DD.blk _ (List.mem_of_getElem? (i := 1) rfl)) hW)).le (by omega)
        clear hW E2 DD c0 c1 c2 c3 c4 c5 c6 c7 c8 y0 y1 y2 y3 y4 y5 y6 y7 y8
        obtain ⟨⟨c0, c1, c2, c3, c4, c5, c6, c7, c8⟩, -⟩ := flA_cells E4.tail
        exact bodyPost_ret (v := .agg (flA ({ f with fp := p1, tp := p2 }))) (by simp [results, Tryz.results55, go_sem, flA, c0, c1, c2, c3, c4, c5, c6, c7, c8]) rfl ⟨⟨({ f with fp := p1, tp := p2 }), ⟨⟨hf.1.six, hf.1.src, hf.1.dst, by simp at hp1 ⊢; omega, by simp at hp2 ⊢; omega⟩, hf.2, fun c1 c2 => HP.out c1 c2⟩, rfl⟩, E4.to⟩
      · have e1 : (f.proto == 6) = false := by simpa using h6
        have e2 : (f.proto == 17) = false := by simpa using h7
        have E2 := D8
        clear D8 c0
        obtain ⟨⟨c0, c1, c2, c3, c4, c5, c6, c7, c8⟩, z0, z1, z2, z3, z4, z5, z6, z7, z8⟩ := flA_cells E2
        obtain ⟨⟨y0, y1, y2, y3, y4, y5, y6, y7, y8⟩, x0, x1, x2, x3, x4, x5, x6, x7, x8⟩ := flA_cells E2.tail
        have hFR : F ≠ w.heap.size := by have := E2.ne; simp at this; exact this
        go_wp2_with fail
        generalize hW : World.setCell _ _ _ = W9
        have DD := E2
        have E4 : DS w W9 b A cap l at_ 12 [(F, flA (f), 37), (w.heap.size, flA (f), 37)] := DS.le (m := 8) (DD.re 1 rfl (re9 (DD.blk _ (List.mem_of_getElem? (i := 1) rfl)) hW)) (by decide)
        clear hW E2 DD c0 c1 c2 c3 c4 c5 c6 c7 c8 y0 y1 y2 y3 y4 y5 y6 y7 y8
        obtain ⟨⟨c0, c1, c2, c3, c4, c5, c6, c7, c8⟩, -⟩ := flA_cells E4.tail
        exact bodyPost_ret (v := .agg (flA (f))) (by simp [results, Tryz.results55, go_sem, flA, c0, c1, c2, c3, c4, c5, c6, c7, c8]) rfl ⟨⟨(f), ⟨hf.1, hf.2, fun _ _ => HZ.out⟩, rfl⟩, E4.to⟩
end Go.Proofs.YthjfnlbekbhmgaaGreatDoor
