/- == of addresses and flows (picked from TkT). Reports: IndexFunc, ContainsFunc, Equal. -/
import Derived.Test.YthjfnlbekbhmgaaGreatDoorPkA
import Derived.Test.YthjfnlbekbhmgaaGreatDoorRwB
import Derived.WalkSmall
import Derived.BigQuiet
import Derived.Test.YthjfnlbekbhmgaaGreatDoorRpR
namespace Go.Proofs.YthjfnlbekbhmgaaGreatDoor
open Go.RowKit Go.Hw
theorem run_eq_addr (d : Nat) (a b : Bool) (x y u v : Int) (w : World) : (Op.equalIn (d + 2) 35 (.agg #[.bool a, .int .u64 x, .int .u64 u]) (.agg #[.bool b, .int .u64 y, .int .u64 v])).run Tryz.prog w = .ok (a == b && (x == y && u == v)) w := by
  have hA : Tryz.prog.underlying 35 = some (.struct (Tryz.prog.fieldsOf 35)) := by kernel_rfl
  have pA : Tryz.prog.stoodInHeld 35 = false := by kernel_rfl
  rw [run_equalIn_agg w (d + 1) 35 _ _ hA pA]
  simp only [Program.fieldsOf, Tryz.underlying35]
  go_simp
  by_cases h1 : a = b <;> by_cases h2 : x = y <;> by_cases h3 : u = v <;> simp [h1, h2, h3]
set_option maxRecDepth 100000 in
set_option maxHeartbeats 2000000 in
theorem run_eq_fl (d : Nat) (f g : Fl) (w : World) : (Op.equalIn (d + 4) 37 (.agg #[.int .i64 f.proto, .bool f.s6, .int .u64 f.sh, .int .u64 f.sl, .bool f.t6, .int .u64 f.th, .int .u64 f.tl, .int .i64 f.fp, .int .i64 f.tp]) (.agg #[.int .i64 g.proto, .bool g.s6, .int .u64 g.sh, .int .u64 g.sl, .bool g.t6, .int .u64 g.th, .int .u64 g.tl, .int .i64 g.fp, .int .i64 g.tp])).run Tryz.prog w = .ok (decide (f = g)) w := by
  have u2 := Tryz.underlying3
  have hA : Tryz.prog.underlying 37 = some (.struct (Tryz.prog.fieldsOf 37)) := by kernel_rfl
  have pA : Tryz.prog.stoodInHeld 37 = false := by kernel_rfl
  have hx := run_eq_addr
  rw [run_equalIn_agg w (d + 3) 37 _ _ hA pA]
  simp only [Program.fieldsOf, Tryz.underlying37]
  go_simp
  by_cases h : f = g
  · subst h; simp
  · rw [decide_eq_false h]
    have hn : ¬ (f.proto = g.proto ∧ (f.s6 = g.s6 ∧ f.sh = g.sh ∧ f.sl = g.sl) ∧ (f.t6 = g.t6 ∧ f.th = g.th ∧ f.tl = g.tl) ∧ f.fp = g.fp ∧ f.tp = g.tp) := by
      intro c
      apply h
      cases f; cases g
      simp_all
    split
    · split
      · rfl
      · rename_i c1 c2
        split
        · rfl
        · rename_i c3
          split
          · split
            · rename_i c4 c5
              exfalso
              simp only [Classical.not_imp, Classical.not_not] at c2 c3
              exact hn ⟨c1, c2, c3, c4, c5⟩
            · rfl
          · rfl
    · rfl
end Go.Proofs.YthjfnlbekbhmgaaGreatDoor

namespace Go.Proofs.YthjfnlbekbhmgaaGreatDoor
open Go.RowKit Go.Hw

def rqC (e : Rp) : List Value := [.string e.node, .int .i64 e.hour, .bool e.out, .int .i64 e.f.proto, .bool e.f.s6, .int .u64 e.f.sh, .int .u64 e.f.sl, .bool e.f.t6, .int .u64 e.f.th, .int .u64 e.f.tl, .int .i64 e.f.fp, .int .i64 e.f.tp, .int .i64 e.pk, .int .i64 e.by_]
theorem rqC_len (e : Rp) : (rqC e).length = 14 := rfl
abbrev rqAt (w : World) (A : Option Addr) (L : List Rp) : Prop := RwAt rqC 14 noRp w A L
abbrev rqOwn (w : World) (base : Nat) (v : Value) (L : List Rp) : Prop := w.ownsRow base 39 14 v L.length (rwC rqC L)
theorem rq_cells {w : World} {g o : Nat} {e : Rp} (h : RwCells w g o (rqC e)) : w.cell? ⟨g, o, none⟩ = some (.string e.node) ∧ w.cell? ⟨g, o + 1, none⟩ = some (.int .i64 e.hour) ∧ w.cell? ⟨g, o + 2, none⟩ = some (.bool e.out) ∧ w.cell? ⟨g, o + 3, none⟩ = some (.int .i64 e.f.proto) ∧ w.cell? ⟨g, o + 4, none⟩ = some (.bool e.f.s6) ∧ w.cell? ⟨g, o + 5, none⟩ = some (.int .u64 e.f.sh) ∧ w.cell? ⟨g, o + 6, none⟩ = some (.int .u64 e.f.sl) ∧ w.cell? ⟨g, o + 7, none⟩ = some (.bool e.f.t6) ∧ w.cell? ⟨g, o + 8, none⟩ = some (.int .u64 e.f.th) ∧ w.cell? ⟨g, o + 9, none⟩ = some (.int .u64 e.f.tl) ∧ w.cell? ⟨g, o + 10, none⟩ = some (.int .i64 e.f.fp) ∧ w.cell? ⟨g, o + 11, none⟩ = some (.int .i64 e.f.tp) ∧ w.cell? ⟨g, o + 12, none⟩ = some (.int .i64 e.pk) ∧ w.cell? ⟨g, o + 13, none⟩ = some (.int .i64 e.by_) := ⟨h 0 _ rfl, h 1 _ rfl, h 2 _ rfl, h 3 _ rfl, h 4 _ rfl, h 5 _ rfl, h 6 _ rfl, h 7 _ rfl, h 8 _ rfl, h 9 _ rfl, h 10 _ rfl, h 11 _ rfl, h 12 _ rfl, h 13 _ rfl⟩

/-- What is asked of a closure over these structs. -/
def rqPred (g : Nat) (lb : Array Value) (p : Rp → Bool) (L : List Rp) (w : World) : Prop :=
  ∀ (W : World) (e : Rp), e ∈ L → Below w.heap.size w W → Calls Tryz.prog g (#[.agg #[.string e.node, .int .i64 e.hour, .bool e.out, .int .i64 e.f.proto, .bool e.f.s6, .int .u64 e.f.sh, .int .u64 e.f.sl, .bool e.f.t6, .int .u64 e.f.th, .int .u64 e.f.tl, .int .i64 e.f.fp, .int .i64 e.f.tp, .int .i64 e.pk, .int .i64 e.by_]] ++ lb) W fun en w' => en = .returned (.bool (p e)) ∧ Below W.heap.size W w'

set_option maxRecDepth 100000 in
set_option maxHeartbeats 1000000 in
theorem rq_idx (A : Option Addr) (cap : Nat) (L : List Rp) (g : Nat) (lb : Array Value) (p : Rp → Bool) (w : World) (eg : ∀ args w, (callFunc g args).run Tryz.prog w = .ok (.enter g args) w)
    (h : rqAt w A L) (hl : L.length ≤ 1000000) (hp : rqPred g lb p L w) :
    Calls Tryz.prog 41 #[.slice A L.length cap, .func (.func g) #[] lb] w fun e w' => e = .returned (.int .i64 (rwIdx p L)) ∧ Below w.heap.size w w' := by
  go_enter Tryz.func41, Tryz.ntmps41
  go_wp2_with fail
  go_loopw [8] (fun v wr => ∃ k : Nat, k ≤ L.length ∧ v = .int .i64 k ∧ (∀ j, j < k → p (L.getD j noRp) = false) ∧ Below w.heap.size w wr) (fun v _ => L.length - (intOf v).toNat)
  case atStart => exact ⟨0, Nat.zero_le _, rfl, fun j hj => by omega, Below.refl _ _⟩
  case round =>
    obtain ⟨k, hk, rfl, hf, hb⟩ := hrel
    have hlr := h.below hb
    by_cases hlt : k < L.length
    · obtain ⟨g5, off, rfl, hgB, hcc⟩ := hlr k hlt
      obtain ⟨c0, c1, c2, c3, c4, c5, c6, c7, c8, c9, c10, c11, c12, c13⟩ := rq_cells hcc
      have HCALL := hp wr (L.getD k noRp) (rw_mem hlt) hb
      generalize hx : L.getD k noRp = x at *
      have HF := Lib.hid hf
      have HX := Lib.hid hx
      have HB := Lib.hid hb
      clear hf hx hp hb hlr h hcc
      have hd : decide ((k : Int) < (L.length : Int)) = true := by simp; omega
      cases hq : p x
      · rw [hq] at HCALL
        go_wp2_with (go_at_fn g; refine HCALL.mono ?_; rintro e w1 ⟨rfl, hb1⟩)
        go_roundw
        case rel => exact ⟨k + 1, by omega, by go_num, fun j hj => (by
          by_cases e : j = k
          · rw [e, HX.out]; exact hq
          · exact HF.out j (by omega)), HB.out.trans (hb1.mono HB.out.size)⟩
        case measure => simp [intOf]; omega
      · rw [hq] at HCALL
        go_wp2_with (go_at_fn g; refine HCALL.mono ?_; rintro e w1 ⟨rfl, hb1⟩)
        go_ret
        exact ⟨ret_eq (rwIdx_at hlt HF.out (by rw [HX.out]; exact hq)).symm, HB.out.trans (hb1.mono HB.out.size)⟩
    · have : k = L.length := by omega
      subst this
      have HF := Lib.hid hf
      clear hf
      go_wp2_with fail
      go_ret
      exact ⟨ret_eq (rwIdx_none HF.out).symm, hb⟩

set_option maxRecDepth 100000 in
set_option maxHeartbeats 400000 in
theorem rq_any (A : Option Addr) (cap : Nat) (L : List Rp) (g : Nat) (lb : Array Value) (p : Rp → Bool) (w : World) (eg : ∀ args w, (callFunc g args).run Tryz.prog w = .ok (.enter g args) w)
    (h : rqAt w A L) (hl : L.length ≤ 1000000) (hp : rqPred g lb p L w) :
    Calls Tryz.prog 12 #[.slice A L.length cap, .func (.func g) #[] lb] w fun e w' => e = .returned (.bool (L.any p)) ∧ Below w.heap.size w w' := by
  have hcall := rq_idx A cap L g lb p w eg h hl hp
  rcases rwIdx_any p L with ⟨h1, h2⟩ | ⟨h1, h2⟩
  · rw [h1]
    generalize rwIdx p L = r at *
    go_enter Tryz.func12, Tryz.ntmps12
    go_wp2_with fail
    refine hcall.mono ?_
    rintro e w1 ⟨rfl, hb⟩
    go_wp2_with fail
    go_ret
    exact ⟨rfl, hb⟩
  · rw [h1]
    rw [h2] at hcall
    go_enter Tryz.func12, Tryz.ntmps12
    go_wp2_with fail
    refine hcall.mono ?_
    rintro e w1 ⟨rfl, hb⟩
    go_wp2_with fail
    go_ret
    exact ⟨rfl, hb⟩

theorem rq_zero (w : World) : (zeroValue 39).run Tryz.prog w = .ok (.agg #[.string ⟨#[]⟩, .int .i64 0, .bool false, .int .i64 0, .bool false, .int .u64 0, .int .u64 0, .bool false, .int .u64 0, .int .u64 0, .int .i64 0, .int .i64 0, .int .i64 0, .int .i64 0]) w := by kernel_rfl
def rqZ : Array Value := #[.string ⟨#[]⟩, .int .i64 0, .bool false, .int .i64 0, .bool false, .int .u64 0, .int .u64 0, .bool false, .int .u64 0, .int .u64 0, .int .i64 0, .int .i64 0, .int .i64 0, .int .i64 0]
theorem rq_clear (w : World) (ty : TypeId) (b o n c : Nat) (hn : 0 < n) (hc : ∀ j, j < n * 14 → (w.cell? ⟨b, o + j, none⟩).isSome = true) (hf : ∀ j, j < n * 14 → w.frozen? ⟨b, o + j, none⟩ = false) :
    (Builtin.clear_ #[26] ty #[.slice (some ⟨b, o, none⟩) n c]).run Tryz.prog w = .ok (.tuple #[]) (w.setCells b o (Builtin.zeroCells rqZ n).toList) := by
  have hl : (Builtin.zeroCells rqZ n).toList.length = n * 14 := by
    simp [Builtin.zeroCells, rqZ]
  have h1 : ∀ v ∈ (Builtin.zeroCells rqZ n).toList, v.oneCell' = true := by
    intro v hv
    simp only [Builtin.zeroCells, Array.toList_map, List.mem_map] at hv
    obtain ⟨i, _, rfl⟩ := hv
    have hi : i % rqZ.size < 14 := Nat.mod_lt _ (by decide)
    generalize i % rqZ.size = k at hi
    have : k = 0 ∨ k = 1 ∨ k = 2 ∨ k = 3 ∨ k = 4 ∨ k = 5 ∨ k = 6 ∨ k = 7 ∨ k = 8 ∨ k = 9 ∨ k = 10 ∨ k = 11 ∨ k = 12 ∨ k = 13 := by omega
    rcases this with rfl | rfl | rfl | rfl | rfl | rfl | rfl | rfl | rfl | rfl | rfl | rfl | rfl | rfl <;> rfl
  have hst := run_storeCells_cells (P := Tryz.prog) b o (Builtin.zeroCells rqZ n).toList 0 w (by rw [hl]; simpa using hc) (by rw [hl]; simpa using hf) h1
  simp only [Nat.add_zero] at hst
  have hz := rq_zero w
  obtain ⟨m, rfl⟩ : ∃ m, n = m + 1 := ⟨n - 1, by omega⟩
  have hcells : (Value.agg #[.string ⟨#[]⟩, .int .i64 0, .bool false, .int .i64 0, .bool false, .int .u64 0, .int .u64 0, .bool false, .int .u64 0, .int .u64 0, .int .i64 0, .int .i64 0, .int .i64 0, .int .i64 0]).cells = rqZ := rfl
  simp [Builtin.clear_, run_underlying Tryz.underlying26, hz, hcells, hst]

theorem rq_eqrun (d : Nat) (r : Rp) (w : World) : (Op.equalIn (d + 5) 39 (.agg #[.string r.node, .int .i64 r.hour, .bool r.out, .int .i64 r.f.proto, .bool r.f.s6, .int .u64 r.f.sh, .int .u64 r.f.sl, .bool r.f.t6, .int .u64 r.f.th, .int .u64 r.f.tl, .int .i64 r.f.fp, .int .i64 r.f.tp, .int .i64 r.pk, .int .i64 r.by_]) (.agg #[.string r.node, .int .i64 r.hour, .bool r.out, .int .i64 r.f.proto, .bool r.f.s6, .int .u64 r.f.sh, .int .u64 r.f.sl, .bool r.f.t6, .int .u64 r.f.th, .int .u64 r.f.tl, .int .i64 r.f.fp, .int .i64 r.f.tp, .int .i64 r.pk, .int .i64 r.by_])).run Tryz.prog w = .ok true w := by
  have u1 := Tryz.underlying9
  have u2 := Tryz.underlying3
  have hA : Tryz.prog.underlying 39 = some (.struct (Tryz.prog.fieldsOf 39)) := by kernel_rfl
  have pA : Tryz.prog.stoodInHeld 39 = false := by kernel_rfl
  have hx := run_eq_fl d r.f r.f
  rw [run_equalIn_agg w (d + 4) 39 _ _ hA pA]
  simp only [Program.fieldsOf, Tryz.underlying39]
  go_simp
theorem rq_guard : Tryz.prog.eqGuardType Tryz.prog.depth 39 = false := by kernel_rfl
set_option maxRecDepth 100000 in
set_option maxHeartbeats 1000000 in
theorem rq_equal (A B : Option Addr) (ca cb : Nat) (L : List Rp) (w : World) (hA : rqAt w A L) (hB : rqAt w B L) (hl : L.length ≤ 1000000) :
    Calls Tryz.prog 14 #[.slice A L.length ca, .slice B L.length cb] w fun e w' => e = .returned (.bool true) ∧ Below w.heap.size w w' := by
  go_enter Tryz.func14, Tryz.ntmps14
  go_wp2_with fail
  go_loopw [13] (fun v wr => ∃ k : Nat, k ≤ L.length ∧ v = .int .i64 k ∧ Below w.heap.size w wr) (fun v _ => L.length - (intOf v).toNat)
  case atStart => exact ⟨0, Nat.zero_le _, rfl, Below.refl _ _⟩
  case round =>
    obtain ⟨k, hk, rfl, hb⟩ := hrel
    by_cases hlt : k < L.length
    · obtain ⟨g, off, rfl, hgB, hcc⟩ := (hA.below hb) k hlt
      obtain ⟨g2, off2, rfl, hgB2, hcc2⟩ := (hB.below hb) k hlt
      obtain ⟨c0, c1, c2, c3, c4, c5, c6, c7, c8, c9, c10, c11, c12, c13⟩ := rq_cells hcc
      obtain ⟨d0, d1, d2, d3, d4, d5, d6, d7, d8, d9, d10, d11, d12, d13⟩ := rq_cells hcc2
      generalize L.getD k noRp = x at *
      have hgd := rq_guard
      have hrq := fun W => rq_eqrun 9995 x W
      have HB := Lib.hid hb
      have hd : decide ((k : Int) < (L.length : Int)) = true := by simp; omega
      clear hcc hcc2 hb hA hB
      go_wp2_with fail
      go_quiet (fail)
      go_wp2_with fail
      go_roundw
      case rel => exact ⟨k + 1, by omega, by go_num, ⟨HB.out.os, HB.out.tape, HB.out.output, HB.out.size, HB.out.block⟩⟩
      case measure => simp [intOf]; omega
    · have : k = L.length := by omega
      subst this
      go_wp2_with fail
      go_ret
      exact ⟨rfl, hb⟩

end Go.Proofs.YthjfnlbekbhmgaaGreatDoor
