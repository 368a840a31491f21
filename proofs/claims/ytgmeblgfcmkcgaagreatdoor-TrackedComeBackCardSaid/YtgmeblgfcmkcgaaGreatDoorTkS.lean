/- filter.Tracker: small functions: flowOf, back, ended, the closures of see. -/
import Derived.Test.YtgmeblgfcmkcgaaGreatDoorTkR
import Derived.Test.YtgmeblgfcmkcgaaGreatDoorRgS
import Derived.Test.YtgmeblgfcmkcgaaGreatDoorPkD
namespace Go.Proofs.YtgmeblgfcmkcgaaGreatDoor
open Go.RowKit Go.Hw

def tkB (last : Int) (A : Option Addr) (n cap : Nat) : Array Value := #[.slice none 0 0, .int .i64 10, .int .i64 100, .int .i64 5, .int .i64 50, .int .i64 10, .int .i64 last, .slice A n cap]
theorem tkB_cells {w : World} {T : Nat} {last : Int} {A : Option Addr} {n cap : Nat} {t : TypeId} (h : w.heap[T]? = some (.cells (tkB last A n cap) t (0, 0))) :
    (w.cell? ⟨T, 0, none⟩ = some (.slice none 0 0) ∧ w.cell? ⟨T, 1, none⟩ = some (.int .i64 10) ∧ w.cell? ⟨T, 2, none⟩ = some (.int .i64 100) ∧ w.cell? ⟨T, 3, none⟩ = some (.int .i64 5) ∧ w.cell? ⟨T, 4, none⟩ = some (.int .i64 50) ∧ w.cell? ⟨T, 5, none⟩ = some (.int .i64 10) ∧ w.cell? ⟨T, 6, none⟩ = some (.int .i64 last) ∧ w.cell? ⟨T, 7, none⟩ = some (.slice A n cap)) ∧
    w.frozen? ⟨T, 6, none⟩ = false ∧ w.frozen? ⟨T, 7, none⟩ = false ∧ T < w.heap.size :=
  ⟨⟨cell_of h 0, cell_of h 1, cell_of h 2, cell_of h 3, cell_of h 4, cell_of h 5, cell_of h 6, cell_of h 7⟩, by simp [World.frozen?, h], by simp [World.frozen?, h], lt_of_block h⟩
set_option maxHeartbeats 1000000 in
theorem ended_any (T : Nat) (last : Int) (A : Option Addr) (n cap : Nat) (x : Tk) (at_ : Int) (w : World) (t : TypeId) (h : w.heap[T]? = some (.cells (tkB last A n cap) t (0, 0))) (h0 : 0 ≤ x.last) (h1 : x.last ≤ 100000) (h2 : 0 ≤ at_) (h3 : at_ ≤ 100000) :
    Calls Tryz.prog 58 #[.pointer (some ⟨T, 0, none⟩), .agg #[.int .i64 x.f.proto, .bool x.f.s6, .int .u64 x.f.sh, .int .u64 x.f.sl, .bool x.f.t6, .int .u64 x.f.th, .int .u64 x.f.tl, .int .i64 x.f.fp, .int .i64 x.f.tp, .int .i64 x.last, .bool x.ans, .bool x.done], .int .i64 at_] w fun e w' => e = .returned (.bool (endedT at_ x)) ∧ Below w.heap.size w w' := by
  obtain ⟨⟨c0, c1, c2, c3, c4, c5, c6, c7⟩, -, -, lT⟩ := tkB_cells h
  clear h
  obtain ⟨f, xl, ans, done⟩ := x
  dsimp only at h0 h1
  have s0 : IntKind.i64.wrap (at_ - xl) = at_ - xl := IntWalk.i64_in _ (by omega)
  cases done
  · cases ans
    · go_enter Tryz.func58, Tryz.ntmps58
      go_wp2_with fail
      go_ret
      exact ⟨rfl, bl_alloc w _⟩
    · by_cases hp : f.proto = 6
      · have e6 : (f.proto == 6) = true := by simpa using hp
        have HP := Lib.hid (show endedT at_ ⟨f, xl, true, false⟩ = decide ((100 : Int) ≤ at_ - xl) from by unfold endedT longT; simp [hp])
        clear hp
        go_enter Tryz.func58, Tryz.ntmps58
        go_wp2_with fail
        go_ret
        exact ⟨by rw [HP.out]; rfl, bl_alloc w _⟩
      · have e6 : (f.proto == 6) = false := by simpa using hp
        have HP := Lib.hid (show endedT at_ ⟨f, xl, true, false⟩ = decide ((50 : Int) ≤ at_ - xl) from by unfold endedT longT; simp [hp])
        clear hp
        go_enter Tryz.func58, Tryz.ntmps58
        go_wp2_with fail
        go_ret
        exact ⟨by rw [HP.out]; rfl, bl_alloc w _⟩
  · go_enter Tryz.func58, Tryz.ntmps58
    go_wp2_with fail
    go_ret
    exact ⟨rfl, bl_alloc w _⟩
theorem bl_set {w w' : World} {R i : Nat} {v : Value} (h : Below w.heap.size w w') (hR : w.heap.size ≤ R) : Below w.heap.size w (w'.setCell ⟨R, i, none⟩ v) :=
  ⟨h.os, h.tape, h.output, by have := h.size; simpa [World.setCell] using this, fun k hk => (Below.heap_setCell w' ⟨R, i, none⟩ v k (by show k ≠ R; omega)).trans (h.block k hk)⟩
set_option maxHeartbeats 1000000 in
theorem flowOf_any (p : Pk) (w : World) : Calls Tryz.prog 28 #[.agg #[.bool p.f.s6, .int .u64 p.f.sh, .int .u64 p.f.sl, .bool p.f.t6, .int .u64 p.f.th, .int .u64 p.f.tl, .int .i64 p.hops, .int .i64 p.f.proto, .int .i64 p.f.fp, .int .i64 p.f.tp, .bool p.syn, .bool p.fin, .bool p.rst, .bool p.has, .int .i64 p.seq, .int .i64 p.ack, .bool p.reply, .int .i64 p.id, .slice p.pA p.pn p.pc]] w fun e w' => e = .returned (.agg #[.int .i64 p.f.proto, .bool p.f.s6, .int .u64 p.f.sh, .int .u64 p.f.sl, .bool p.f.t6, .int .u64 p.f.th, .int .u64 p.f.tl, .int .i64 p.f.fp, .int .i64 p.f.tp]) ∧ Below w.heap.size w w' := by
  go_enter Tryz.func28, Tryz.ntmps28
  go_wp2_with fail
  exact bodyPost_ret (v := .agg #[.int .i64 p.f.proto, .bool p.f.s6, .int .u64 p.f.sh, .int .u64 p.f.sl, .bool p.f.t6, .int .u64 p.f.th, .int .u64 p.f.tl, .int .i64 p.f.fp, .int .i64 p.f.tp]) (by simp [results, Tryz.results28, go_sem]) rfl ⟨rfl, (by (repeat (first | exact Below.refl _ _ | refine bl_al ?_ | refine bl_set ?_ (by omega))))⟩
set_option maxHeartbeats 1000000 in
theorem back_any (f : Fl) (w : World) : Calls Tryz.prog 61 #[.agg #[.int .i64 f.proto, .bool f.s6, .int .u64 f.sh, .int .u64 f.sl, .bool f.t6, .int .u64 f.th, .int .u64 f.tl, .int .i64 f.fp, .int .i64 f.tp]] w fun e w' => e = .returned (.agg #[.int .i64 (backF f).proto, .bool (backF f).s6, .int .u64 (backF f).sh, .int .u64 (backF f).sl, .bool (backF f).t6, .int .u64 (backF f).th, .int .u64 (backF f).tl, .int .i64 (backF f).fp, .int .i64 (backF f).tp]) ∧ Below w.heap.size w w' := by
  go_enter Tryz.func61, Tryz.ntmps61
  go_wp2_with fail
  exact bodyPost_ret (v := .agg #[.int .i64 (backF f).proto, .bool (backF f).s6, .int .u64 (backF f).sh, .int .u64 (backF f).sl, .bool (backF f).t6, .int .u64 (backF f).th, .int .u64 (backF f).tl, .int .i64 (backF f).fp, .int .i64 (backF f).tp]) (by simp [results, Tryz.results61, go_sem, backF]) rfl ⟨rfl, (by (repeat (first | exact Below.refl _ _ | refine bl_al ?_ | refine bl_set ?_ (by omega))))⟩
end Go.Proofs.YtgmeblgfcmkcgaaGreatDoor
