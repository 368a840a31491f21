/- laneref2.AddrText: some string. strconv.FormatInt at groups; laneref2.groupsOf. -/
import Derived.Test.YtcicednopgpjfaaGreatDoorAxD
import Derived.Test.YtcicednopgpjfaaGreatDoorSpB
import Derived.Lib.ItoaLen
namespace Go.Proofs.YtcicednopgpjfaaGreatDoor
open Go.RowKit Go.Hw Go.Shelf
set_option maxRecDepth 100000 in
theorem fmtI16 (v : Nat) (hv : v < 65536) (w : World) (h : w.cell? ⟨7, 15, none⟩ = some (.int .u8 4)) :
    Calls Tryz.prog 54 #[.int .i64 v, .int .i64 16] w fun e w' => e = .returned (.string (toB (hexL v))) ∧ Below w.heap.size w w' := by
  have h1 : Calls Tryz.prog 92 #[.int .i64 v, .int .i64 16] w fun e w' => e = .returned (.string (toB (hexL v))) ∧ Below w.heap.size w w' := by
    have h1 := formatBits4 v hv w h
    have h2 : IntKind.u64.wrap (v : Int) = (v : Int) := IntWalk.u64_in _ (by omega)
    have h3 : decide ((v : Int) < 0) = false := by simp
    go_enter Tryz.func92, Tryz.ntmps92
    go_wp2_with fail
    refine h1.mono ?_
    rintro e w1 ⟨rfl, hb1⟩
    have HB := Lib.hid hb1
    clear h1 hb1
    go_wp2_with fail
    go_ret
    exact ⟨rfl, HB.out⟩
  go_enter Tryz.func54, Tryz.ntmps54
  go_wp2_with fail
  refine h1.mono ?_
  rintro e w1 ⟨rfl, hb1⟩
  have HB := Lib.hid hb1
  clear h1 hb1
  go_wp2_with fail
  go_ret
  exact ⟨rfl, HB.out⟩
theorem own_base8 {w : World} {base base' : Nat} {e : TypeId} {size : Nat} {v : Value} {n : Nat} {xs : List Value} (h : w.ownsRow base e size v n xs) (hb : base' ≤ base) : w.ownsRow base' e size v n xs := by
  refine ⟨h.1, ?_⟩
  rcases h.2 with h1 | ⟨g, cap, cur, h1, h2, h3⟩
  · exact .inl h1
  · exact .inr ⟨g, cap, cur, h1, Nat.le_trans hb h2, h3⟩
/-- The groups of an address, as the reference lists them. -/
def grL (six : Bool) (hi lo : Int) : List Int := (List.range 8).map (fun i => wd six hi lo (7 - i))
theorem grL_take (six : Bool) (hi lo : Int) {k : Nat} (hk : k < 8) : (grL six hi lo).take (k + 1) = (grL six hi lo).take k ++ [wd six hi lo (7 - k)] := by
  rw [List.take_succ_eq_append_getElem (by simp [grL]; omega)]
  simp [grL]
theorem grL_len (six : Bool) (hi lo : Int) : (grL six hi lo).length = 8 := by simp [grL]
theorem own_row_below {w w' : World} {base B : Nat} {e : TypeId} {size : Nat} {v : Value} {n : Nat} {xs : List Value} (h : w.ownsRow base e size v n xs) (hb : Below B w w') (hB : w.heap.size ≤ B) : w'.ownsRow base e size v n xs := own_below h hb hB
def GrI (w : World) (B : Nat) (d : Nat → Int) (L : List Int) (k : Nat) (v : Value) (wr : World) : Prop :=
  ∃ sv, sv = v ∧ IntsOwn wr (B + 1) sv (L.take k) ∧ Below w.heap.size w wr ∧ wr.heap[B]? = some (.cells (arr9 d) 93 (0, 0))
theorem gr_next {w w2 w4 : World} {B m : Nat} {d : Nat → Int} {L : List Int} {x : Int} {n : Nat} {sv v' : Value} {p : Obj} (hBw : w.heap.size ≤ B) (ho : IntsOwn w2 (B + 1) sv (L.take n)) (hb : Below w.heap.size w w2) (hx : w2.heap[B]? = some (.cells (arr9 d) 93 (0, 0))) (ht : L.take (n + 1) = L.take n ++ [x])
    (hm : m = (L.take n).length) (ho4 : w4.ownsRow (B + 1) 3 1 v' (m + 1) ((L.map (Value.int .i64)).take n ++ [.int .i64 x])) (hg4 : (w2.alloc p).grownBy w4 sv.ownBlock) : GrI w B d L (n + 1) v' w4 := by
  have hlt' := World.ownsRow.lt ho
  refine ⟨v', rfl, ?_, (hb.alloc hb.size _).grown hg4 (hb.alloc hb.size _).size (fun j hj => by have := (hlt' j hj).1; omega), ?_⟩
  · unfold IntsOwn
    rw [ht]
    exact own_as ho4 (by rw [hm, List.length_append]; rfl) (by simp [List.map_take])
  · have hl0 := (Array.getElem?_eq_some_iff.1 hx).1
    rw [hg4.block _ (by rw [World.alloc]; simp; omega) (by intro e1; have := (hlt' _ e1.symm).1; omega), Below.heap_alloc _ _ _ hl0]
    exact hx
set_option maxRecDepth 100000 in
set_option maxHeartbeats 1000000 in
theorem refGroups_any (six : Bool) (hi lo : Int) (w : World) (hh : 0 ≤ hi ∧ hi ≤ 18446744073709551615) (hl : 0 ≤ lo ∧ lo ≤ 18446744073709551615) :
    Calls Tryz.prog 53 #[.agg #[.bool six, .int .u64 hi, .int .u64 lo]] w fun e w' => ∃ v, e = .returned v ∧ IntsOwn w' w.heap.size v (grL six hi lo) ∧ Below w.heap.size w w' := by
  obtain ⟨i0, hi0, hz0, hz1, hz2⟩ := info_parts Tryz.infoInt
  have hof := fun W => of_any six hi lo W hh hl
  have hB : Below w.heap.size w (w.alloc (addrBox six hi lo)) := (Below.refl _ _).alloc (Nat.le_refl _) _
  have hx := heap_alloc_new w (addrBox six hi lo)
  obtain ⟨x0, x1, x2, -⟩ := res3 hx
  have HB := Lib.hid hB
  unfold addrBox at x0 x1 x2
  clear hB hx
  go_enter Tryz.func53, Tryz.ntmps53
  go_wp2_with fail
  refine (hof _).mono ?_
  rintro e w1 ⟨rfl, hb1⟩
  have HB1 := Lib.hid (HB.out.trans (hb1.mono HB.out.size))
  have hle := HB1.out.size
  have HG : Hid (GrI w w1.heap.size (wd six hi lo) (grL six hi lo) 0 (.slice none 0 0) (w1.alloc (.cells (arr9 (wd six hi lo)) 93))) := Lib.hid ⟨_, rfl, World.ownsRow_nil _ _ _ _, HB1.out.alloc hle _, heap_alloc_new _ _⟩
  clear hb1 hof x0 x1 x2
  unfold wideV arr9
  go_wp2_with fail
  unfold arr9 at HG
  generalize World.alloc w1 _ = W2 at *
  generalize w1.heap.size = B at *
  go_loopw [4, 5] (fun v4 v5 wr => ∃ k : Nat, k ≤ 8 ∧ v5 = .int .i64 (7 - (k : Int)) ∧ GrI w B (wd six hi lo) (grL six hi lo) k v4 wr) (fun _ v5 _ => (intOf v5 + 1).toNat)
  case atStart => exact ⟨0, by omega, by simp, HG.out⟩
  case round =>
    obtain ⟨k, hk, rfl, sv, rfl, hO, hb, hx⟩ := hrel
    by_cases hlt : k < 8
    · obtain ⟨c0, -⟩ := arr_get hx (j := 7 - k) (by omega)
      have s1 : (7 - (k : Int)).toNat = 7 - k := by omega
      have s2 : (0 : Int) ≤ 7 - (k : Int) := by omega
      have s3 : 7 - (k : Int) < 9 := by omega
      have s4 : IntKind.i64.wrap (7 - (k : Int) - 1) = 7 - (k : Int) - 1 := IntWalk.i64_in _ (by omega)
      have HTK := Lib.hid (grL_take six hi lo hlt)
      generalize wd six hi lo (7 - k) = x at *
      have HO := Lib.hid hO
      have HBk := Lib.hid hb
      have HX := Lib.hid hx
      have hlen : Hid (((grL six hi lo).take k).length = k) := Lib.hid (by rw [List.length_take, grL_len]; omega)
      have hsz := HBk.out.size
      have hsz2 := lt_of_block HX.out
      clear hO hb hx
      go_wp2_with (at_builtin; refine wpList_append_own _ rfl (.tmp 12) (.tmp 16) 22 rfl (B + 1) 3 i0 (.int .i64 0) 1 8 Tryz.underlying22 hi0 hz0 hz1 hz2 rfl (by decide) _ _ _ rfl (World.ownsRow.alloc HO.out _) ⟨wr.heap.size, 0, none⟩ 1 1 [.int .i64 x] rfl rfl (cells_new wr [.int .i64 x] _) (by simp [Value.oneCell']) (by rw [hlen.out]; unfold maxLen; first | omega | (simp; omega)) (by rw [hlen.out]; first | omega | (simp; omega)) (by first | omega | (simp; omega) | simp) ?_)
      intro v' w4 ho4 hg4 _
      have HREL := Lib.hid (gr_next (by omega) HO.out HBk.out HX.out HTK.out (by rw [List.length_take]) ho4 hg4)
      clear ho4 hg4
      go_wp2_with fail
      exact ⟨⟨k + 1, by omega, by go_num, HREL.out⟩, by simp [intOf]; omega⟩
    · obtain rfl : k = 8 := by omega
      clear hlt
      have HO := Lib.hid hO
      have HBk := Lib.hid hb
      clear hO hb hx
      go_wp2_with fail
      go_ret
      refine ⟨_, rfl, ?_, HBk.out⟩
      have h := HO.out
      rw [List.take_of_length_le (by rw [grL_len]; omega)] at h
      exact own_base8 h (by omega)
end Go.Proofs.YtcicednopgpjfaaGreatDoor
