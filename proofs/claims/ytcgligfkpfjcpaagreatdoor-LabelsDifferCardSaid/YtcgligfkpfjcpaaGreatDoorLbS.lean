/- Stream.Wishes. -/
import Derived.Test.YtcgligfkpfjcpaaGreatDoorLbZ
import Derived.Test.YtcgligfkpfjcpaaGreatDoorFlip
import Derived.Test.YtcgligfkpfjcpaaGreatDoorSome
import Derived.Test.YtcgligfkpfjcpaaGreatDoorPick
namespace Go.Proofs.YtcgligfkpfjcpaaGreatDoor
open Go.RowKit Go.Hw Go.Shelf

def zzB : ByteArray := ⟨#[122, 122]⟩
def nodeL : List ByteArray := [⟨#[110, 97]⟩, ⟨#[110, 98]⟩, ⟨#[110, 99]⟩, ⟨#[110, 100]⟩, ⟨#[110, 101]⟩]
structure WiOk (y : Wi) : Prop where
  node : leB zzB y.node = false ∧ ¬ Lib.compareBytes zzB.data.toList y.node.data.toList < 0 ∧ y.node.size ≤ 2
  name : y.name.size ≤ 300
  moment : y.joined ≤ 9 ∨ isMom y.joined = false
def NdOk (n : ByteArray) : Prop := leB zzB n = false ∧ ¬ Lib.compareBytes zzB.data.toList n.data.toList < 0 ∧ n.size ≤ 2
theorem getD_all {α : Type} {P : α → Prop} {vs : List α} {d : α} (h : ∀ v ∈ vs, P v) (h0 : P d) (i : Nat) : P (vs.getD i d) := by
  by_cases hi : i < vs.length
  · exact h _ (rw_mem hi)
  · rw [List.getD_eq_getElem?_getD, List.getElem?_eq_none (by omega)]; exact h0
theorem nd_empty : NdOk ByteArray.empty := by unfold NdOk; decide +kernel
theorem nodeL_ok : ∀ n ∈ nodeL, NdOk n := by
  intro n hn
  simp only [nodeL, List.mem_cons, List.not_mem_nil, or_false] at hn
  rcases hn with rfl | rfl | rfl | rfl | rfl <;> (unfold NdOk; decide +kernel)
theorem row_cell {W : World} {g : Nat} {vs : List ByteArray} {T : TypeId} (h : W.heap[g]? = some (.cells (vs.map Value.string).toArray T (0, 0))) {k : Nat} (hk : k < vs.length) :
    W.cell? ⟨g, k, none⟩ = some (.string (vs.getD k ByteArray.empty)) := by
  unfold World.cell?
  simp [h, hk]
def repLong : ByteArray := ⟨(Lib.repeatL (⟨#[108, 111, 110, 103]⟩ : ByteArray).data.toList 16).toArray⟩
def repA : ByteArray := ⟨(Lib.repeatL (⟨#[97]⟩ : ByteArray).data.toList 201).toArray⟩
theorem repLong_size : repLong.size ≤ 100 := by decide +kernel
theorem repA_size : repA.size ≤ 300 := by decide +kernel
def nameL (R : ByteArray) : List ByteArray := [⟨#[98, 111, 120]⟩, ⟨#[98, 111, 120]⟩, ⟨#[66, 111, 120]⟩, ⟨#[98, 111, 120, 32, 49]⟩, ⟨#[77, 121, 32, 77, 97, 99, 33]⟩, ⟨#[]⟩, ⟨#[45, 45]⟩, R ++ ⟨#[45]⟩, ⟨#[98, 45]⟩, ⟨#[195, 169]⟩]
theorem nameL_ok {R : ByteArray} (h : R.size ≤ 100) : ∀ n ∈ nameL R, n.size ≤ 300 := by
  intro n hn
  simp only [nameL, List.mem_cons, List.not_mem_nil, or_false] at hn
  rcases hn with rfl | rfl | rfl | rfl | rfl | rfl | rfl | rfl | rfl | rfl
  case inr.inr.inr.inr.inr.inr.inr.inl =>
    rw [ByteArray.size_append]
    have : (⟨#[45]⟩ : ByteArray).size = 1 := rfl
    omega
  all_goals decide
theorem draw_in (l : List Int) (x n : Int) (h : 1 ≤ n) : 0 ≤ drawOf l x n ∧ drawOf l x n < n := ⟨draw_low l x n h, draw_high l x n h⟩
def WsI (w : World) (b : Nat) (A : Option Addr) (cap : Nat) (l : List Int) (at_ m : Int) (ws : List Wi) (v : Value) (W : World) : Prop :=
  ∃ x, at_ ≤ x ∧ x ≤ at_ + m ∧ wsOwn W (w.heap.size + 1) v ws ∧ (∀ y ∈ ws, WiOk y) ∧ Str W b A cap l x ∧ w.grownBy W (some b)
set_option maxRecDepth 100000 in
set_option maxHeartbeats 4000000 in
theorem wishes_any (b : Nat) (A : Option Addr) (cap : Nat) (l : List Int) (at_ : Int) (w : World) (h : Str w b A cap l at_) (hh : at_ < 1099511600000) :
    Calls Tryz.prog 4 #[.pointer (some ⟨b, 0, none⟩)] w fun e w' => ∃ v ws, e = .returned v ∧ ws.length ≤ 5 ∧ WsI w b A cap l at_ 20 ws v w' := by
  have hbl := h.lt
  have hlow := h.low
  obtain ⟨i0, hi0, hz0, hz1, hz2⟩ := info_parts ws_info
  have hr0 : (w.alloc (.cells (nodeL.map Value.string).toArray 9 (0, 0))).heap[w.heap.size]? = some (.cells (nodeL.map Value.string).toArray 9 (0, 0)) := heap_alloc_new _ _
  have hst : WsI w b A cap l at_ (3 * (0 : Nat)) [] (.slice none 0 0) (w.alloc (.cells (nodeL.map Value.string).toArray 9 (0, 0))) :=
    ⟨at_, by omega, by omega, World.ownsRow_nil _ _ _ _, fun y hy => by simp at hy, h.alloc _, World.grownBy_alloc _ _ _⟩
  go_enter Tryz.func4, Tryz.ntmps4
  go_wp2_with fail
  go_loopw [9, 3] (fun v9 v3 wr => ∃ k : Nat, ∃ O oc ws, k ≤ 5 ∧ v9 = .int .i64 k ∧ v3 = .slice O ws.length oc ∧ ws.length ≤ k ∧ WsI w b A cap l at_ (3 * k) ws (.slice O ws.length oc) wr ∧ wr.heap[w.heap.size]? = some (.cells (nodeL.map Value.string).toArray 9 (0, 0))) (fun v9 _ _ => 5 - (intOf v9).toNat)
  case atStart => exact ⟨0, none, 0, [], by omega, rfl, rfl, by simp, hst, hr0⟩
  case round =>
    clear hst hr0 h
    obtain ⟨k, O, oc, ws, hk, rfl, rfl, hwl, ⟨x, hx0, hx1, hown, hok, hs, hg⟩, hrow⟩ := hrel
    have HROW := Lib.hid hrow
    have HOK := Lib.hid hok
    have HG := Lib.hid hg
    have HO := Lib.hid hown
    by_cases hlt : k < 5
    · have hc := row_cell hrow (k := k) (by simpa [nodeL] using hlt)
      have hnd : NdOk (nodeL.getD k ByteArray.empty) := getD_all nodeL_ok nd_empty k
      generalize nodeL.getD k ByteArray.empty = nd at *
      have hd : decide ((k : Int) < 5) = true := by simp; omega
      have hrl := lt_of_block hrow
      clear hrow hok hg hown
      go_wp2_with fail
      refine (flip_any b A cap l x 4 wr hs (by omega) (by omega) (by omega)).mono ?_
      rintro e W1 ⟨rfl, hs1, hg1⟩
      have hnb : (Value.slice O ws.length oc).ownBlock ≠ some b := fun c => by have := (HO.out.lt b c).1; omega
      have hlow2 := fun j (hj : (Value.slice O ws.length oc).ownBlock = some j) => (HO.out.lt j hj).1
      have ho1 := HO.out.kept hg1 (.inr hnb)
      have hgg1 := HG.out.andThen hg1 (fun _ h => .inr h)
      have hrow1 := (hg1.block _ hrl (fun e => by injection e with e; omega)).trans HROW.out
      generalize (drawOf l x 4 == 0) = f at *
      cases f
      · have HROW1 := Lib.hid hrow1
        have HGG1 := Lib.hid hgg1
        have HOO1 := Lib.hid ho1
        have hrl1 := lt_of_block hrow1
        have hrep := Tryz.strings_Repeat_main ⟨#[108, 111, 110, 103]⟩ 16 W1 (by omega) (by omega) (by decide) (by decide)
        have hrz := repLong_size
        change Calls _ _ _ _ (fun e w' => e = .returned (.string repLong) ∧ _) at hrep
        generalize repLong = R at *
        clear hrow1 hgg1 ho1 hg1 hs hc
        go_wp2_with fail
        refine hrep.mono ?_
        rintro e W2 ⟨rfl, hb2⟩
        have hs2 := hs1.grown (grownB hb2 none) (fun k e => by cases e)
        have hgg2 := HGG1.out.andThen (grownB hb2 (some b)) (fun _ h => .inr h)
        have ho2 := rw_same HOO1.out (fun k hk => hb2.block k (HOO1.out.lt k hk).2)
        have hrow2 := (hb2.block _ hrl1).trans HROW1.out
        have HROW2 := Lib.hid hrow2
        have HGG2 := Lib.hid hgg2
        have HOO2 := Lib.hid ho2
        clear hrow2 hgg2 ho2 hb2 hs1 hrep
        go_wp2_with fail
        have hsome := some_any b A cap l (x + 1) _ (hs2.alloc (.cells ((nameL R).map Value.string).toArray 9 (0, 0))) (by omega) _ (nameL R) (by rw [heap_alloc_new]) (by have := hs2.lt; omega) (by simp [nameL]) (by simp [nameL]) 10 10 rfl
        have hnm : ((nameL R).getD (drawOf l (x + 1) 10).toNat ByteArray.empty).size ≤ 300 := getD_all (P := fun n : ByteArray => n.size ≤ 300) (nameL_ok hrz) (by decide) _
        refine hsome.mono ?_
        rintro e W3 ⟨rfl, hs3, hg3⟩
        clear hsome
        change (List.getD (nameL R) (drawOf l (x + 1) 10).toNat ByteArray.empty).size ≤ 300 at hnm
        have hg3' := grown_alloc_then hg3
        have hgg3 := HGG2.out.andThen hg3' (fun _ h => .inr h)
        have ho3 := HOO2.out.kept hg3' (.inr hnb)
        have hrow3 := (hg3'.block _ (lt_of_block HROW2.out) (fun e => by injection e with e; omega)).trans HROW2.out
        have HROW3 := Lib.hid hrow3
        have HGG3 := Lib.hid hgg3
        have HOO3 := Lib.hid ho3
        clear hrow3 hgg3 ho3 hg3 hg3' hs2
        change Str W3 b A cap l (x + 1 + 1) at hs3
        rw [show (nameL R).length = 10 from rfl]
        generalize (nameL R).getD (drawOf l (x + 1) ((10 : Nat) : Int)).toNat ByteArray.empty = nm at *
        go_wp2_with fail
        have hpick := pick_any b A cap l (x + 1 + 1) _ (hs3.alloc (.cells (([0, 1, 1, 2] : List Int).map (Value.int .i64)).toArray 3 (0, 0))) (by omega) _ [0, 1, 1, 2] (by rw [heap_alloc_new]) (by have := hs3.lt; omega) (by simp) (by simp) 4 4 rfl
        have hjm : ([0, 1, 1, 2] : List Int).getD (drawOf l (x + 1 + 1) ((4 : Nat) : Int)).toNat 0 ≤ 9 := getD_all (P := fun n : Int => n ≤ 9) (by decide) (by decide) _
        refine hpick.mono ?_
        rintro e W4 ⟨rfl, hs4, hg4⟩
        clear hpick
        have hg4' := grown_alloc_then hg4
        have hgg4 := HGG3.out.andThen hg4' (fun _ h => .inr h)
        have ho4 := HOO3.out.kept hg4' (.inr hnb)
        have hrow4 := (hg4'.block _ (lt_of_block HROW3.out) (fun e => by injection e with e; omega)).trans HROW3.out
        have HROW4 := Lib.hid hrow4
        have HGG4 := Lib.hid hgg4
        have hrl4 := lt_of_block hrow4
        clear hrow4 hgg4 hg4 hg4' hs3
        change Str W4 b A cap l (x + 1 + 1 + 1) at hs4
        rw [show ([0, 1, 1, 2] : List Int).length = 4 from rfl]
        generalize ([0, 1, 1, 2] : List Int).getD (drawOf l (x + 1 + 1) ((4 : Nat) : Int)).toNat 0 = jj at *
        go_wp2_with (at_builtin; refine wpList_append_own _ rfl (.tmp 16) (.tmp 27) 26 rfl (w.heap.size + 1) 36 i0 (.agg #[.string ⟨#[]⟩, .string ⟨#[]⟩, .int .i64 0]) 3 40 Tryz.underlying26 hi0 hz0 hz1 hz2 rfl (by decide) _ _ _ rfl (World.ownsRow.alloc ho4 _) ⟨W4.heap.size, 0, none⟩ 1 1 [.string nd, .string nm, .int .i64 jj] rfl rfl ?d1 ?d2 ?d3 ?d4 ?d5 ?_)
        case d1 => exact cells_newL W4 [.string nd, .string nm, .int .i64 jj] _
        case d2 => simp [Value.oneCell']
        case d3 => unfold maxLen; omega
        case d4 => omega
        case d5 => simp; omega
        intro v' w5 ho5 hg5 _
        have hs5 := (hs4.alloc (.cells #[.string nd, .string nm, .int .i64 jj] 36)).grown hg5 (fun j hj => by have := hlow2 j hj; omega)
        have hg6 := HGG4.out.andThen ((World.grownBy_alloc W4 (.cells #[.string nd, .string nm, .int .i64 jj] 36) _).andThen hg5 (fun _ h => .inr h)) (fun j hj => .inl (by have := hlow2 j hj; omega))
        have ho5' : wsOwn w5 (w.heap.size + 1) v' (ws ++ [⟨nd, nm, jj⟩]) := by
          unfold wsOwn
          rw [List.length_append, show rwC wsC (ws ++ [⟨nd, nm, jj⟩]) = rwC wsC ws ++ [.string nd, .string nm, .int .i64 jj] by simp [rwC, wsC]]
          exact ho5
        have hrow5 := (hg5.block _ (by simp; omega) (fun e => by have := hlow2 _ e.symm; omega)).trans ((heap_alloc_old W4 (.cells #[.string nd, .string nm, .int .i64 jj] 36) hrl4).trans HROW4.out)
        obtain ⟨O5, oc5, rfl, -⟩ := rw_at (d := noWi) wsC_len ho5'
        have hnext : WsI w b A cap l at_ (3 * ((k + 1 : Nat) : Int)) (ws ++ [⟨nd, nm, jj⟩]) (.slice O5 (ws ++ [(⟨nd, nm, jj⟩ : Wi)]).length oc5) w5 := by
          refine ⟨x + 1 + 1 + 1, by omega, by omega, ho5', fun y hy => ?_, hs5, hg6⟩
          rcases List.mem_append.1 hy with hy | hy
          · exact HOK.out y hy
          · rw [List.mem_singleton.1 hy]
            exact ⟨hnd, hnm, .inl hjm⟩
        have HROW5 := Lib.hid hrow5
        clear ho4 hg5 hs5 hg6 ho5 ho5' hrow5 hs4
        go_wp2_with fail
        go_roundw
        case rel => exact ⟨k + 1, O5, oc5, _, by omega, by go_num, rfl, by simp; omega, hnext, HROW5.out⟩
        case measure => simp [intOf]; omega
      · have hnext : WsI w b A cap l at_ (3 * ((k + 1 : Nat) : Int)) ws (.slice O ws.length oc) W1 := ⟨x + 1, by omega, by omega, ho1, HOK.out, hs1, hgg1⟩
        have HROW1 := Lib.hid hrow1
        clear hrow1 hgg1 ho1 hs1 hg1 hs hc
        go_wp2_with fail
        go_roundw
        case rel => exact ⟨k + 1, O, oc, ws, by omega, by go_num, rfl, by omega, hnext, HROW1.out⟩
        case measure => simp [intOf]; omega
    · have hk5 : k = 5 := by omega
      subst hk5
      have hnb : (Value.slice O ws.length oc).ownBlock ≠ some b := fun c => by have := (HO.out.lt b c).1; omega
      have hwl5 : ws.length ≤ 5 := hwl
      by_cases hz : ws.length = 0
      · have hd0 : decide (0 < (ws.length : Int)) = false := by simp [hz]
        have hd1 : decide (0 < ws.length) = false := by simp [hz]
        have hfin : WsI w b A cap l at_ 20 ws (.slice O ws.length oc) wr := ⟨x, hx0, by omega, hown, hok, hs, hg⟩
        clear hz hown hok hs hg hrow
        go_wp2_with fail
        go_ret
        exact ⟨_, ws, rfl, hwl5, hfin⟩
      · have hd0 : decide (0 < (ws.length : Int)) = true := by simp; omega
        have hd1 : decide (0 < ws.length) = true := by simp; omega
        have hpos : 0 < ws.length := by omega
        clear hz hown hok hg hrow
        go_wp2_with fail
        refine (flip_any b A cap l x 20 wr hs (by omega) (by omega) (by omega)).mono ?_
        rintro e W1 ⟨rfl, hs1, hg1⟩
        have ho1 := HO.out.kept hg1 (.inr hnb)
        have hgg1 := HG.out.andThen hg1 (fun _ h => .inr h)
        generalize (drawOf l x 20 == 0) = f at *
        cases f
        · have hfin : WsI w b A cap l at_ 20 ws (.slice O ws.length oc) W1 := ⟨x + 1, by omega, by omega, ho1, HOK.out, hs1, hgg1⟩
          clear ho1 hgg1 hs1 hg1 hs
          go_wp2_with fail
          go_ret
          exact ⟨_, ws, rfl, hwl5, hfin⟩
        · obtain ⟨g, rfl⟩ : ∃ g, O = some ⟨g, 0, none⟩ := by
            rcases ho1.2 with ⟨e, _⟩ | ⟨g, cp, cur, e, _⟩
            · injection e with _ e _; omega
            · injection e with e _ _; exact ⟨g, e⟩
          have hg0 := ho1.lt g rfl
          have HO1 := Lib.hid ho1
          have HGG1 := Lib.hid hgg1
          clear ho1 hgg1 hg1 hs
          go_wp2_with fail
          refine (next_any b A cap l (x + 1) ws.length W1 hs1 (by omega) (by omega) (by omega)).mono ?_
          rintro e W2 ⟨rfl, hs2, hg2⟩
          obtain ⟨i, hi, hil⟩ : ∃ i : Nat, drawOf l (x + 1) ws.length = i ∧ i < ws.length := by
            have h := draw_in l (x + 1) (ws.length : Int) (by omega)
            exact ⟨(drawOf l (x + 1) ws.length).toNat, by omega, by omega⟩
          rw [hi]
          clear hi
          have ho2 := HO1.out.kept hg2 (.inr hnb)
          have hgg2 := HGG1.out.andThen hg2 (fun _ h => .inr h)
          have hR2 : wsAt W2 (some ⟨g, 0, none⟩) ws := rw_at' wsC_len ho2
          obtain ⟨g', off', e', -, hcc⟩ := hR2 i hil
          injection e' with e'
          injection e' with e1 e2
          subst e1 e2
          obtain ⟨c0, -, -⟩ := ws_cells hcc
          rw [Nat.zero_add] at c0
          have hcap := rw_cap ho2
          have hndi := HOK.out _ (rw_mem (d := noWi) hil)
          generalize hx : ws.getD i noWi = y at *
          have hg2l := (ho2.lt g rfl).2
          have hO2 := Lib.hid ho2
          have HGG2 := Lib.hid hgg2
          have hdi : decide ((i : Int) < (ws.length : Int)) = true := by simp; omega
          clear hR2 hcc ho2 hgg2 hg2 hs1 hx
          go_wp2_with fail
          have hsome := some_any b A cap l (x + 1 + 1) _ (hs2.alloc (.cells (([⟨#[]⟩, ⟨#[110, 97]⟩, y.node] : List ByteArray).map Value.string).toArray 9 (0, 0))) (by omega) _ [⟨#[]⟩, ⟨#[110, 97]⟩, y.node] (by rw [heap_alloc_new]) (by have := hs2.lt; omega) (by simp) (by simp) 3 3 rfl
          have hnm : NdOk (([⟨#[]⟩, ⟨#[110, 97]⟩, y.node] : List ByteArray).getD (drawOf l (x + 1 + 1) ((3 : Nat) : Int)).toNat ByteArray.empty) := getD_all (P := NdOk) (by
            intro n hn
            simp only [List.mem_cons, List.not_mem_nil, or_false] at hn
            rcases hn with rfl | rfl | rfl
            · exact nd_empty
            · exact nodeL_ok _ (by simp [nodeL])
            · exact hndi.node) nd_empty _
          refine hsome.mono ?_
          rintro e W3 ⟨rfl, hs3, hg3⟩
          clear hsome
          have hg3' := grown_alloc_then hg3
          have hgg3 := HGG2.out.andThen hg3' (fun _ h => .inr h)
          have ho3 := hO2.out.kept hg3' (.inr hnb)
          have HGG3 := Lib.hid hgg3
          have HOO3 := Lib.hid ho3
          clear hgg3 ho3 hg3 hg3' hs2 c0
          change Str W3 b A cap l (x + 1 + 1 + 1) at hs3
          rw [show ([⟨#[]⟩, ⟨#[110, 97]⟩, y.node] : List ByteArray).length = 3 from rfl]
          generalize ([⟨#[]⟩, ⟨#[110, 97]⟩, y.node] : List ByteArray).getD (drawOf l (x + 1 + 1) ((3 : Nat) : Int)).toNat ByteArray.empty = n2 at *
          have hrep := Tryz.strings_Repeat_main ⟨#[97]⟩ 201 W3 (by omega) (by omega) (by decide) (by decide)
          have hrz := repA_size
          change Calls _ _ _ _ (fun e w' => e = .returned (.string repA) ∧ _) at hrep
          generalize repA = R at *
          go_wp2_with fail
          refine hrep.mono ?_
          rintro e W4 ⟨rfl, hb4⟩
          have hs4 := hs3.grown (grownB hb4 none) (fun k e => by cases e)
          have hgg4 := HGG3.out.andThen (grownB hb4 (some b)) (fun _ h => .inr h)
          have ho4 := rw_same HOO3.out (fun k hk => hb4.block k (HOO3.out.lt k hk).2)
          have HGG4 := Lib.hid hgg4
          have HOO4 := Lib.hid ho4
          clear hgg4 ho4 hb4 hs3 hrep
          go_wp2_with fail
          have hsome := some_any b A cap l (x + 1 + 1 + 1) _ (hs4.alloc (.cells (([R, ⟨#[120]⟩] : List ByteArray).map Value.string).toArray 9 (0, 0))) (by omega) _ [R, ⟨#[120]⟩] (by rw [heap_alloc_new]) (by have := hs4.lt; omega) (by simp) (by simp) 2 2 rfl
          have hmm : (([R, ⟨#[120]⟩] : List ByteArray).getD (drawOf l (x + 1 + 1 + 1) ((2 : Nat) : Int)).toNat ByteArray.empty).size ≤ 300 := getD_all (P := fun n : ByteArray => n.size ≤ 300) (by
            intro n hn
            simp only [List.mem_cons, List.not_mem_nil, or_false] at hn
            rcases hn with rfl | rfl
            · exact hrz
            · decide) (by decide) _
          refine hsome.mono ?_
          rintro e W5 ⟨rfl, hs5, hg5⟩
          clear hsome
          have hg5' := grown_alloc_then hg5
          have hgg5 := HGG4.out.andThen hg5' (fun _ h => .inr h)
          have ho5 := HOO4.out.kept hg5' (.inr hnb)
          have HGG5 := Lib.hid hgg5
          have HOO5 := Lib.hid ho5
          clear hgg5 ho5 hg5 hg5' hs4
          change Str W5 b A cap l (x + 1 + 1 + 1 + 1) at hs5
          rw [show ([R, ⟨#[120]⟩] : List ByteArray).length = 2 from rfl]
          generalize ([R, ⟨#[120]⟩] : List ByteArray).getD (drawOf l (x + 1 + 1 + 1) ((2 : Nat) : Int)).toNat ByteArray.empty = m2 at *
          go_wp2_with fail
          have hpick := pick_any b A cap l (x + 1 + 1 + 1 + 1) _ (hs5.alloc (.cells (([-1, 0, 345686400] : List Int).map (Value.int .i64)).toArray 3 (0, 0))) (by omega) _ [-1, 0, 345686400] (by rw [heap_alloc_new]) (by have := hs5.lt; omega) (by simp) (by simp) 3 3 rfl
          have hjm : ([-1, 0, 345686400] : List Int).getD (drawOf l (x + 1 + 1 + 1 + 1) ((3 : Nat) : Int)).toNat 0 ≤ 9 ∨ isMom (([-1, 0, 345686400] : List Int).getD (drawOf l (x + 1 + 1 + 1 + 1) ((3 : Nat) : Int)).toNat 0) = false := getD_all (P := fun n : Int => n ≤ 9 ∨ isMom n = false) (by decide) (by decide) _
          refine hpick.mono ?_
          rintro e W6 ⟨rfl, hs6, hg6⟩
          clear hpick
          have hg6' := grown_alloc_then hg6
          have hgg6 := HGG5.out.andThen hg6' (fun _ h => .inr h)
          have ho6 := HOO5.out.kept hg6' (.inr hnb)
          have hw6 := HGG2.out.size
          clear hg6 hg6' hs5
          change Str W6 b A cap l (x + 1 + 1 + 1 + 1 + 1) at hs6
          rw [show ([-1, 0, 345686400] : List Int).length = 3 from rfl]
          generalize ([-1, 0, 345686400] : List Int).getD (drawOf l (x + 1 + 1 + 1 + 1) ((3 : Nat) : Int)).toNat 0 = j2 at *
          have hR6 : wsAt W6 (some ⟨g, 0, none⟩) ws := rw_at' wsC_len ho6
          obtain ⟨g', off', e', -, hcc⟩ := hR6 i hil
          injection e' with e'
          injection e' with e1 e2
          subst e1 e2
          obtain ⟨c0, c1, c2⟩ := ws_cells hcc
          rw [Nat.zero_add] at c0 c1 c2
          have y0 := rw_froz ho6 (i * 3)
          have y1 := rw_froz ho6 (i * 3 + 1)
          have y2 := rw_froz ho6 (i * 3 + 2)
          have hput := rw_put wsC_len ho6 i ⟨n2, m2, j2⟩ hil
          have hgw := rw_gsets (wsC ⟨n2, m2, j2⟩) (i * 3) W6 (World.grownBy.refl W6 (some g))
          have hfin : WsI w b A cap l at_ 20 (ws.set i ⟨n2, m2, j2⟩) (.slice (some ⟨g, 0, none⟩) (ws.set i (⟨n2, m2, j2⟩ : Wi)).length oc) (W6.setCells g (i * 3) (wsC ⟨n2, m2, j2⟩)) := by
            refine ⟨x + 1 + 1 + 1 + 1 + 1, by omega, by omega, hput, fun z hz => ?_, hs6.grown hgw (fun k e => by injection e with e; omega), hgg6.andThen hgw (fun k e => .inl (by injection e with e; omega))⟩
            rcases List.mem_or_eq_of_mem_set hz with h | h
            · exact HOK.out z h
            · subst h; exact ⟨hnm, hmm, hjm⟩
          have HFIN := Lib.hid hfin
          clear hfin hput hgw hgg6 ho6 hs6 hR6 hcc
          go_wp2_with fail
          go_ret
          refine ⟨.slice (some ⟨g, 0, none⟩) ws.length oc, ws.set i ⟨n2, m2, j2⟩, rfl, by rw [List.length_set]; exact hwl5, ?_⟩
          have hfin := HFIN.out
          rw [List.length_set] at hfin
          exact hfin
end Go.Proofs.YtcgligfkpfjcpaaGreatDoor
