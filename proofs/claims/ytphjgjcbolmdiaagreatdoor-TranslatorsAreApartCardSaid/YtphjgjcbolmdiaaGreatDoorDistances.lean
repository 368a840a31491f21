/- route.distances. -/
import Derived.Test.YtphjgjcbolmdiaaGreatDoorLess
import Derived.Deep.LoopGhost
namespace Go.Proofs.YtphjgjcbolmdiaaGreatDoor
open Go.RowKit Go.Hw

theorem own_below {w w' : World} {base B : Nat} {e : TypeId} {size : Nat} {v : Value} {n : Nat} {xs : List Value} (h : w.ownsRow base e size v n xs) (hb : Below B w w') (hB : w.heap.size ≤ B) : w'.ownsRow base e size v n xs := by
  obtain ⟨h1, h2 | ⟨g, cap, cur, h3, h4, h5, h6⟩⟩ := h
  · exact ⟨h1, .inl h2⟩
  · have := (Array.getElem?_eq_some_iff.1 h5).1
    exact ⟨h1, .inr ⟨g, cap, cur, h3, h4, (hb.block g (by omega)).trans h5, h6⟩⟩
theorem groups_below {β : Type} {w w' : World} {base b : Nat} {E : TypeId} {size : Nat} {enc : β → List Value} {S : ByteArray → List β} {m : List (ByteArray × Value)} (h : Groups w base b E size enc S m) (hb : Below w.heap.size w w') : Groups w' base b E size enc S m where
  map_ := h.map_.below hb h.map_.lt
  rows := fun u => own_below (h.rows u) hb (Nat.le_refl _)
  apart := h.apart
theorem own_reads {w : World} {base : Nat} {e : TypeId} {size : Nat} {v : Value} {n : Nat} {xs : List Value} (h : w.ownsRow base e size v n xs) :
    ∃ A cap, v = .slice A n cap ∧ ∀ j u, xs[j]? = some u → ∃ g, A = some ⟨g, 0, none⟩ ∧ g < w.heap.size ∧ w.cell? ⟨g, j, none⟩ = some u := by
  obtain ⟨h1, ⟨h2, h0⟩ | ⟨g, cap, cur, h3, h4, h5, h6⟩⟩ := h
  · subst h2
    subst h0
    refine ⟨none, 0, rfl, fun j u hu => ?_⟩
    have : xs = [] := List.eq_nil_of_length_eq_zero (by simpa using h1)
    subst this
    simp at hu
  · subst h3
    have hlt := (Array.getElem?_eq_some_iff.1 h5).1
    refine ⟨some ⟨g, 0, none⟩, cap, rfl, fun j u hu => ⟨g, rfl, hlt, ?_⟩⟩
    have := World.ownsRow.cells (g := g) (⟨h1, .inr ⟨g, cap, cur, rfl, h4, h5, h6⟩⟩ : w.ownsRow base e size _ n xs) rfl j u hu
    have hadd : (⟨g, 0, none⟩ : Addr).add j = ⟨g, j, none⟩ := by unfold Addr.add; split <;> simp_all
    rwa [hadd] at this
theorem Tryz.zeroFar (w : World) : (zeroValue 142).run Tryz.prog w = .ok (farV (0, 0)) w := by kernel_rfl
theorem Tryz.zeroBool (w : World) : (zeroValue 4).run Tryz.prog w = .ok (.bool false) w := by kernel_rfl

theorem fld0 (x y : Int) (w : World) : (Instr.field 142 (.agg #[.int .i64 x, .int .i64 y]) 0).run Tryz.prog w = .ok (.int .i64 x) w := by kernel_rfl
theorem fld1 (x y : Int) (w : World) : (Instr.field 142 (.agg #[.int .i64 x, .int .i64 y]) 1).run Tryz.prog w = .ok (.int .i64 y) w := by kernel_rfl
theorem run_done {w : World} {b : Nat} {dn : List (ByteArray × Bool)} {done : List ByteArray} (h : MapIs w b Value.bool dn) (hdn : ∀ u, (get dn u).getD false = isIn done u) (u : ByteArray) :
    (Instr.lookup 158 (.map (some b)) (.string u) false).run Tryz.prog w = .ok (.bool (isIn done u)) w := by
  rw [run_get h (P := Tryz.prog) Tryz.underlying158 Tryz.underlying9 (Tryz.zeroBool _) u, ← hdn u]
  cases get dn u <;> rfl
theorem run_far {w : World} {b : Nat} {out : List (ByteArray × (Nat × Nat))} (h : MapIs w b farV out) (u : ByteArray) :
    (Instr.lookup 139 (.map (some b)) (.string u) false).run Tryz.prog w = .ok (farV ((get out u).getD (0, 0))) w := by
  rw [run_get h (P := Tryz.prog) Tryz.underlying139 Tryz.underlying9 (Tryz.zeroFar _) u]
  cases get out u <;> rfl
theorem run_far_ok {w : World} {b : Nat} {out : List (ByteArray × (Nat × Nat))} (h : MapIs w b farV out) (u : ByteArray) :
    (Instr.lookup 139 (.map (some b)) (.string u) true).run Tryz.prog w = .ok (.tuple #[farV ((get out u).getD (0, 0)), .bool (get out u).isSome]) w := by
  rw [run_get_ok h (P := Tryz.prog) Tryz.underlying139 Tryz.underlying9 (Tryz.zeroFar _) u]
  cases get out u <;> rfl
/-- What holds ahead of a round: k names are still to come. -/
def DInv (w : World) (bo bd : Nat) (xs : List Link) (f : ByteArray) (k : Nat) (wr : World) : Prop :=
  ∃ out dn done, MapIs wr bo farV out ∧ MapIs wr bd Value.bool dn ∧ (∀ u, (get dn u).getD false = isIn done u) ∧ Inv xs f out done ∧ Below w.heap.size w wr ∧ k = undone xs f done
/-- What has been picked among the names that were handed out. -/
def Picked (out : List (ByteArray × (Nat × Nat))) (done seen : List ByteArray) (a : ByteArray) (found : Bool) : Prop :=
  (found = false ∧ a = ⟨#[]⟩ ∧ ∀ u ∈ seen, u ∈ done) ∨ (found = true ∧ ∃ da, get out a = some da ∧ a ∉ done ∧ ∀ u ∈ seen, u ∉ done → ∀ d, get out u = some d → le da d)
theorem Picked.skip {out : List (ByteArray × (Nat × Nat))} {done seen : List ByteArray} {a u : ByteArray} {found : Bool} (h : Picked out done seen a found) (hu : u ∈ done) : Picked out done (u :: seen) a found := by
  rcases h with ⟨h1, h2, h3⟩ | ⟨h1, da, h2, h3, h4⟩
  · refine .inl ⟨h1, h2, fun v hv => ?_⟩
    rcases List.mem_cons.1 hv with rfl | hv
    · exact hu
    · exact h3 v hv
  · refine .inr ⟨h1, da, h2, h3, fun v hv hn => ?_⟩
    rcases List.mem_cons.1 hv with rfl | hv
    · exact absurd hu hn
    · exact h4 v hv hn
theorem Picked.first {out : List (ByteArray × (Nat × Nat))} {done seen : List ByteArray} {a u : ByteArray} {d : Nat × Nat} (h : Picked out done seen a false) (hu : u ∉ done) (hg : get out u = some d) : Picked out done (u :: seen) u true := by
  rcases h with ⟨_, _, h3⟩ | ⟨h1, _⟩
  · refine .inr ⟨rfl, d, hg, hu, fun v hv hn e he => ?_⟩
    rcases List.mem_cons.1 hv with rfl | hv
    · rw [hg] at he; injection he with he; subst he; exact le_refl _
    · exact absurd (h3 v hv) hn
  · cases h1
theorem Picked.better {out : List (ByteArray × (Nat × Nat))} {done seen : List ByteArray} {a u : ByteArray} {d da : Nat × Nat} (h : Picked out done seen a true) (hu : u ∉ done) (hg : get out u = some d) (ha : get out a = some da) (hl : lt d da) : Picked out done (u :: seen) u true := by
  rcases h with ⟨h1, _⟩ | ⟨_, da', h2, h3, h4⟩
  · cases h1
  · rw [ha] at h2; injection h2 with h2; subst h2
    refine .inr ⟨rfl, d, hg, hu, fun v hv hn e he => ?_⟩
    rcases List.mem_cons.1 hv with rfl | hv
    · rw [hg] at he; injection he with he; subst he; exact le_refl _
    · exact le_trans (le_of_lt hl) (h4 v hv hn e he)
theorem Picked.worse {out : List (ByteArray × (Nat × Nat))} {done seen : List ByteArray} {a u : ByteArray} {d da : Nat × Nat} (h : Picked out done seen a true) (hg : get out u = some d) (ha : get out a = some da) (hl : ¬ lt d da) : Picked out done (u :: seen) a true := by
  rcases h with ⟨h1, _⟩ | ⟨_, da', h2, h3, h4⟩
  · cases h1
  · rw [ha] at h2; injection h2 with h2; subst h2
    refine .inr ⟨rfl, da, ha, h3, fun v hv hn e he => ?_⟩
    rcases List.mem_cons.1 hv with rfl | hv
    · rw [hg] at he; injection he with he; subst he; exact hl
    · exact h4 v hv hn e he
theorem Picked.known {out : List (ByteArray × (Nat × Nat))} {done seen : List ByteArray} {a : ByteArray} (h : Picked out done seen a true) : ∃ da, get out a = some da := by
  rcases h with ⟨h1, _⟩ | ⟨_, da, h2, _⟩
  · cases h1
  · exact ⟨da, h2⟩
theorem not_in {done : List ByteArray} {u : ByteArray} (h : isIn done u = false) : u ∉ done := fun hu => by rw [isIn_iff.2 hu] at h; cases h
theorem iter_below {α : Type} {w w' : World} {r b B : Nat} {f : α → Value} {m : List (ByteArray × α)} {seen : List ByteArray} {cnt : Nat} (h : IterIs w r b f m seen cnt) (hb : Below B w w') (hB : w.heap.size ≤ B) : IterIs w' r b f m seen cnt :=
  h.keep (hb.block b (Nat.lt_of_lt_of_le h.map_.lt hB)) (hb.block r (Nat.lt_of_lt_of_le h.lt hB))
theorem map_below {α : Type} {w w' : World} {b B : Nat} {f : α → Value} {m : List (ByteArray × α)} (h : MapIs w b f m) (hb : Below B w w') (hB : w.heap.size ≤ B) : MapIs w' b f m := h.keep (hb.block b (Nat.lt_of_lt_of_le h.lt hB))
theorem below_alloc (w : World) (o : Obj) : Below w.heap.size w (w.alloc o) := (Below.refl _ _).alloc (Nat.le_refl _) o
/-- What holds in the loop that picks. -/
def PInv (w : World) (r bo bd : Nat) (out : List (ByteArray × (Nat × Nat))) (dn : List (ByteArray × Bool)) (done : List ByteArray) (k : Nat) (v7 v8 : Value) (wi : World) : Prop :=
  ∃ seen a found, v7 = .string a ∧ v8 = .bool found ∧ IterIs wi r bo farV out seen k ∧ MapIs wi bd Value.bool dn ∧ Below w.heap.size w wi ∧ Picked out done seen a found

/-- What holds in the loop over the links of what has been picked. -/
def RInv (w : World) (bo bd : Nat) (xs : List Link) (f : ByteArray) (dn : List (ByteArray × Bool)) (done : List ByteArray) (a : ByteArray) (da : Nat × Nat) (k : Nat) (v53 : Value) (wi : World) : Prop :=
  ∃ i out, v53 = .int .i64 (i : Nat) ∧ i + k = (stepsAt xs a).length ∧ MapIs wi bo farV out ∧ MapIs wi bd Value.bool dn ∧ Below w.heap.size w wi ∧ Mid xs f out done a da ((stepsAt xs a).drop i)
theorem three_boxes (wr : World) (ca cb cc : Array Value) (A B C : TypeId) :
    (∀ j, (((wr.alloc (.cells ca A)).alloc (.cells cb B)).alloc (.cells cc C)).cell? ⟨wr.heap.size, j, none⟩ = ca[j]?) ∧
    (∀ j, (((wr.alloc (.cells ca A)).alloc (.cells cb B)).alloc (.cells cc C)).cell? ⟨wr.heap.size + 1, j, none⟩ = cb[j]?) := by
  have h1 : (((wr.alloc (.cells ca A)).alloc (.cells cb B)).alloc (.cells cc C)).heap[wr.heap.size]? = some (.cells ca A) := by
    rw [Below.heap_alloc _ _ _ (by simp; omega), Below.heap_alloc _ _ _ (by simp), heap_alloc_new]
  have hz : (wr.alloc (.cells ca A)).heap.size = wr.heap.size + 1 := by simp
  have h2 : (((wr.alloc (.cells ca A)).alloc (.cells cb B)).alloc (.cells cc C)).heap[wr.heap.size + 1]? = some (.cells cb B) := by
    rw [Below.heap_alloc _ _ _ (by simp), ← hz, heap_alloc_new]
  exact ⟨fun j => by simp only [World.cell?]; rw [h1]; simp, fun j => by simp only [World.cell?]; rw [h2]; simp⟩
theorem flat2 (l : List (ByteArray × Nat)) : ∀ i (h : i < l.length), (l.flatMap stCells)[i * 2]? = some (.string l[i].1) ∧ (l.flatMap stCells)[i * 2 + 1]? = some (.int .i64 (l[i].2 : Int)) := by
  induction l with
  | nil => intro i h; simp at h
  | cons x l ih =>
    intro i h
    cases i with
    | zero => exact ⟨rfl, rfl⟩
    | succ i =>
      have h2 := ih i (by simpa using h)
      have e1 : (i + 1) * 2 = (i * 2) + 2 := by omega
      rw [e1, List.flatMap_cons]
      have e2 : ∀ j, (stCells x ++ l.flatMap stCells)[j + 2]? = (l.flatMap stCells)[j]? := fun j => by
        rw [List.getElem?_append_right (by simp [stCells])]
        simp [stCells]
      rw [show i * 2 + 2 + 1 = (i * 2 + 1) + 2 from by omega, e2, e2]
      exact h2

set_option maxRecDepth 100000 in
set_option maxHeartbeats 1000000 in
theorem distances_any (bS : Nat) (mS : List (ByteArray × Value)) (base : Nat) (xs : List Link) (f : ByteArray) (w : World) (h : Groups w base bS 146 2 stCells (stepsAt xs) mS) (hl : xs.length ≤ 500) (hm : ∀ l ∈ xs, l.m ≤ 1000000) :
    Calls Tryz.prog 78 #[.map (some bS), .string f] w fun e w' => ∃ b out, e = .returned (.map (some b)) ∧ MapIs w' b farV out ∧ (Table xs f out ∧ ∀ u d, get out u = some d → d.2 ≤ 1001) ∧ Below w.heap.size w w' ∧ w.heap.size ≤ b := by
  have hmm := @run_makeMap Tryz.prog
  have H := Lib.hid h
  clear h
  have hmade := MapIs.made w farV
  obtain ⟨w1, hrun, hM1, hg1, hz1⟩ := run_put hmade (P := Tryz.prog) Tryz.underlying139 Tryz.underlying9 f (0, 0)
  have hrun' : (Instr.mapUpdate 139 (.map (some w.heap.size)) (.string f) (.agg #[.int .i64 0, .int .i64 0])).run Tryz.prog (w.alloc (.map #[] 0)) = .ok () w1 := hrun
  have hb1 : Below w.heap.size w w1 := ((Below.refl _ _).alloc (Nat.le_refl _) _).grown hg1 (by simp) (fun k hk => by injection hk with hk; omega)
  have hbo : w.heap.size < w1.heap.size := hM1.lt
  have hz2 : (w.alloc (.map #[] 0)).heap.size = w.heap.size + 1 := by simp
  rw [hz2] at hz1
  clear hz2
  rw [show Hw.put ([] : List (ByteArray × (Nat × Nat))) f (0, 0) = [(f, (0, 0))] from by simp [Hw.put, get_nil]] at hM1
  clear hrun hmade hg1
  go_enter Tryz.func78, Tryz.ntmps78
  go_wp2_with fail
  clear hrun'
  go_loopg [7] (undone xs f []) (fun k _ wr => DInv w w.heap.size (w.heap.size + 1) xs f k wr)
  case atStart =>
    refine ⟨[(f, (0, 0))], [], [], hM1.alloc _, ?_, fun u => by simp [get_nil, isIn], Inv.begin xs f, hb1.alloc hb1.size _, rfl⟩
    rw [← hz1]
    exact MapIs.made w1 Value.bool
  case round =>
    obtain ⟨out, dn, done, hO, hD, hdn, hI, hb, rfl⟩ := hrel
    obtain ⟨w2, hrange, hIt, hg2, _⟩ := run_iter hO (P := Tryz.prog) Tryz.underlying139
    obtain ⟨wo, rfl⟩ : ∃ wo : World, wo = wr := ⟨_, rfl⟩
    go_wp2_with fail
    go_loopg [7, 8] (out.length) (fun k v7 v8 wi => PInv w wo.heap.size w.heap.size (w.heap.size + 1) out dn done k v7 v8 wi)
    case atStart => exact ⟨[], ⟨#[]⟩, false, rfl, rfl, hIt, hD.grown hg2 (by simp), hb.grown hg2 hb.size (fun j hj => by cases hj), .inl ⟨rfl, rfl, by simp⟩⟩
    case round =>
      have HO := Lib.hid hO.keys
      have hbd : w.heap.size + 1 < wo.heap.size := hD.lt
      have HDN := Lib.hid hdn
      have HI := Lib.hid hI
      clear hO hrange hIt hg2 hb hD hdn hI
      obtain ⟨seen, a, found, rfl, rfl, hIt, hD, hb, hP⟩ := hrel
      rcases run_iter_next hIt (P := Tryz.prog) 0 with ⟨h0, hall, hrun⟩ | ⟨u, d, w3, k', hmem, hns, hrun, hIt', hlt, hg3, _, hent⟩
      · have hO := hIt.map_
        clear hIt h0
        cases found
        · have hT1 : Table xs f out := HI.out.table fun u d hu => by
            rcases hP with ⟨_, _, h3⟩ | ⟨h1, _⟩
            · exact h3 u (hall _ (get_mem hu))
            · cases h1
          have hT2 : ∀ u d, get out u = some d → d.2 ≤ 1001 := fun u d hu => by
            have h1 := HI.out.small u d hu
            have h2 := HI.out.room
            rw [names_length] at h2
            omega
          have hT := And.intro hT1 hT2
          clear hT1 hT2
          have HT := Lib.hid hT
          clear hT hP hall
          go_wp2_with fail
          go_ret
          exact ⟨_, out, rfl, hO, HT.out, hb, Nat.le_refl _⟩
        · obtain ⟨da, hda, hnd, hmin⟩ : ∃ da, get out a = some da ∧ a ∉ done ∧ ∀ v d, v ∉ done → get out v = some d → le da d := by
            rcases hP with ⟨h1, _⟩ | ⟨_, da, h2, h3, h4⟩
            · cases h1
            · exact ⟨da, h2, h3, fun v d hv hd => h4 v (hall _ (get_mem hd)) hv d hd⟩
          have HMid := Lib.hid (HI.out.mid hnd hda hmin)
          clear hP hall hda hmin hnd
          obtain ⟨w3, hrun3, hD3, hg3, _⟩ := run_put hD (P := Tryz.prog) Tryz.underlying158 Tryz.underlying9 a true
          have hO3 : MapIs w3 w.heap.size farV out := hO.grown hg3 (by simp)
          have hb3 : Below w.heap.size w w3 := hb.grown hg3 hb.size (fun j hj => by injection hj with hj; omega)
          have hdn3 : ∀ u, (get (Hw.put dn a true) u).getD false = isIn (a :: done) u := by
            intro u
            rw [get_put, isIn_cons]
            by_cases hu : u = a
            · simp [hu]
            · simp [hu, Ne.symm hu]
              exact HDN.out u
          have HDN3 := Lib.hid hdn3
          clear hD hO hb hg3 hdn3
          obtain ⟨A, cap, hrow, hcells⟩ := own_reads (H.out.rows a)
          have hlk := (groups_below H.out hb3).look Tryz.underlying137 Tryz.underlying9 Tryz.zeroSteps a w3 rfl
          have hall := rowOf mS a
          rw [hrow] at hlk
          clear hall
          have HC := Lib.hid hcells
          clear hcells hrow
          obtain ⟨p, q⟩ := da
          have hsl : (stepsAt xs a).length ≤ 1000 := by have := steps_length xs a; omega
          go_wp2_with fail
          clear hrun3 hlk hrun
          go_loopg [53] ((stepsAt xs a).length) (fun k v wi => RInv w w.heap.size (w.heap.size + 1) xs f (Hw.put dn a true) done a (p, q) k v wi)
          case atStart => exact ⟨0, out, rfl, by omega, hO3, hD3, hb3, HMid.out⟩
          case round =>
            clear hO3 hD3 hb3 HMid
            obtain ⟨i, out', rfl, hik, hO, hD, hb, hM⟩ := hrel
            by_cases hi : i < (stepsAt xs a).length
            · obtain ⟨e0, e1⟩ := flat2 _ i hi
              obtain ⟨g, rfl, hg, c0⟩ := HC.out _ _ e0
              obtain ⟨g', eg, hg', c1⟩ := HC.out _ _ e1
              injection eg with eg
              injection eg with eg
              subst eg
              have hdr : (stepsAt xs a).drop i = ((stepsAt xs a)[i].1, (stepsAt xs a)[i].2) :: (stepsAt xs a).drop (i + 1) := List.drop_eq_getElem_cons hi
              have hmem : ((stepsAt xs a)[i].1, (stepsAt xs a)[i].2) ∈ stepsAt xs a := List.getElem_mem hi
              rw [hdr] at hM
              have HMid := Lib.hid hM
              have HMem := Lib.hid hmem
              generalize (stepsAt xs a)[i].1 = v at *
              generalize (stepsAt xs a)[i].2 = m at *
              have bm : m ≤ 1000000 := by
                obtain ⟨l, hl, h2 | h2⟩ := mem_steps.1 HMem.out
                · rw [← h2.2.2]; exact hm l hl
                · rw [← h2.2.2]; exact hm l hl
              have bq : q ≤ 1001 := by
                have h1 := hM.smallA
                have h2 := hM.room
                rw [names_length] at h2
                simp only at h1
                omega
              have bp : p ≤ 1001000000 := by
                have h1 := hM.bound hm hM.here
                simp only at h1
                have : q * 1000000 ≤ 1001 * 1000000 := Nat.mul_le_mul_right _ bq
                omega
              have hgw : g < wr.heap.size := Nat.lt_of_lt_of_le hg hb.size
              rw [← hb.cell (by exact hg)] at c0 c1
              have hga := hM.here
              clear hM hdr hmem e0 e1 hg'
              have hl1 := run_far (hO.alloc (.cells #[.string v, .int .i64 (m : Int)] 146)) a
              rw [hga, Option.getD_some] at hl1
              unfold farV at hl1
              have hl2 := run_far_ok ((hO.alloc (.cells #[.string v, .int .i64 (m : Int)] 146)).alloc (.cells #[.int .i64 ((p : Int) + (m : Int)), .int .i64 ((q : Int) + 1)] 142)) v
              unfold farV at hl2
              clear hga
              have hf0 := fld0
              have hf1 := fld1
              have hbW2 : Below w.heap.size w ((wr.alloc (.cells #[.string v, .int .i64 (m : Int)] 146)).alloc (.cells #[.int .i64 ((p : Int) + (m : Int)), .int .i64 ((q : Int) + 1)] 142)) :=
                (hb.alloc hb.size _).alloc (by have := hb.size; simp; omega) _
              have hOW2 := (hO.alloc (.cells #[.string v, .int .i64 (m : Int)] 146)).alloc (.cells #[.int .i64 ((p : Int) + (m : Int)), .int .i64 ((q : Int) + 1)] 142)
              have hDW2 := (hD.alloc (.cells #[.string v, .int .i64 (m : Int)] 146)).alloc (.cells #[.int .i64 ((p : Int) + (m : Int)), .int .i64 ((q : Int) + 1)] 142)
              have hbs := hb.size
              have hbd' : w.heap.size + 1 < wr.heap.size := hD.lt
              have ec : ((p : Int) + (m : Int)) = ((p + m : Nat) : Int) := by omega
              have eq' : ((q : Int) + 1) = ((q + 1 : Nat) : Int) := by omega
              have EC := Lib.hid ec
              have EQ := Lib.hid eq'
              have HN := Lib.hid hik
              clear ec eq' hik
              cases hgv : get out' v with
              | none =>
                rw [hgv] at hl2
                simp only [Option.getD_none, Option.isSome_none] at hl2
                obtain ⟨w5, hput, hO5, hg5, _⟩ := run_put (hOW2.alloc (.cells #[.int .i64 0, .int .i64 0] 142)) (P := Tryz.prog) Tryz.underlying139 Tryz.underlying9 v (p + m, q + 1)
                have hput' : (Instr.mapUpdate 139 (.map (some w.heap.size)) (.string v) (.agg #[.int .i64 ((p : Int) + (m : Int)), .int .i64 ((q : Int) + 1)])).run Tryz.prog ((((wr.alloc (.cells #[.string v, .int .i64 (m : Int)] 146)).alloc (.cells #[.int .i64 ((p : Int) + (m : Int)), .int .i64 ((q : Int) + 1)] 142))).alloc (.cells #[.int .i64 0, .int .i64 0] 142)) = .ok () w5 := by
                  have h1 := hput
                  unfold farV at h1
                  rw [EC.out, EQ.out] at *
                  exact h1
                have hM5 := HMid.out.put HMem.out (fun d' hd' => by rw [hgv] at hd'; cases hd')
                have HM5 := Lib.hid hM5
                have hD5 := (hDW2.alloc (.cells #[.int .i64 0, .int .i64 0] 142)).grown hg5 (by simp)
                have hb5 := (hbW2.alloc (by simp; omega) (.cells #[.int .i64 0, .int .i64 0] 142)).grown hg5 (by simp; omega) (fun j hj => by injection hj with hj; omega)
                clear hput hM5 hOW2 hDW2 hbW2 hO hD hb hgv hg5
                go_wp2_with fail
                go_roundg ((stepsAt xs a).length - (i + 1))
                case measure => have := HN.out; omega
                case rel => exact ⟨i + 1, _, by go_num, by omega, hO5, hD5, hb5, HM5.out⟩
              | some old =>
                rw [hgv] at hl2
                simp only [Option.getD_some, Option.isSome_some] at hl2
                have hbW3 := hbW2.alloc (by simp; omega) (.cells #[.int .i64 (old.1 : Int), .int .i64 (old.2 : Int)] 142)
                have hOW3 := hOW2.alloc (.cells #[.int .i64 (old.1 : Int), .int .i64 (old.2 : Int)] 142)
                have hDW3 := hDW2.alloc (.cells #[.int .i64 (old.1 : Int), .int .i64 (old.2 : Int)] 142)
                cases hll : decide (lt (p + m, q + 1) old)
                · have HM5 := Lib.hid (HMid.out.keep hgv (of_decide_eq_false hll))
                  have HG := Lib.hid hgv
                  clear hgv hOW2 hDW2 hbW2 hO hD hb
                  go_wp2_with fail
                  rw [EC.out, EQ.out] at *
                  refine (less_any (p + m, q + 1) old _).mono ?_
                  rintro e w4 ⟨rfl, hb4⟩
                  rw [hll]
                  have hO5 := map_below hOW3 hb4 (Nat.le_refl _)
                  have hD5 := map_below hDW3 hb4 (Nat.le_refl _)
                  have hb5 := hbW3.trans (hb4.mono (by simp; omega))
                  clear hbW3 hOW3 hDW3 hb4 hl1 hl2
                  go_wp2_with fail
                  go_roundg ((stepsAt xs a).length - (i + 1))
                  case measure => have := HN.out; omega
                  case rel => exact ⟨i + 1, _, by go_num, by omega, hO5, hD5, hb5, HM5.out⟩
                · have HM5 := Lib.hid (HMid.out.put HMem.out (fun d' hd' => by rw [hgv] at hd'; injection hd' with hd'; subst hd'; exact of_decide_eq_true hll))
                  have HG := Lib.hid hgv
                  clear hgv hOW2 hDW2 hbW2 hO hD hb
                  go_wp2_with fail
                  rw [EC.out, EQ.out] at *
                  have hfr := three_boxes wr #[.string v, .int .i64 (m : Int)] #[.int .i64 ((p + m : Nat) : Int), .int .i64 ((q + 1 : Nat) : Int)] #[.int .i64 (old.1 : Int), .int .i64 (old.2 : Int)] 146 142 142
                  refine (less_any (p + m, q + 1) old _).mono ?_
                  rintro e w4 ⟨rfl, hb4⟩
                  rw [hll]
                  have hO5 := map_below hOW3 hb4 (Nat.le_refl _)
                  have hD5 := map_below hDW3 hb4 (Nat.le_refl _)
                  have hb5 := hbW3.trans (hb4.mono (by simp; omega))
                  have y0 : w4.cell? ⟨wr.heap.size, 0, none⟩ = some (.string v) := (hb4.cell (by simp; omega)).trans (hfr.1 0)
                  have y1 : w4.cell? ⟨wr.heap.size + 1, 0, none⟩ = some (.int .i64 ((p + m : Nat) : Int)) := (hb4.cell (by simp)).trans (hfr.2 0)
                  have y2 : w4.cell? ⟨wr.heap.size + 1, 1, none⟩ = some (.int .i64 ((q + 1 : Nat) : Int)) := (hb4.cell (by simp)).trans (hfr.2 1)
                  obtain ⟨w5, hput, hO6, hg5, _⟩ := run_put hO5 (P := Tryz.prog) Tryz.underlying139 Tryz.underlying9 v (p + m, q + 1)
                  have hput' : (Instr.mapUpdate 139 (.map (some w.heap.size)) (.string v) (.agg #[.int .i64 ((p : Int) + (m : Int)), .int .i64 ((q : Int) + 1)])).run Tryz.prog w4 = .ok () w5 := by
                    rw [show ((p : Int) + (m : Int)) = ((p + m : Nat) : Int) from by omega, show ((q : Int) + 1) = ((q + 1 : Nat) : Int) from by omega]
                    exact hput
                  clear hput
                  have hD6 := hD5.grown hg5 (by simp)
                  have hb6 := hb5.grown hg5 hb5.size (fun j hj => by injection hj with hj; omega)
                  clear hbW3 hOW3 hDW3 hb4 hl1 hl2 hfr hO5 hD5 hb5 hg5
                  go_wp2_with fail
                  go_roundg ((stepsAt xs a).length - (i + 1))
                  case measure => have := HN.out; omega
                  case rel => exact ⟨i + 1, _, by go_num, by omega, hO6, hD6, hb6, HM5.out⟩
            · have : i = (stepsAt xs a).length := by omega
              subst this
              rw [List.drop_length] at hM
              have HI2 := Lib.hid hM.over
              have hless := hM.less
              clear hM
              go_wp2_with fail
              go_roundg (undone xs f (a :: done))
              case measure => exact hless
              case rel => exact ⟨_, _, a :: done, hO, hD, HDN3.out, HI2.out, hb, rfl⟩
      · have hgu := get_of_mem HO.out hmem
        have HU := Lib.hid hgu
        have hne : w.heap.size + 1 ≠ wo.heap.size := by omega
        have hD3 : MapIs w3 (w.heap.size + 1) Value.bool dn := hD.grown hg3 (by simp; omega)
        have hb3 : Below w.heap.size w w3 := hb.grown hg3 hb.size (fun j hj => by injection hj with hj; omega)
        have hM3 := hIt'.map_
        have HP := Lib.hid hP
        have HIT := Lib.hid hIt'
        clear hgu hmem hIt hD hb hg3 hP hIt'
        have hlk := run_done (hD3.alloc (.cells #[.int .i64 (d.1 : Int), .int .i64 (d.2 : Int)] 142)) HDN.out u
        unfold farV at hrun hent
        cases hiu : isIn done u
        · cases found
          · rw [hiu] at hlk
            go_wp2_with fail
            go_roundg k'
            case measure => exact hlt
            case rel => exact ⟨u :: seen, u, true, rfl, rfl, iter_below HIT.out (below_alloc w3 _) (Nat.le_refl _), map_below hD3 (below_alloc w3 _) (Nat.le_refl _), hb3.alloc hb3.size _, HP.out.first (not_in hiu) HU.out⟩
          · rw [hiu] at hlk
            have hlf := run_far (hM3.alloc (.cells #[.int .i64 (d.1 : Int), .int .i64 (d.2 : Int)] 142)) a
            obtain ⟨da, hda⟩ := HP.out.known
            rw [hda, Option.getD_some] at hlf
            have HDA := Lib.hid hda
            clear hda
            unfold farV at hlf
            have hbx : Below w.heap.size w (w3.alloc (.cells #[.int .i64 (d.1 : Int), .int .i64 (d.2 : Int)] 142)) := hb3.alloc hb3.size _
            cases hll : decide (lt d da)
            · have HL := Lib.hid (of_decide_eq_false hll)
              go_wp2_with fail
              refine (less_any d da _).mono ?_
              rintro e w4 ⟨rfl, hb4⟩
              rw [hll]
              have hb5 := (below_alloc w3 (.cells #[.int .i64 (d.1 : Int), .int .i64 (d.2 : Int)] 142)).trans (hb4.mono (by simp))
              go_wp2_with fail
              go_roundg k'
              case measure => exact hlt
              case rel => exact ⟨u :: seen, a, true, rfl, rfl, iter_below HIT.out hb5 (Nat.le_refl _), map_below hD3 hb5 (Nat.le_refl _), hb3.trans (hb5.mono hb3.size), HP.out.worse HU.out HDA.out HL.out⟩
            · have HL := Lib.hid (of_decide_eq_true hll)
              go_wp2_with fail
              refine (less_any d da _).mono ?_
              rintro e w4 ⟨rfl, hb4⟩
              rw [hll]
              have hb5 := (below_alloc w3 (.cells #[.int .i64 (d.1 : Int), .int .i64 (d.2 : Int)] 142)).trans (hb4.mono (by simp))
              go_wp2_with fail
              go_roundg k'
              case measure => exact hlt
              case rel => exact ⟨u :: seen, u, true, rfl, rfl, iter_below HIT.out hb5 (Nat.le_refl _), map_below hD3 hb5 (Nat.le_refl _), hb3.trans (hb5.mono hb3.size), HP.out.better (not_in hiu) HU.out HDA.out HL.out⟩
        · rw [hiu] at hlk
          go_wp2_with fail
          go_roundg k'
          case measure => exact hlt
          case rel => exact ⟨u :: seen, a, found, rfl, rfl, iter_below HIT.out (below_alloc w3 _) (Nat.le_refl _), map_below hD3 (below_alloc w3 _) (Nat.le_refl _), hb3.alloc hb3.size _, HP.out.skip (isIn_iff.1 hiu)⟩
end Go.Proofs.YtphjgjcbolmdiaaGreatDoor
