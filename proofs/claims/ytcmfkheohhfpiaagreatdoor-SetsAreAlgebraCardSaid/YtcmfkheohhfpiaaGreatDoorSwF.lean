/- laneref2: the closure of joined, joined. laneref2: spansOf. -/
import Derived.Test.YtcmfkheohhfpiaaGreatDoorSwD
import Derived.Test.YtcmfkheohhfpiaaGreatDoorSvL
namespace Go.Proofs.YtcmfkheohhfpiaaGreatDoor
open Go.RowKit Go.Hw
section
variable {α : Type}
theorem insR_sorted {lt : α → α → Bool} (has : ∀ x y, lt x y = true → lt y x = false) (htr : ∀ x y z, lt x y = false → lt y z = false → lt x z = false) (x : α) : ∀ L : List α, L.Pairwise (fun a b => lt a b = false) → (insR lt x L).Pairwise (fun a b => lt a b = false)
 | [], _ => by simp [insR]
 | y :: ys, h => by
  obtain ⟨h1, h2⟩ := List.pairwise_cons.1 h
  unfold insR
  cases hq : lt x y
  ·rw [if_neg (by simp)]
   exact List.pairwise_cons.2 ⟨fun z hz => (List.mem_cons.1 hz).elim (fun e => e ▸ hq) (fun hz => htr _ _ _ hq (h1 z hz)), h⟩
  ·rw [if_pos rfl]
   exact List.pairwise_cons.2 ⟨fun z hz => (insR_mem.1 hz).elim (fun e => e ▸ has _ _ hq) (fun hz => h1 z hz), insR_sorted has htr x ys h2⟩
theorem isortL_sorted {lt : α → α → Bool} (has : ∀ x y, lt x y = true → lt y x = false) (htr : ∀ x y z, lt x y = false → lt y z = false → lt x z = false) (L : List α) : (isortL lt L).Pairwise (fun a b => lt b a = false) := by
 unfold isortL
 rw [List.pairwise_reverse]
 unfold isortR
 have : ∀ (M acc : List α), acc.Pairwise (fun a b => lt a b = false) → (M.foldl (fun acc x => insR lt x acc) acc).Pairwise (fun a b => lt a b = false) := by
  intro M
  induction M with
  | nil => exact fun _ h => h
  | cons x M ih => exact fun acc h => ih _ (insR_sorted has htr x acc h)
 exact this L [] (by simp)
end
theorem own_up {w : World} {base base' : Nat} {e : TypeId} {size n : Nat} {v : Value} {xs : List Value} (h : w.ownsRow base e size v n xs) (hb : ∀ k, v.ownBlock = some k → base' ≤ k) : w.ownsRow base' e size v n xs := by
 obtain ⟨q1, q2⟩ := h
 refine ⟨q1, ?_⟩
 rcases q2 with h | ⟨g, cap, cur, rfl, e2, e3⟩
 ·exact .inl h
 ·exact .inr ⟨g, cap, cur, rfl, hb g rfl, e3⟩
theorem hasS_mem {S T : List Sn} (h : ∀ x, x ∈ S ↔ x ∈ T) (n : Nat) : hasS S n ↔ hasS T n := by
 constructor
 ·rintro ⟨x, hx, h1⟩; exact ⟨x, (h x).1 hx, h1⟩
 ·rintro ⟨x, hx, h1⟩; exact ⟨x, (h x).2 hx, h1⟩
theorem RwCells.drop {w : World} {g o : Nat} {vs : List Value} (h : RwCells w g o vs) (n : Nat) : RwCells w g (o + n) (vs.drop n) := fun j u hu => by
 rw [List.getElem?_drop] at hu
 have := h (n + j) u hu
 rwa [← Nat.add_assoc] at this
theorem blk_rw {w : World} {g : Nat} {cs : Array Value} {T : TypeId} (h : w.heap[g]? = some (.cells cs T (0, 0))) : RwCells w g 0 cs.toList := fun j u hu => by
 have : cs[j]? = some u := by rw [← hu]; simp
 simp [World.cell?, h, this]
theorem insR_congr {α : Type} {lt lt' : α → α → Bool} {x : α} : ∀ {L : List α}, (∀ y ∈ L, lt x y = lt' x y) → insR lt x L = insR lt' x L
 | [], _ => rfl
 | y :: L, h => by
  unfold insR
  rw [h y (by simp), insR_congr (L := L) (fun z hz => h z (by simp [hz]))]
theorem isortL_congr {α : Type} {lt lt' : α → α → Bool} {L : List α} (h : ∀ x ∈ L, ∀ y ∈ L, lt x y = lt' x y) : isortL lt L = isortL lt' L := by
 unfold isortL isortR
 congr 1
 have : ∀ (M acc : List α), (∀ x ∈ M, x ∈ L) → (∀ x ∈ acc, x ∈ L) → M.foldl (fun acc x => insR lt x acc) acc = M.foldl (fun acc x => insR lt' x acc) acc := by
  intro M
  induction M with
  | nil => intro _ _ _; rfl
  | cons x M ih =>
   intro acc h1 h2
   simp only [List.foldl_cons]
   rw [insR_congr (fun y hy => h x (h1 x (by simp)) y (h2 y hy))]
   exact ih _ (fun z hz => h1 z (by simp [hz])) (fun z hz => (insR_mem.1 hz).elim (fun e => e ▸ h1 x (by simp)) (h2 z))
 exact this L [] (fun x hx => hx) (fun x hx => by cases hx)
def keyC (x y : Rg) : Int := cmpN (wd x.six x.hi x.lo) (wd y.six y.hi y.lo) 9
theorem keyC_lt {x y : Rg} (hx : okR x) (hy : okR y) : keyC x y < 0 ↔ keyA (fiR x) < keyA (fiR y) := by
 unfold keyC
 have h1 : U64 x.hi := hx.f.1
 have h2 : U64 x.lo := hx.f.2.1
 have h3 : U64 y.hi := hy.f.1
 have h4 : U64 y.lo := hy.f.2.1
 rw [cmp_span h1 h2 h3 h4]
 exact (spanC_key hx.f hy.f).1
set_option maxRecDepth 100000 in
set_option maxHeartbeats 4000000 in
theorem refCmp_any (x y : Rg) (w : World) :
  Calls Tryz.prog 149 #[.agg #[.int .i64 (wd x.six x.hi x.lo 0), .int .i64 (wd x.six x.hi x.lo 1), .int .i64 (wd x.six x.hi x.lo 2), .int .i64 (wd x.six x.hi x.lo 3), .int .i64 (wd x.six x.hi x.lo 4), .int .i64 (wd x.six x.hi x.lo 5), .int .i64 (wd x.six x.hi x.lo 6), .int .i64 (wd x.six x.hi x.lo 7), .int .i64 (wd x.six x.hi x.lo 8), .int .i64 (wd x.six2 x.hi2 x.lo2 0), .int .i64 (wd x.six2 x.hi2 x.lo2 1), .int .i64 (wd x.six2 x.hi2 x.lo2 2), .int .i64 (wd x.six2 x.hi2 x.lo2 3), .int .i64 (wd x.six2 x.hi2 x.lo2 4), .int .i64 (wd x.six2 x.hi2 x.lo2 5), .int .i64 (wd x.six2 x.hi2 x.lo2 6), .int .i64 (wd x.six2 x.hi2 x.lo2 7), .int .i64 (wd x.six2 x.hi2 x.lo2 8)], .agg #[.int .i64 (wd y.six y.hi y.lo 0), .int .i64 (wd y.six y.hi y.lo 1), .int .i64 (wd y.six y.hi y.lo 2), .int .i64 (wd y.six y.hi y.lo 3), .int .i64 (wd y.six y.hi y.lo 4), .int .i64 (wd y.six y.hi y.lo 5), .int .i64 (wd y.six y.hi y.lo 6), .int .i64 (wd y.six y.hi y.lo 7), .int .i64 (wd y.six y.hi y.lo 8), .int .i64 (wd y.six2 y.hi2 y.lo2 0), .int .i64 (wd y.six2 y.hi2 y.lo2 1), .int .i64 (wd y.six2 y.hi2 y.lo2 2), .int .i64 (wd y.six2 y.hi2 y.lo2 3), .int .i64 (wd y.six2 y.hi2 y.lo2 4), .int .i64 (wd y.six2 y.hi2 y.lo2 5), .int .i64 (wd y.six2 y.hi2 y.lo2 6), .int .i64 (wd y.six2 y.hi2 y.lo2 7), .int .i64 (wd y.six2 y.hi2 y.lo2 8)]] w fun e w' => e = .returned (.int .i64 (keyC x y)) ∧ Below w.heap.size w w' := by
 have HB := Lib.hid (((Below.refl w.heap.size w).alloc (Nat.le_refl _) (.cells #[.int .i64 (wd x.six x.hi x.lo 0), .int .i64 (wd x.six x.hi x.lo 1), .int .i64 (wd x.six x.hi x.lo 2), .int .i64 (wd x.six x.hi x.lo 3), .int .i64 (wd x.six x.hi x.lo 4), .int .i64 (wd x.six x.hi x.lo 5), .int .i64 (wd x.six x.hi x.lo 6), .int .i64 (wd x.six x.hi x.lo 7), .int .i64 (wd x.six x.hi x.lo 8), .int .i64 (wd x.six2 x.hi2 x.lo2 0), .int .i64 (wd x.six2 x.hi2 x.lo2 1), .int .i64 (wd x.six2 x.hi2 x.lo2 2), .int .i64 (wd x.six2 x.hi2 x.lo2 3), .int .i64 (wd x.six2 x.hi2 x.lo2 4), .int .i64 (wd x.six2 x.hi2 x.lo2 5), .int .i64 (wd x.six2 x.hi2 x.lo2 6), .int .i64 (wd x.six2 x.hi2 x.lo2 7), .int .i64 (wd x.six2 x.hi2 x.lo2 8)] 157 (0, 0))).alloc (by simp) (.cells #[.int .i64 (wd y.six y.hi y.lo 0), .int .i64 (wd y.six y.hi y.lo 1), .int .i64 (wd y.six y.hi y.lo 2), .int .i64 (wd y.six y.hi y.lo 3), .int .i64 (wd y.six y.hi y.lo 4), .int .i64 (wd y.six y.hi y.lo 5), .int .i64 (wd y.six y.hi y.lo 6), .int .i64 (wd y.six y.hi y.lo 7), .int .i64 (wd y.six y.hi y.lo 8), .int .i64 (wd y.six2 y.hi2 y.lo2 0), .int .i64 (wd y.six2 y.hi2 y.lo2 1), .int .i64 (wd y.six2 y.hi2 y.lo2 2), .int .i64 (wd y.six2 y.hi2 y.lo2 3), .int .i64 (wd y.six2 y.hi2 y.lo2 4), .int .i64 (wd y.six2 y.hi2 y.lo2 5), .int .i64 (wd y.six2 y.hi2 y.lo2 6), .int .i64 (wd y.six2 y.hi2 y.lo2 7), .int .i64 (wd y.six2 y.hi2 y.lo2 8)] 157 (0, 0)))
 have hcm := fun W => wideCmp_any (wd x.six x.hi x.lo) (wd y.six y.hi y.lo) W (wd_dgs _ _ _) (wd_dgs _ _ _)
 go_enter Tryz.func149, Tryz.ntmps149
 go_wp2_with fail
 refine (hcm _).mono ?_
 rintro e W2 ⟨rfl, hb2⟩
 have HB2 := Lib.hid (HB.out.trans (hb2.mono HB.out.size))
 clear hb2 hcm HB
 go_wp2_with fail
 go_ret
 exact ⟨rfl, HB2.out⟩
/-- The row so far. -/
structure SjI (W1 : World) (M : List Rg) (k : Nat) (v : Value) (wr : World) : Prop where
 below : Below W1.heap.size W1 wr
 row : ∃ O : List Rg, spOwn wr W1.heap.size v O ∧ O.length ≤ k ∧ (∀ r ∈ O, okR r) ∧ O.map rgS = ((M.take k).map rgS).foldl stepJ []
theorem SjI.step {W1 wr : World} {M : List Rg} {k : Nat} {v : Value} {O O2 : List Rg} (hk : k < M.length) (hb : Below W1.heap.size W1 wr) (ho : spOwn wr W1.heap.size v O2) (hl : O2.length ≤ k + 1) (hok : ∀ r ∈ O2, okR r) (hm : O.map rgS = ((M.take k).map rgS).foldl stepJ []) (hs : O2.map rgS = stepJ (O.map rgS) (rgS (M.getD k noRg))) : SjI W1 M (k + 1) v wr := by
 refine ⟨hb, O2, ho, hl, hok, ?_⟩
 rw [hs, hm, List.take_succ_eq_append_getElem hk, List.map_append, List.foldl_append, List.getD_eq_getElem?_getD, List.getElem?_eq_getElem hk]
 rfl
set_option maxRecDepth 100000 in
set_option maxHeartbeats 8000000 in
theorem refJoined_any (A : Option Addr) (cap : Nat) (L : List Rg) (w : World) (h : spAt w A L) (h0 : A = none → L = []) (hok : ∀ r ∈ L, okR r) (hl : L.length ≤ 12) :
  Calls Tryz.prog 95 #[.slice A L.length cap] w fun e w' => ∃ v R, e = .returned v ∧ spOwn w' w.heap.size v R ∧ (∀ r ∈ R, okR r) ∧ NormS (R.map rgS) ∧ (∀ n, hasS (R.map rgS) n ↔ hasS (L.map rgS) n) ∧ R.length ≤ L.length ∧ Below w.heap.size w w' := by
 obtain ⟨i0, hi0, hz0, hz1, hz2⟩ := info_parts sp_info
 have hcl := sp_clone A cap L w h h0 (by omega)
 have HOK := Lib.hid hok
 have HL := Lib.hid hl
 clear h h0 hok hl
 have heg : ∀ args w, (callFunc 149 args).run Tryz.prog w = .ok (.enter 149 args) w := enters_of Tryz.func149 (by kernel_rfl) rfl
 go_enter Tryz.func95, Tryz.ntmps95
 go_wp2_with fail
 refine hcl.mono ?_
 rintro e w1 ⟨v1, rfl, ho1, hb1⟩
 have HB1 := Lib.hid hb1
 obtain ⟨AM, cM, rfl, -⟩ := rw_at (d := noRg) spC_len ho1
 have HO1 := Lib.hid ho1
 have hso := sp_sortFunc AM cM L 149 #[] keyC w1 heg (own_base ho1 (Nat.zero_le _)) HL.out (fun wr _ W x y _ _ _ => refCmp_any x y W)
 clear hcl ho1 hb1
 go_wp2_with fail
 refine hso.mono ?_
 rintro e W1 ⟨rfl, hg2, ho2⟩
 obtain ⟨M, hM⟩ : ∃ M, isortL (spLt keyC) L = M := ⟨_, rfl⟩
 have hml : M.length = L.length := by rw [← hM]; exact isortL_length _ _
 have HMM : Hid (∀ x, x ∈ M ↔ x ∈ L) := Lib.hid (fun x => by rw [← hM]; exact isortL_mem)
 have HMO : Hid (∀ r ∈ M, okR r) := Lib.hid (fun r hr => HOK.out r ((HMM.out r).1 hr))
 have HPS : Hid ((M.map rgS).Pairwise (fun x y => x.1 ≤ y.1)) := Lib.hid (by
  have hq : (isortL (fun x y => decide (keyA (fiR x) < keyA (fiR y))) L).Pairwise (fun a b => decide (keyA (fiR b) < keyA (fiR a)) = false) := isortL_sorted (fun x y h => by simp at h ⊢; omega) (fun x y z h1 h2 => by simp at h1 h2 ⊢; omega) L
  have he : isortL (fun x y => decide (keyA (fiR x) < keyA (fiR y))) L = M := by
   rw [← hM]
   exact isortL_congr (fun x hx y hy => by unfold spLt; rw [decide_eq_decide]; exact (keyC_lt (HOK.out x hx) (HOK.out y hy)).symm)
  rw [he] at hq
  rw [List.pairwise_map]
  exact hq.imp fun {a b} hab => by
   have := of_decide_eq_false hab
   show keyA (fiR a) ≤ keyA (fiR b)
   omega)
 rw [hM] at ho2
 have HML : Hid (M.length ≤ 12 ∧ M.length = L.length) := Lib.hid (by have := HL.out; omega)
 have hob : ∀ (n m : Nat), (Value.slice AM n cM).ownBlock = (Value.slice AM m cM).ownBlock := fun n m => by cases AM <;> rfl
 have ho3 := own_up (base' := w.heap.size) ho2 (fun j hj => (HO1.out.lt j ((hob _ _).trans hj)).1)
 have HB2 : Hid (Below w.heap.size w W1) := Lib.hid (HB1.out.grown hg2 HB1.out.size (fun j hj => (HO1.out.lt j ((hob _ _).trans hj)).1))
 have haM := rw_at' (d := noRg) spC_len ho3
 rw [← hml]
 have HAM := Lib.hid haM
 have HI : Hid (SjI W1 M 0 (.slice none 0 0) W1) := Lib.hid ⟨Below.refl _ _, [], World.ownsRow_nil _ _ _ _, Nat.le_refl _, (by intro r hr; cases hr), rfl⟩
 clear hM hml hg2 ho2 ho3 haM HO1 hso HB1 heg
 go_wp2_with fail
 go_loopw [3, 5, 6, 13] (fun v3 _ _ v13 wr => ∃ k : Nat, k ≤ M.length ∧ v13 = .int .i64 k ∧ SjI W1 M k v3 wr) (fun _ _ _ v13 _ => M.length - (intOf v13).toNat)
 case atStart => exact ⟨0, Nat.zero_le _, rfl, HI.out⟩
 case round =>
  obtain ⟨k, hk, rfl, hin⟩ := hrel
  have HIN := Lib.hid hin
  have hlm := HML.out.1
  clear hin HI
  by_cases hlt : k < M.length
  ·obtain ⟨gM, off, rfl, hgM, hcc⟩ := (HAM.out.below HIN.out.below) k hlt
   have hd : decide ((k : Int) < (M.length : Int)) = true := by simp; omega
   have HXM := Lib.hid (rw_mem (d := noRg) hlt)
   obtain ⟨r, hr⟩ : ∃ r, M.getD k noRg = r := ⟨_, rfl⟩
   rw [hr] at hcc HXM
   have HR := Lib.hid hr
   obtain ⟨O, hOw, hOk, hOok, hOm⟩ := HIN.out.row
   have HOW := Lib.hid hOw
   have HOO := Lib.hid hOok
   have HOM := Lib.hid hOm
   have HCC := Lib.hid hcc
   go_upto_region 6 with (fail)
   first | refine load_stepR (cs := spC r) rfl HCC.out (by kernel_rfl) rfl (by kernel_rfl) ?_ | (go_step; first | refine load_stepR (cs := spC r) rfl HCC.out (by kernel_rfl) rfl (by kernel_rfl) ?_ | (go_step; first | refine load_stepR (cs := spC r) rfl HCC.out (by kernel_rfl) rfl (by kernel_rfl) ?_ | (go_step; first | refine load_stepR (cs := spC r) rfl HCC.out (by kernel_rfl) rfl (by kernel_rfl) ?_ | (go_step; first | refine load_stepR (cs := spC r) rfl HCC.out (by kernel_rfl) rfl (by kernel_rfl) ?_ | (go_step; first | refine load_stepR (cs := spC r) rfl HCC.out (by kernel_rfl) rfl (by kernel_rfl) ?_ | (go_step; first | refine load_stepR (cs := spC r) rfl HCC.out (by kernel_rfl) rfl (by kernel_rfl) ?_ | (go_step; first | refine load_stepR (cs := spC r) rfl HCC.out (by kernel_rfl) rfl (by kernel_rfl) ?_ | (go_step; first | refine load_stepR (cs := spC r) rfl HCC.out (by kernel_rfl) rfl (by kernel_rfl) ?_ | (go_step; first | refine load_stepR (cs := spC r) rfl HCC.out (by kernel_rfl) rfl (by kernel_rfl) ?_ | (go_step; refine load_stepR (cs := spC r) rfl HCC.out (by kernel_rfl) rfl (by kernel_rfl) ?_))))))))))
   first | refine store_step (vs := (spC r).toArray) rfl rfl (heap_alloc_new wr _) rfl (by kernel_rfl) (by simpa using spC_one r) (fun W2 hr2 => ?_) | (go_step; first | refine store_step (vs := (spC r).toArray) rfl rfl (heap_alloc_new wr _) rfl (by kernel_rfl) (by simpa using spC_one r) (fun W2 hr2 => ?_) | (go_step; first | refine store_step (vs := (spC r).toArray) rfl rfl (heap_alloc_new wr _) rfl (by kernel_rfl) (by simpa using spC_one r) (fun W2 hr2 => ?_) | (go_step; first | refine store_step (vs := (spC r).toArray) rfl rfl (heap_alloc_new wr _) rfl (by kernel_rfl) (by simpa using spC_one r) (fun W2 hr2 => ?_) | (go_step; first | refine store_step (vs := (spC r).toArray) rfl rfl (heap_alloc_new wr _) rfl (by kernel_rfl) (by simpa using spC_one r) (fun W2 hr2 => ?_) | (go_step; first | refine store_step (vs := (spC r).toArray) rfl rfl (heap_alloc_new wr _) rfl (by kernel_rfl) (by simpa using spC_one r) (fun W2 hr2 => ?_) | (go_step; first | refine store_step (vs := (spC r).toArray) rfl rfl (heap_alloc_new wr _) rfl (by kernel_rfl) (by simpa using spC_one r) (fun W2 hr2 => ?_) | (go_step; first | refine store_step (vs := (spC r).toArray) rfl rfl (heap_alloc_new wr _) rfl (by kernel_rfl) (by simpa using spC_one r) (fun W2 hr2 => ?_) | (go_step; first | refine store_step (vs := (spC r).toArray) rfl rfl (heap_alloc_new wr _) rfl (by kernel_rfl) (by simpa using spC_one r) (fun W2 hr2 => ?_) | (go_step; first | refine store_step (vs := (spC r).toArray) rfl rfl (heap_alloc_new wr _) rfl (by kernel_rfl) (by simpa using spC_one r) (fun W2 hr2 => ?_) | (go_step; refine store_step (vs := (spC r).toArray) rfl rfl (heap_alloc_new wr _) rfl (by kernel_rfl) (by simpa using spC_one r) (fun W2 hr2 => ?_)))))))))))
   have HBX : Hid (Below W1.heap.size W1 W2) := Lib.hid (hr2.below (HIN.out.below.alloc HIN.out.below.size _) HIN.out.below.size)
   have HNX : Hid (W2.heap[wr.heap.size]? = some (.cells #[.int .i64 (wd r.six r.hi r.lo 0), .int .i64 (wd r.six r.hi r.lo 1), .int .i64 (wd r.six r.hi r.lo 2), .int .i64 (wd r.six r.hi r.lo 3), .int .i64 (wd r.six r.hi r.lo 4), .int .i64 (wd r.six r.hi r.lo 5), .int .i64 (wd r.six r.hi r.lo 6), .int .i64 (wd r.six r.hi r.lo 7), .int .i64 (wd r.six r.hi r.lo 8), .int .i64 (wd r.six2 r.hi2 r.lo2 0), .int .i64 (wd r.six2 r.hi2 r.lo2 1), .int .i64 (wd r.six2 r.hi2 r.lo2 2), .int .i64 (wd r.six2 r.hi2 r.lo2 3), .int .i64 (wd r.six2 r.hi2 r.lo2 4), .int .i64 (wd r.six2 r.hi2 r.lo2 5), .int .i64 (wd r.six2 r.hi2 r.lo2 6), .int .i64 (wd r.six2 r.hi2 r.lo2 7), .int .i64 (wd r.six2 r.hi2 r.lo2 8)] 157 (0, 0))) := Lib.hid hr2.blk
   have HOX : Hid (W2.ownsRow W1.heap.size 157 18 u3 O.length (rwC spC O)) := Lib.hid (rw_same (World.ownsRow.alloc hOw _) (fun b hb => hr2.oth b (by have := (hOw.lt b hb).2; omega)))
   clear hr2
   clear hcc hr hOw hOok hOm
   rcases List.eq_nil_or_concat O with rfl | ⟨O', x, rfl⟩
   ·obtain ⟨A3, c3', rfl, -⟩ := rw_at (d := noRg) spC_len HOW.out
    go_upto_region 8 with (fail)
    generalize wr.heap.size = nb at HNX ⊢
    go_cut [45] from 20 to 45 (fun v45 wc => v45 = .bool false ∧ Below W2.heap.size W2 wc)
    case first =>
     refine wp_region_exact 25 (fun f' => ⟨#[.slice (some ⟨gM, off, none⟩) M.length cM, undef, .slice none 0 0, .slice A3 ([] : List Rg).length c3', undef, .pointer (some ⟨nb, 0, none⟩), .int .i64 (-1), .slice A M.length cap, .slice (some ⟨gM, off, none⟩) M.length cM, .slice (some ⟨gM, off, none⟩) M.length cM, .tuple #[], .slice (some ⟨gM, off, none⟩) M.length cM, .int .i64 M.length, .int .i64 k, .bool true, .pointer (some ⟨gM, off + k * 18, none⟩), .agg (spC r).toArray, .slice A3 ([] : List Rg).length c3', .int .i64 0, .int .i64 (-1), f' 0, f' 1, f' 2, f' 3, f' 4, f' 5, f' 6, f' 7, f' 8, f' 9, f' 10, f' 11, f' 12, f' 13, f' 14, f' 15, f' 16, f' 17, f' 18, f' 19, f' 20, f' 21, f' 22, f' 23, f' 24, u45, u46, u47, u48, u49, u50, u51, u52, u53, u54, u55, u56, u57, u58, u59, u60, u61, u62, u63, u64, u65, undef], []⟩) (fun i9 => match i9 with | 0 => .int .i64 (-1) | 1 => .bool false | 2 => .bool false | 3 => undef | 4 => undef | 5 => undef | 6 => undef | 7 => undef | 8 => undef | 9 => undef | 10 => undef | 11 => undef | 12 => undef | 13 => .bool false | 14 => .bool false | 15 => undef | 16 => undef | 17 => undef | 18 => undef | 19 => undef | 20 => undef | 21 => undef | 22 => undef | 23 => undef | 24 => undef | _ => undef) (fun lb w' => Hid (Below W2.heap.size W2 w')) (fun i9 => match i9 with | 0 => u20 | 1 => u21 | 2 => u22 | 3 => u23 | 4 => u24 | 5 => u25 | 6 => u26 | 7 => u27 | 8 => u28 | 9 => u29 | 10 => u30 | 11 => u31 | 12 => u32 | 13 => u33 | 14 => u34 | 15 => u35 | 16 => u36 | 17 => u37 | 18 => u38 | 19 => u39 | 20 => u40 | 21 => u41 | 22 => u42 | 23 => u43 | 24 => u44 | _ => undef) 30 (show Tryz.prog.follows .mixedOrders = true from by kernel_rfl) (by kernel_rfl) ?_ ?_ (Lib.hid (Below.refl _ _).drew)
     ·intro i9 op hi9 ho lb f' w' hl hS hd
      have hcase : i9 = 0 ∨ i9 = 1 ∨ i9 = 2 ∨ i9 = 3 ∨ i9 = 4 ∨ i9 = 5 ∨ i9 = 6 ∨ i9 = 7 ∨ i9 = 8 ∨ i9 = 9 ∨ i9 = 10 ∨ i9 = 11 ∨ i9 = 12 ∨ i9 = 13 ∨ i9 = 14 ∨ i9 = 15 ∨ i9 = 16 ∨ i9 = 17 ∨ i9 = 18 ∨ i9 = 19 ∨ i9 = 20 ∨ i9 = 21 ∨ i9 = 22 ∨ i9 = 23 ∨ i9 = 24 := by omega
      rcases hcase with rfl | rfl | rfl | rfl | rfl | rfl | rfl | rfl | rfl | rfl | rfl | rfl | rfl | rfl | rfl | rfl | rfl | rfl | rfl | rfl | rfl | rfl | rfl | rfl | rfl <;> (replace ho := Option.some.inj ho; subst ho)
      ·refine OpStep.of rfl ?_
       unfold Oper.wp
       go_simp
       first | exact ⟨by first | (simp [upd]; done) | (simp [upd]; omega), hS⟩ | (simp [upd]; done) | (simp [upd]; omega)
      ·have e0 : f' 0 = .int .i64 (-1) := (hd ⟨0, .data⟩ (by simp) rfl).2
       refine OpStep.of rfl ?_
       unfold Oper.wp
       go_simp
       first | exact ⟨by first | (simp [upd, e0]; done) | (simp [upd, e0]; omega), hS⟩ | (simp [upd, e0]; done) | (simp [upd, e0]; omega)
      ·have e1 : f' 1 = .bool false := (hd ⟨1, .data⟩ (by simp) rfl).2
       refine OpStep.of rfl ?_
       unfold Oper.wp
       go_simp
       first | exact ⟨by first | (simp [upd, e1]; done) | (simp [upd, e1]; omega), hS⟩ | (simp [upd, e1]; done) | (simp [upd, e1]; omega)
      ·refine OpStep.not (by have e2 : f' 2 = .bool false := (hd ⟨2, .guard⟩ (by simp) rfl).2; simp [Region.wanted, yielded, e2]) ?_
       exact ⟨rfl, hS⟩
      ·refine OpStep.not (by have e2 : f' 2 = .bool false := (hd ⟨2, .guard⟩ (by simp) rfl).2; simp [Region.wanted, yielded, e2]) ?_
       exact ⟨rfl, hS⟩
      ·refine OpStep.not (by have e2 : f' 2 = .bool false := (hd ⟨2, .guard⟩ (by simp) rfl).2; simp [Region.wanted, yielded, e2]) ?_
       exact ⟨rfl, hS⟩
      ·refine OpStep.not (by have e2 : f' 2 = .bool false := (hd ⟨2, .guard⟩ (by simp) rfl).2; simp [Region.wanted, yielded, e2]) ?_
       exact ⟨rfl, hS⟩
      ·refine OpStep.not (by have e2 : f' 2 = .bool false := (hd ⟨2, .guard⟩ (by simp) rfl).2; simp [Region.wanted, yielded, e2]) ?_
       exact ⟨rfl, hS⟩
      ·refine OpStep.not (by have e2 : f' 2 = .bool false := (hd ⟨2, .guard⟩ (by simp) rfl).2; simp [Region.wanted, yielded, e2]) ?_
       exact ⟨rfl, hS⟩
      ·refine OpStep.not (by have e2 : f' 2 = .bool false := (hd ⟨2, .guard⟩ (by simp) rfl).2; simp [Region.wanted, yielded, e2]) ?_
       exact ⟨rfl, hS⟩
      ·refine OpStep.not (by have e2 : f' 2 = .bool false := (hd ⟨2, .guard⟩ (by simp) rfl).2; simp [Region.wanted, yielded, e2]) ?_
       exact ⟨rfl, hS⟩
      ·refine OpStep.not (by have e2 : f' 2 = .bool false := (hd ⟨2, .guard⟩ (by simp) rfl).2; simp [Region.wanted, yielded, e2]) ?_
       exact ⟨rfl, hS⟩
      ·refine OpStep.not (by have e2 : f' 2 = .bool false := (hd ⟨2, .guard⟩ (by simp) rfl).2; simp [Region.wanted, yielded, e2]) ?_
       exact ⟨rfl, hS⟩
      ·have e2 : f' 2 = .bool false := (hd ⟨2, .data⟩ (by simp) rfl).2
       have e12 : f' 12 = undef := (hd ⟨12, .data⟩ (by simp) rfl).2
       refine OpStep.of rfl ?_
       unfold Oper.wp
       go_simp
       first | exact ⟨by first | (simp [upd, e2, e12]; done) | (simp [upd, e2, e12]; omega), hS⟩ | (simp [upd, e2, e12]; done) | (simp [upd, e2, e12]; omega)
      ·have e13 : f' 13 = .bool false := (hd ⟨13, .data⟩ (by simp) rfl).2
       refine OpStep.of rfl ?_
       unfold Oper.wp
       go_simp
       first | exact ⟨by first | (simp [upd, e13]; done) | (simp [upd, e13]; omega), hS⟩ | (simp [upd, e13]; done) | (simp [upd, e13]; omega)
      ·refine OpStep.not (by have e14 : f' 14 = .bool false := (hd ⟨14, .guard⟩ (by simp) rfl).2; simp [Region.wanted, yielded, e14]) ?_
       exact ⟨rfl, hS⟩
      ·refine OpStep.not (by have e14 : f' 14 = .bool false := (hd ⟨14, .guard⟩ (by simp) rfl).2; simp [Region.wanted, yielded, e14]) ?_
       exact ⟨rfl, hS⟩
      ·refine OpStep.not (by have e14 : f' 14 = .bool false := (hd ⟨14, .guard⟩ (by simp) rfl).2; simp [Region.wanted, yielded, e14]) ?_
       exact ⟨rfl, hS⟩
      ·refine OpStep.not (by have e14 : f' 14 = .bool false := (hd ⟨14, .guard⟩ (by simp) rfl).2; simp [Region.wanted, yielded, e14]) ?_
       exact ⟨rfl, hS⟩
      ·refine OpStep.not (by have e14 : f' 14 = .bool false := (hd ⟨14, .guard⟩ (by simp) rfl).2; simp [Region.wanted, yielded, e14]) ?_
       exact ⟨rfl, hS⟩
      ·refine OpStep.not (by have e14 : f' 14 = .bool false := (hd ⟨14, .guard⟩ (by simp) rfl).2; simp [Region.wanted, yielded, e14]) ?_
       exact ⟨rfl, hS⟩
      ·refine OpStep.not (by have e14 : f' 14 = .bool false := (hd ⟨14, .guard⟩ (by simp) rfl).2; simp [Region.wanted, yielded, e14]) ?_
       exact ⟨rfl, hS⟩
      ·refine OpStep.not (by have e14 : f' 14 = .bool false := (hd ⟨14, .guard⟩ (by simp) rfl).2; simp [Region.wanted, yielded, e14]) ?_
       exact ⟨rfl, hS⟩
      ·refine OpStep.not (by have e14 : f' 14 = .bool false := (hd ⟨14, .guard⟩ (by simp) rfl).2; simp [Region.wanted, yielded, e14]) ?_
       exact ⟨rfl, hS⟩
      ·refine OpStep.not (by have e14 : f' 14 = .bool false := (hd ⟨14, .guard⟩ (by simp) rfl).2; simp [Region.wanted, yielded, e14]) ?_
       exact ⟨rfl, hS⟩
     ·intro op ho lb f' w' hd hS
      have e14 : f' 14 = .bool false := (hd 14 (by omega)).2
      replace ho := Option.some.inj ho
      subst ho
      refine ⟨rfl, ?_⟩
      unfold Oper.wp
      go_simp
      first | (go_step; go_step; go_meet) | (go_step; go_meet) | go_meet | skip
      exact ⟨rfl, hS.out⟩
    case rest =>
    obtain ⟨rfl, hb9⟩ := hcut
    obtain ⟨W3, rfl⟩ : ∃ W3 : World, W3 = wc := ⟨_, rfl⟩
    have HB3 := Lib.hid (HBX.out.trans (hb9.mono HBX.out.size))
    have HN3 := Lib.hid ((hb9.block _ (lt_of_block HNX.out)).trans HNX.out)
    have HO3 := Lib.hid (own_belowR HOX.out hb9 (Nat.le_refl _))
    have hw3 := HB3.out.size
    clear hb9 HBX HNX HOX HOW
    go_upto_region 11 with (fail)
    first | refine load_step rfl HN3.out (by kernel_rfl) (by kernel_rfl) ?_ | (go_step; first | refine load_step rfl HN3.out (by kernel_rfl) (by kernel_rfl) ?_ | (go_step; first | refine load_step rfl HN3.out (by kernel_rfl) (by kernel_rfl) ?_ | (go_step; first | refine load_step rfl HN3.out (by kernel_rfl) (by kernel_rfl) ?_ | (go_step; first | refine load_step rfl HN3.out (by kernel_rfl) (by kernel_rfl) ?_ | (go_step; first | refine load_step rfl HN3.out (by kernel_rfl) (by kernel_rfl) ?_ | (go_step; first | refine load_step rfl HN3.out (by kernel_rfl) (by kernel_rfl) ?_ | (go_step; first | refine load_step rfl HN3.out (by kernel_rfl) (by kernel_rfl) ?_ | (go_step; first | refine load_step rfl HN3.out (by kernel_rfl) (by kernel_rfl) ?_ | (go_step; first | refine load_step rfl HN3.out (by kernel_rfl) (by kernel_rfl) ?_ | (go_step; refine load_step rfl HN3.out (by kernel_rfl) (by kernel_rfl) ?_))))))))))
    go_wp2_with (at_builtin; refine wpList_append_own _ rfl (.tmp 61) (.tmp 63) 102 rfl W1.heap.size 157 i0 (.agg #[.int .i64 0, .int .i64 0, .int .i64 0, .int .i64 0, .int .i64 0, .int .i64 0, .int .i64 0, .int .i64 0, .int .i64 0, .int .i64 0, .int .i64 0, .int .i64 0, .int .i64 0, .int .i64 0, .int .i64 0, .int .i64 0, .int .i64 0, .int .i64 0]) 18 144 Tryz.underlying102 hi0 hz0 hz1 hz2 rfl (by decide) _ _ _ rfl (World.ownsRow.alloc HO3.out _) ⟨W3.heap.size, 0, none⟩ 1 1 (spC r) rfl rfl (cells_newR W3 (spC r) _) (spC_one r) (by unfold maxLen; first | omega | (simp; omega) | simp) (by first | omega | (simp; omega) | simp) (by first | omega | (simp; omega) | simp) ?_)
    intro v5 w5 ho5 hg5 _
    have hlt5 := (World.ownsRow.alloc HO3.out (.cells (spC r).toArray 157 (0, 0))).lt
    have HF5 : Hid (SjI W1 M (k + 1) v5 w5) := Lib.hid (SjI.step (O := []) (O2 := [r]) hlt ((HB3.out.alloc hw3 _).grown hg5 (HB3.out.alloc hw3 _).size (fun j hj => (hlt5 j hj).1)) ho5 (by simp) (fun y hy => by simp at hy; rw [hy]; exact HMO.out r HXM.out) HOM.out (by rw [HR.out]; rfl))
    clear ho5 hg5 hlt5
    go_wp2_with fail
    go_roundw
    case rel => exact ⟨k + 1, by omega, by simp, HF5.out⟩
    case measure => simp [intOf]; omega
   ·rw [List.concat_eq_append] at *
    obtain ⟨q1, q2⟩ := HOX.out
    rcases q2 with ⟨q3, q4⟩ | ⟨g3, cap3, cur3, rfl, hbg3, hg3, hx3⟩
    ·simp at q4
    obtain ⟨gx, ox, ex, hgx, hxc⟩ := rw_at' (d := noRg) spC_len HOX.out O'.length (by simp)
    injection ex with ex
    simp only [Addr.mk.injEq, and_true] at ex
    obtain ⟨rfl, rfl⟩ := ex
    rw [Nat.zero_add, show (O' ++ [x]).getD O'.length noRg = x by simp [List.getD_eq_getElem?_getD]] at hxc
    have HXO := Lib.hid (HOO.out x (by simp))
    obtain ⟨N, hN⟩ : ∃ N, (O' ++ [x]).length = N := ⟨_, rfl⟩
    obtain ⟨p, hp⟩ : ∃ p, O'.length = p := ⟨_, rfl⟩
    have hNp : N = p + 1 := by rw [← hN, ← hp]; simp
    have HNP := Lib.hid hNp
    have HNN := Lib.hid hN
    have HPP := Lib.hid hp
    rw [hN] at HOW HOX HIN hOk ⊢
    rw [hp] at hxc
    have s1 : IntKind.i64.wrap ((N : Int) - 1) = (p : Int) := (IntWalk.i64_in _ (by omega)).trans (by omega)
    have s4 : (p : Int) < (N : Int) := by omega
    have HXC := Lib.hid hxc
    clear q1 hx3 hxc hNp hN hp hg3
    go_upto_region 8 with (fail)
    generalize wr.heap.size = nb at HNX ⊢
    have hnb := lt_of_block HNX.out
    clear HOW
    have hpl := fun W => plus_any (wd x.six2 x.hi2 x.lo2) W (wd_dgs _ _ _)
    have hcm := fun W => wideCmp_any (wd r.six r.hi r.lo) (plK (wd x.six2 x.hi2 x.lo2) 1 9) W (wd_dgs _ _ _) (plK_dgs (wd_dgs _ _ _) 1 9)
    obtain ⟨tb, htb⟩ : ∃ tb, tchR x r = tb := ⟨_, rfl⟩
    have HTB := Lib.hid htb
    obtain ⟨c, hc⟩ : ∃ c, cmpN (wd r.six r.hi r.lo) (plK (wd x.six2 x.hi2 x.lo2) 1 9) 9 = c := ⟨_, rfl⟩
    rw [hc] at hcm
    obtain ⟨q, hq⟩ : ∃ q, (wd x.six x.hi x.lo 8 == wd r.six r.hi r.lo 8) = q := ⟨_, rfl⟩
    have HQ := Lib.hid hq
    have HQT : Hid ((q && decide (c ≤ 0)) = tb) := Lib.hid (by rw [← htb, ← hq, ← hc]; rfl)
    obtain ⟨y0, y1, y2, y3, y4, y5, y6, y7, y8, y9, y10, y11, y12, y13, y14, y15, y16, y17⟩ := sp_cells HXC.out
    have n0 : W2.cell? ⟨nb, 0, none⟩ = some (.int .i64 (wd r.six r.hi r.lo 0)) := cell_of HNX.out 0
    have n1 : W2.cell? ⟨nb, 1, none⟩ = some (.int .i64 (wd r.six r.hi r.lo 1)) := cell_of HNX.out 1
    have n2 : W2.cell? ⟨nb, 2, none⟩ = some (.int .i64 (wd r.six r.hi r.lo 2)) := cell_of HNX.out 2
    have n3 : W2.cell? ⟨nb, 3, none⟩ = some (.int .i64 (wd r.six r.hi r.lo 3)) := cell_of HNX.out 3
    have n4 : W2.cell? ⟨nb, 4, none⟩ = some (.int .i64 (wd r.six r.hi r.lo 4)) := cell_of HNX.out 4
    have n5 : W2.cell? ⟨nb, 5, none⟩ = some (.int .i64 (wd r.six r.hi r.lo 5)) := cell_of HNX.out 5
    have n6 : W2.cell? ⟨nb, 6, none⟩ = some (.int .i64 (wd r.six r.hi r.lo 6)) := cell_of HNX.out 6
    have n7 : W2.cell? ⟨nb, 7, none⟩ = some (.int .i64 (wd r.six r.hi r.lo 7)) := cell_of HNX.out 7
    have n8 : W2.cell? ⟨nb, 8, none⟩ = some (.int .i64 (wd r.six r.hi r.lo 8)) := cell_of HNX.out 8
    have n9 : W2.cell? ⟨nb, 9, none⟩ = some (.int .i64 (wd r.six2 r.hi2 r.lo2 0)) := cell_of HNX.out 9
    have n10 : W2.cell? ⟨nb, 10, none⟩ = some (.int .i64 (wd r.six2 r.hi2 r.lo2 1)) := cell_of HNX.out 10
    have n11 : W2.cell? ⟨nb, 11, none⟩ = some (.int .i64 (wd r.six2 r.hi2 r.lo2 2)) := cell_of HNX.out 11
    have n12 : W2.cell? ⟨nb, 12, none⟩ = some (.int .i64 (wd r.six2 r.hi2 r.lo2 3)) := cell_of HNX.out 12
    have n13 : W2.cell? ⟨nb, 13, none⟩ = some (.int .i64 (wd r.six2 r.hi2 r.lo2 4)) := cell_of HNX.out 13
    have n14 : W2.cell? ⟨nb, 14, none⟩ = some (.int .i64 (wd r.six2 r.hi2 r.lo2 5)) := cell_of HNX.out 14
    have n15 : W2.cell? ⟨nb, 15, none⟩ = some (.int .i64 (wd r.six2 r.hi2 r.lo2 6)) := cell_of HNX.out 15
    have n16 : W2.cell? ⟨nb, 16, none⟩ = some (.int .i64 (wd r.six2 r.hi2 r.lo2 7)) := cell_of HNX.out 16
    have n17 : W2.cell? ⟨nb, 17, none⟩ = some (.int .i64 (wd r.six2 r.hi2 r.lo2 8)) := cell_of HNX.out 17
    clear htb hq hc
    go_cut [45] from 20 to 45 (fun v45 wc => v45 = .bool tb ∧ Below W2.heap.size W2 wc)
    case first =>
     cases q
     ·have htf : tb = false := by rw [← HQT.out]; rfl
      subst htf
      refine wp_region_exact 25 (fun f' => ⟨#[.slice (some ⟨gM, off, none⟩) M.length cM, undef, .slice none 0 0, .slice (some ⟨g3, 0, none⟩) N cap3, undef, .pointer (some ⟨nb, 0, none⟩), .int .i64 p, .slice A M.length cap, .slice (some ⟨gM, off, none⟩) M.length cM, .slice (some ⟨gM, off, none⟩) M.length cM, .tuple #[], .slice (some ⟨gM, off, none⟩) M.length cM, .int .i64 M.length, .int .i64 k, .bool true, .pointer (some ⟨gM, off + k * 18, none⟩), .agg (spC r).toArray, .slice (some ⟨g3, 0, none⟩) N cap3, .int .i64 N, .int .i64 p, f' 0, f' 1, f' 2, f' 3, f' 4, f' 5, f' 6, f' 7, f' 8, f' 9, f' 10, f' 11, f' 12, f' 13, f' 14, f' 15, f' 16, f' 17, f' 18, f' 19, f' 20, f' 21, f' 22, f' 23, f' 24, u45, u46, u47, u48, u49, u50, u51, u52, u53, u54, u55, u56, u57, u58, u59, u60, u61, u62, u63, u64, u65, undef], []⟩) (fun i9 => match i9 with | 0 => .int .i64 p | 1 => .bool true | 2 => .bool true | 3 => .slice (some ⟨g3, 0, none⟩) N cap3 | 4 => .int .i64 p | 5 => .pointer (some ⟨g3, p * 18, none⟩) | 6 => .pointer (some ⟨g3, p * 18, none⟩) | 7 => .pointer (some ⟨g3, p * 18 + 8, none⟩) | 8 => .int .i64 (wd x.six x.hi x.lo 8) | 9 => .pointer (some ⟨nb, 0, none⟩) | 10 => .pointer (some ⟨nb, 8, none⟩) | 11 => .int .i64 (wd r.six r.hi r.lo 8) | 12 => .bool false | 13 => .bool false | 14 => .bool false | 15 => undef | 16 => undef | 17 => undef | 18 => undef | 19 => undef | 20 => undef | 21 => undef | 22 => undef | 23 => undef | 24 => undef | _ => undef) (fun lb w' => Hid (Below W2.heap.size W2 w')) (fun i9 => match i9 with | 0 => u20 | 1 => u21 | 2 => u22 | 3 => u23 | 4 => u24 | 5 => u25 | 6 => u26 | 7 => u27 | 8 => u28 | 9 => u29 | 10 => u30 | 11 => u31 | 12 => u32 | 13 => u33 | 14 => u34 | 15 => u35 | 16 => u36 | 17 => u37 | 18 => u38 | 19 => u39 | 20 => u40 | 21 => u41 | 22 => u42 | 23 => u43 | 24 => u44 | _ => undef) 30 (show Tryz.prog.follows .mixedOrders = true from by kernel_rfl) (by kernel_rfl) ?_ ?_ (Lib.hid (Below.refl _ _).drew)
      ·intro i9 op hi9 ho lb f' w' hl hS hd
       have hcase : i9 = 0 ∨ i9 = 1 ∨ i9 = 2 ∨ i9 = 3 ∨ i9 = 4 ∨ i9 = 5 ∨ i9 = 6 ∨ i9 = 7 ∨ i9 = 8 ∨ i9 = 9 ∨ i9 = 10 ∨ i9 = 11 ∨ i9 = 12 ∨ i9 = 13 ∨ i9 = 14 ∨ i9 = 15 ∨ i9 = 16 ∨ i9 = 17 ∨ i9 = 18 ∨ i9 = 19 ∨ i9 = 20 ∨ i9 = 21 ∨ i9 = 22 ∨ i9 = 23 ∨ i9 = 24 := by omega
       rcases hcase with rfl | rfl | rfl | rfl | rfl | rfl | rfl | rfl | rfl | rfl | rfl | rfl | rfl | rfl | rfl | rfl | rfl | rfl | rfl | rfl | rfl | rfl | rfl | rfl | rfl <;> (replace ho := Option.some.inj ho; subst ho)
       ·refine OpStep.of rfl ?_
        unfold Oper.wp
        go_simp
        first | exact ⟨by first | (simp [upd]; done) | (simp [upd]; omega), hS⟩ | (simp [upd]; done) | (simp [upd]; omega)
       ·have e0 : f' 0 = .int .i64 p := (hd ⟨0, .data⟩ (by simp) rfl).2
        refine OpStep.of rfl ?_
        unfold Oper.wp
        go_simp
        first | exact ⟨by first | (simp [upd, e0]; done) | (simp [upd, e0]; omega), hS⟩ | (simp [upd, e0]; done) | (simp [upd, e0]; omega)
       ·have e1 : f' 1 = .bool true := (hd ⟨1, .data⟩ (by simp) rfl).2
        refine OpStep.of rfl ?_
        unfold Oper.wp
        go_simp
        first | exact ⟨by first | (simp [upd, e1]; done) | (simp [upd, e1]; omega), hS⟩ | (simp [upd, e1]; done) | (simp [upd, e1]; omega)
       ·refine OpStep.of (by have e2 : f' 2 = .bool true := (hd ⟨2, .guard⟩ (by simp) rfl).2; simp [Region.wanted, yielded, e2]) ?_
        unfold Oper.wp
        go_simp
        first | exact ⟨by first | (simp [upd]; done) | (simp [upd]; omega), hS⟩ | (simp [upd]; done) | (simp [upd]; omega)
       ·refine OpStep.of (by have e2 : f' 2 = .bool true := (hd ⟨2, .guard⟩ (by simp) rfl).2; simp [Region.wanted, yielded, e2]) ?_
        unfold Oper.wp
        go_simp
        first | exact ⟨by first | (simp [upd]; done) | (simp [upd]; omega), hS⟩ | (simp [upd]; done) | (simp [upd]; omega)
       ·have e3 : f' 3 = .slice (some ⟨g3, 0, none⟩) N cap3 := (hd ⟨3, .data⟩ (by simp) rfl).2
        have e4 : f' 4 = .int .i64 p := (hd ⟨4, .data⟩ (by simp) rfl).2
        refine OpStep.of (by have e2 : f' 2 = .bool true := (hd ⟨2, .guard⟩ (by simp) rfl).2; simp [Region.wanted, yielded, e2]) ?_
        unfold Oper.wp
        go_simp
        first | exact ⟨by first | (simp [upd, e3, e4]; done) | (simp [upd, e3, e4]; omega), hS⟩ | (simp [upd, e3, e4]; done) | (simp [upd, e3, e4]; omega)
       ·have e5 : f' 5 = .pointer (some ⟨g3, p * 18, none⟩) := (hd ⟨5, .data⟩ (by simp) rfl).2
        refine OpStep.of (by have e2 : f' 2 = .bool true := (hd ⟨2, .guard⟩ (by simp) rfl).2; simp [Region.wanted, yielded, e2]) ?_
        unfold Oper.wp
        go_simp
        first | exact ⟨by first | (simp [upd, e5]; done) | (simp [upd, e5]; omega), hS⟩ | (simp [upd, e5]; done) | (simp [upd, e5]; omega)
       ·have e6 : f' 6 = .pointer (some ⟨g3, p * 18, none⟩) := (hd ⟨6, .data⟩ (by simp) rfl).2
        refine OpStep.of (by have e2 : f' 2 = .bool true := (hd ⟨2, .guard⟩ (by simp) rfl).2; simp [Region.wanted, yielded, e2]) ?_
        unfold Oper.wp
        go_simp
        first | exact ⟨by first | (simp [upd, e6]; done) | (simp [upd, e6]; omega), hS⟩ | (simp [upd, e6]; done) | (simp [upd, e6]; omega)
       ·have e7 : f' 7 = .pointer (some ⟨g3, p * 18 + 8, none⟩) := (hd ⟨7, .data⟩ (by simp) rfl).2
        refine OpStep.of (by have e2 : f' 2 = .bool true := (hd ⟨2, .guard⟩ (by simp) rfl).2; simp [Region.wanted, yielded, e2]) ?_
        have y8' : w'.cell? ⟨g3, p * 18 + 8, none⟩ = some (.int .i64 (wd x.six x.hi x.lo 8)) := (hS.out.cell (p := ⟨g3, _, none⟩) hgx).trans y8
        unfold Oper.wp
        go_simp
        first | exact ⟨by first | (simp [upd, e7]; done) | (simp [upd, e7]; omega), hS⟩ | (simp [upd, e7]; done) | (simp [upd, e7]; omega)
       ·refine OpStep.of (by have e2 : f' 2 = .bool true := (hd ⟨2, .guard⟩ (by simp) rfl).2; simp [Region.wanted, yielded, e2]) ?_
        unfold Oper.wp
        go_simp
        first | exact ⟨by first | (simp [upd]; done) | (simp [upd]; omega), hS⟩ | (simp [upd]; done) | (simp [upd]; omega)
       ·have e9 : f' 9 = .pointer (some ⟨nb, 0, none⟩) := (hd ⟨9, .data⟩ (by simp) rfl).2
        refine OpStep.of (by have e2 : f' 2 = .bool true := (hd ⟨2, .guard⟩ (by simp) rfl).2; simp [Region.wanted, yielded, e2]) ?_
        unfold Oper.wp
        go_simp
        first | exact ⟨by first | (simp [upd, e9]; done) | (simp [upd, e9]; omega), hS⟩ | (simp [upd, e9]; done) | (simp [upd, e9]; omega)
       ·have e10 : f' 10 = .pointer (some ⟨nb, 8, none⟩) := (hd ⟨10, .data⟩ (by simp) rfl).2
        refine OpStep.of (by have e2 : f' 2 = .bool true := (hd ⟨2, .guard⟩ (by simp) rfl).2; simp [Region.wanted, yielded, e2]) ?_
        have n8' : w'.cell? ⟨nb, 8, none⟩ = some (.int .i64 (wd r.six r.hi r.lo 8)) := (hS.out.cell (p := ⟨nb, _, none⟩) hnb).trans n8
        unfold Oper.wp
        go_simp
        first | exact ⟨by first | (simp [upd, e10]; done) | (simp [upd, e10]; omega), hS⟩ | (simp [upd, e10]; done) | (simp [upd, e10]; omega)
       ·have e8 : f' 8 = .int .i64 (wd x.six x.hi x.lo 8) := (hd ⟨8, .data⟩ (by simp) rfl).2
        have e11 : f' 11 = .int .i64 (wd r.six r.hi r.lo 8) := (hd ⟨11, .data⟩ (by simp) rfl).2
        refine OpStep.of (by have e2 : f' 2 = .bool true := (hd ⟨2, .guard⟩ (by simp) rfl).2; simp [Region.wanted, yielded, e2]) ?_
        unfold Oper.wp
        go_simp
        first | exact ⟨by first | (simp [upd, e8, e11, HQ.out]; done) | (simp [upd, e8, e11, HQ.out]; omega), hS⟩ | (simp [upd, e8, e11, HQ.out]; done) | (simp [upd, e8, e11, HQ.out]; omega)
       ·have e2 : f' 2 = .bool true := (hd ⟨2, .data⟩ (by simp) rfl).2
        have e12 : f' 12 = .bool false := (hd ⟨12, .data⟩ (by simp) rfl).2
        refine OpStep.of rfl ?_
        unfold Oper.wp
        go_simp
        first | exact ⟨by first | (simp [upd, e2, e12]; done) | (simp [upd, e2, e12]; omega), hS⟩ | (simp [upd, e2, e12]; done) | (simp [upd, e2, e12]; omega)
       ·have e13 : f' 13 = .bool false := (hd ⟨13, .data⟩ (by simp) rfl).2
        refine OpStep.of rfl ?_
        unfold Oper.wp
        go_simp
        first | exact ⟨by first | (simp [upd, e13]; done) | (simp [upd, e13]; omega), hS⟩ | (simp [upd, e13]; done) | (simp [upd, e13]; omega)
       ·refine OpStep.not (by have e14 : f' 14 = .bool false := (hd ⟨14, .guard⟩ (by simp) rfl).2; simp [Region.wanted, yielded, e14]) ?_
        exact ⟨rfl, hS⟩
       ·refine OpStep.not (by have e14 : f' 14 = .bool false := (hd ⟨14, .guard⟩ (by simp) rfl).2; simp [Region.wanted, yielded, e14]) ?_
        exact ⟨rfl, hS⟩
       ·refine OpStep.not (by have e14 : f' 14 = .bool false := (hd ⟨14, .guard⟩ (by simp) rfl).2; simp [Region.wanted, yielded, e14]) ?_
        exact ⟨rfl, hS⟩
       ·refine OpStep.not (by have e14 : f' 14 = .bool false := (hd ⟨14, .guard⟩ (by simp) rfl).2; simp [Region.wanted, yielded, e14]) ?_
        exact ⟨rfl, hS⟩
       ·refine OpStep.not (by have e14 : f' 14 = .bool false := (hd ⟨14, .guard⟩ (by simp) rfl).2; simp [Region.wanted, yielded, e14]) ?_
        exact ⟨rfl, hS⟩
       ·refine OpStep.not (by have e14 : f' 14 = .bool false := (hd ⟨14, .guard⟩ (by simp) rfl).2; simp [Region.wanted, yielded, e14]) ?_
        exact ⟨rfl, hS⟩
       ·refine OpStep.not (by have e14 : f' 14 = .bool false := (hd ⟨14, .guard⟩ (by simp) rfl).2; simp [Region.wanted, yielded, e14]) ?_
        exact ⟨rfl, hS⟩
       ·refine OpStep.not (by have e14 : f' 14 = .bool false := (hd ⟨14, .guard⟩ (by simp) rfl).2; simp [Region.wanted, yielded, e14]) ?_
        exact ⟨rfl, hS⟩
       ·refine OpStep.not (by have e14 : f' 14 = .bool false := (hd ⟨14, .guard⟩ (by simp) rfl).2; simp [Region.wanted, yielded, e14]) ?_
        exact ⟨rfl, hS⟩
       ·refine OpStep.not (by have e14 : f' 14 = .bool false := (hd ⟨14, .guard⟩ (by simp) rfl).2; simp [Region.wanted, yielded, e14]) ?_
        exact ⟨rfl, hS⟩
      ·intro op ho lb f' w' hd hS
       have e14 : f' 14 = .bool false := (hd 14 (by omega)).2
       replace ho := Option.some.inj ho
       subst ho
       refine ⟨rfl, ?_⟩
       unfold Oper.wp
       go_simp
       first | (go_step; go_step; go_meet) | (go_step; go_meet) | go_meet | skip
       exact ⟨rfl, hS.out⟩
     ·have hct : decide (c ≤ 0) = tb := by rw [← HQT.out]; rfl
      have HCT := Lib.hid hct
      clear hct
      refine wp_region_exact 25 (fun f' => ⟨#[.slice (some ⟨gM, off, none⟩) M.length cM, undef, .slice none 0 0, .slice (some ⟨g3, 0, none⟩) N cap3, undef, .pointer (some ⟨nb, 0, none⟩), .int .i64 p, .slice A M.length cap, .slice (some ⟨gM, off, none⟩) M.length cM, .slice (some ⟨gM, off, none⟩) M.length cM, .tuple #[], .slice (some ⟨gM, off, none⟩) M.length cM, .int .i64 M.length, .int .i64 k, .bool true, .pointer (some ⟨gM, off + k * 18, none⟩), .agg (spC r).toArray, .slice (some ⟨g3, 0, none⟩) N cap3, .int .i64 N, .int .i64 p, f' 0, f' 1, f' 2, f' 3, f' 4, f' 5, f' 6, f' 7, f' 8, f' 9, f' 10, f' 11, f' 12, f' 13, f' 14, f' 15, f' 16, f' 17, f' 18, f' 19, f' 20, f' 21, f' 22, f' 23, f' 24, u45, u46, u47, u48, u49, u50, u51, u52, u53, u54, u55, u56, u57, u58, u59, u60, u61, u62, u63, u64, u65, undef], []⟩) (fun i9 => match i9 with | 0 => .int .i64 p | 1 => .bool true | 2 => .bool true | 3 => .slice (some ⟨g3, 0, none⟩) N cap3 | 4 => .int .i64 p | 5 => .pointer (some ⟨g3, p * 18, none⟩) | 6 => .pointer (some ⟨g3, p * 18, none⟩) | 7 => .pointer (some ⟨g3, p * 18 + 8, none⟩) | 8 => .int .i64 (wd x.six x.hi x.lo 8) | 9 => .pointer (some ⟨nb, 0, none⟩) | 10 => .pointer (some ⟨nb, 8, none⟩) | 11 => .int .i64 (wd r.six r.hi r.lo 8) | 12 => .bool true | 13 => .bool true | 14 => .bool true | 15 => .pointer (some ⟨nb, 0, none⟩) | 16 => .agg #[.int .i64 (wd r.six r.hi r.lo 0), .int .i64 (wd r.six r.hi r.lo 1), .int .i64 (wd r.six r.hi r.lo 2), .int .i64 (wd r.six r.hi r.lo 3), .int .i64 (wd r.six r.hi r.lo 4), .int .i64 (wd r.six r.hi r.lo 5), .int .i64 (wd r.six r.hi r.lo 6), .int .i64 (wd r.six r.hi r.lo 7), .int .i64 (wd r.six r.hi r.lo 8)] | 17 => .slice (some ⟨g3, 0, none⟩) N cap3 | 18 => .int .i64 p | 19 => .pointer (some ⟨g3, p * 18, none⟩) | 20 => .pointer (some ⟨g3, p * 18 + 9, none⟩) | 21 => .agg #[.int .i64 (wd x.six2 x.hi2 x.lo2 0), .int .i64 (wd x.six2 x.hi2 x.lo2 1), .int .i64 (wd x.six2 x.hi2 x.lo2 2), .int .i64 (wd x.six2 x.hi2 x.lo2 3), .int .i64 (wd x.six2 x.hi2 x.lo2 4), .int .i64 (wd x.six2 x.hi2 x.lo2 5), .int .i64 (wd x.six2 x.hi2 x.lo2 6), .int .i64 (wd x.six2 x.hi2 x.lo2 7), .int .i64 (wd x.six2 x.hi2 x.lo2 8)] | 22 => wideV (plK (wd x.six2 x.hi2 x.lo2) 1 9) | 23 => .int .i64 c | 24 => .bool tb | _ => undef) (fun lb w' => Hid (Below W2.heap.size W2 w')) (fun i9 => match i9 with | 0 => u20 | 1 => u21 | 2 => u22 | 3 => u23 | 4 => u24 | 5 => u25 | 6 => u26 | 7 => u27 | 8 => u28 | 9 => u29 | 10 => u30 | 11 => u31 | 12 => u32 | 13 => u33 | 14 => u34 | 15 => u35 | 16 => u36 | 17 => u37 | 18 => u38 | 19 => u39 | 20 => u40 | 21 => u41 | 22 => u42 | 23 => u43 | 24 => u44 | _ => undef) 30 (show Tryz.prog.follows .mixedOrders = true from by kernel_rfl) (by kernel_rfl) ?_ ?_ (Lib.hid (Below.refl _ _).drew)
      ·intro i9 op hi9 ho lb f' w' hl hS hd
       have hcase : i9 = 0 ∨ i9 = 1 ∨ i9 = 2 ∨ i9 = 3 ∨ i9 = 4 ∨ i9 = 5 ∨ i9 = 6 ∨ i9 = 7 ∨ i9 = 8 ∨ i9 = 9 ∨ i9 = 10 ∨ i9 = 11 ∨ i9 = 12 ∨ i9 = 13 ∨ i9 = 14 ∨ i9 = 15 ∨ i9 = 16 ∨ i9 = 17 ∨ i9 = 18 ∨ i9 = 19 ∨ i9 = 20 ∨ i9 = 21 ∨ i9 = 22 ∨ i9 = 23 ∨ i9 = 24 := by omega
       rcases hcase with rfl | rfl | rfl | rfl | rfl | rfl | rfl | rfl | rfl | rfl | rfl | rfl | rfl | rfl | rfl | rfl | rfl | rfl | rfl | rfl | rfl | rfl | rfl | rfl | rfl <;> (replace ho := Option.some.inj ho; subst ho)
       ·refine OpStep.of rfl ?_
        unfold Oper.wp
        go_simp
        first | exact ⟨by first | (simp [upd]; done) | (simp [upd]; omega), hS⟩ | (simp [upd]; done) | (simp [upd]; omega)
       ·have e0 : f' 0 = .int .i64 p := (hd ⟨0, .data⟩ (by simp) rfl).2
        refine OpStep.of rfl ?_
        unfold Oper.wp
        go_simp
        first | exact ⟨by first | (simp [upd, e0]; done) | (simp [upd, e0]; omega), hS⟩ | (simp [upd, e0]; done) | (simp [upd, e0]; omega)
       ·have e1 : f' 1 = .bool true := (hd ⟨1, .data⟩ (by simp) rfl).2
        refine OpStep.of rfl ?_
        unfold Oper.wp
        go_simp
        first | exact ⟨by first | (simp [upd, e1]; done) | (simp [upd, e1]; omega), hS⟩ | (simp [upd, e1]; done) | (simp [upd, e1]; omega)
       ·refine OpStep.of (by have e2 : f' 2 = .bool true := (hd ⟨2, .guard⟩ (by simp) rfl).2; simp [Region.wanted, yielded, e2]) ?_
        unfold Oper.wp
        go_simp
        first | exact ⟨by first | (simp [upd]; done) | (simp [upd]; omega), hS⟩ | (simp [upd]; done) | (simp [upd]; omega)
       ·refine OpStep.of (by have e2 : f' 2 = .bool true := (hd ⟨2, .guard⟩ (by simp) rfl).2; simp [Region.wanted, yielded, e2]) ?_
        unfold Oper.wp
        go_simp
        first | exact ⟨by first | (simp [upd]; done) | (simp [upd]; omega), hS⟩ | (simp [upd]; done) | (simp [upd]; omega)
       ·have e3 : f' 3 = .slice (some ⟨g3, 0, none⟩) N cap3 := (hd ⟨3, .data⟩ (by simp) rfl).2
        have e4 : f' 4 = .int .i64 p := (hd ⟨4, .data⟩ (by simp) rfl).2
        refine OpStep.of (by have e2 : f' 2 = .bool true := (hd ⟨2, .guard⟩ (by simp) rfl).2; simp [Region.wanted, yielded, e2]) ?_
        unfold Oper.wp
        go_simp
        first | exact ⟨by first | (simp [upd, e3, e4]; done) | (simp [upd, e3, e4]; omega), hS⟩ | (simp [upd, e3, e4]; done) | (simp [upd, e3, e4]; omega)
       ·have e5 : f' 5 = .pointer (some ⟨g3, p * 18, none⟩) := (hd ⟨5, .data⟩ (by simp) rfl).2
        refine OpStep.of (by have e2 : f' 2 = .bool true := (hd ⟨2, .guard⟩ (by simp) rfl).2; simp [Region.wanted, yielded, e2]) ?_
        unfold Oper.wp
        go_simp
        first | exact ⟨by first | (simp [upd, e5]; done) | (simp [upd, e5]; omega), hS⟩ | (simp [upd, e5]; done) | (simp [upd, e5]; omega)
       ·have e6 : f' 6 = .pointer (some ⟨g3, p * 18, none⟩) := (hd ⟨6, .data⟩ (by simp) rfl).2
        refine OpStep.of (by have e2 : f' 2 = .bool true := (hd ⟨2, .guard⟩ (by simp) rfl).2; simp [Region.wanted, yielded, e2]) ?_
        unfold Oper.wp
        go_simp
        first | exact ⟨by first | (simp [upd, e6]; done) | (simp [upd, e6]; omega), hS⟩ | (simp [upd, e6]; done) | (simp [upd, e6]; omega)
       ·have e7 : f' 7 = .pointer (some ⟨g3, p * 18 + 8, none⟩) := (hd ⟨7, .data⟩ (by simp) rfl).2
        refine OpStep.of (by have e2 : f' 2 = .bool true := (hd ⟨2, .guard⟩ (by simp) rfl).2; simp [Region.wanted, yielded, e2]) ?_
        have y8' : w'.cell? ⟨g3, p * 18 + 8, none⟩ = some (.int .i64 (wd x.six x.hi x.lo 8)) := (hS.out.cell (p := ⟨g3, _, none⟩) hgx).trans y8
        unfold Oper.wp
        go_simp
        first | exact ⟨by first | (simp [upd, e7]; done) | (simp [upd, e7]; omega), hS⟩ | (simp [upd, e7]; done) | (simp [upd, e7]; omega)
       ·refine OpStep.of (by have e2 : f' 2 = .bool true := (hd ⟨2, .guard⟩ (by simp) rfl).2; simp [Region.wanted, yielded, e2]) ?_
        unfold Oper.wp
        go_simp
        first | exact ⟨by first | (simp [upd]; done) | (simp [upd]; omega), hS⟩ | (simp [upd]; done) | (simp [upd]; omega)
       ·have e9 : f' 9 = .pointer (some ⟨nb, 0, none⟩) := (hd ⟨9, .data⟩ (by simp) rfl).2
        refine OpStep.of (by have e2 : f' 2 = .bool true := (hd ⟨2, .guard⟩ (by simp) rfl).2; simp [Region.wanted, yielded, e2]) ?_
        unfold Oper.wp
        go_simp
        first | exact ⟨by first | (simp [upd, e9]; done) | (simp [upd, e9]; omega), hS⟩ | (simp [upd, e9]; done) | (simp [upd, e9]; omega)
       ·have e10 : f' 10 = .pointer (some ⟨nb, 8, none⟩) := (hd ⟨10, .data⟩ (by simp) rfl).2
        refine OpStep.of (by have e2 : f' 2 = .bool true := (hd ⟨2, .guard⟩ (by simp) rfl).2; simp [Region.wanted, yielded, e2]) ?_
        have n8' : w'.cell? ⟨nb, 8, none⟩ = some (.int .i64 (wd r.six r.hi r.lo 8)) := (hS.out.cell (p := ⟨nb, _, none⟩) hnb).trans n8
        unfold Oper.wp
        go_simp
        first | exact ⟨by first | (simp [upd, e10]; done) | (simp [upd, e10]; omega), hS⟩ | (simp [upd, e10]; done) | (simp [upd, e10]; omega)
       ·have e8 : f' 8 = .int .i64 (wd x.six x.hi x.lo 8) := (hd ⟨8, .data⟩ (by simp) rfl).2
        have e11 : f' 11 = .int .i64 (wd r.six r.hi r.lo 8) := (hd ⟨11, .data⟩ (by simp) rfl).2
        refine OpStep.of (by have e2 : f' 2 = .bool true := (hd ⟨2, .guard⟩ (by simp) rfl).2; simp [Region.wanted, yielded, e2]) ?_
        unfold Oper.wp
        go_simp
        first | exact ⟨by first | (simp [upd, e8, e11, HQ.out]; done) | (simp [upd, e8, e11, HQ.out]; omega), hS⟩ | (simp [upd, e8, e11, HQ.out]; done) | (simp [upd, e8, e11, HQ.out]; omega)
       ·have e2 : f' 2 = .bool true := (hd ⟨2, .data⟩ (by simp) rfl).2
        have e12 : f' 12 = .bool true := (hd ⟨12, .data⟩ (by simp) rfl).2
        refine OpStep.of rfl ?_
        unfold Oper.wp
        go_simp
        first | exact ⟨by first | (simp [upd, e2, e12]; done) | (simp [upd, e2, e12]; omega), hS⟩ | (simp [upd, e2, e12]; done) | (simp [upd, e2, e12]; omega)
       ·have e13 : f' 13 = .bool true := (hd ⟨13, .data⟩ (by simp) rfl).2
        refine OpStep.of rfl ?_
        unfold Oper.wp
        go_simp
        first | exact ⟨by first | (simp [upd, e13]; done) | (simp [upd, e13]; omega), hS⟩ | (simp [upd, e13]; done) | (simp [upd, e13]; omega)
       ·refine OpStep.of (by have e14 : f' 14 = .bool true := (hd ⟨14, .guard⟩ (by simp) rfl).2; simp [Region.wanted, yielded, e14]) ?_
        unfold Oper.wp
        go_simp
        first | exact ⟨by first | (simp [upd]; done) | (simp [upd]; omega), hS⟩ | (simp [upd]; done) | (simp [upd]; omega)
       ·have e15 : f' 15 = .pointer (some ⟨nb, 0, none⟩) := (hd ⟨15, .data⟩ (by simp) rfl).2
        refine OpStep.of (by have e14 : f' 14 = .bool true := (hd ⟨14, .guard⟩ (by simp) rfl).2; simp [Region.wanted, yielded, e14]) ?_
        have n0' : w'.cell? ⟨nb, 0, none⟩ = some (.int .i64 (wd r.six r.hi r.lo 0)) := (hS.out.cell (p := ⟨nb, _, none⟩) hnb).trans n0
        have n1' : w'.cell? ⟨nb, 1, none⟩ = some (.int .i64 (wd r.six r.hi r.lo 1)) := (hS.out.cell (p := ⟨nb, _, none⟩) hnb).trans n1
        have n2' : w'.cell? ⟨nb, 2, none⟩ = some (.int .i64 (wd r.six r.hi r.lo 2)) := (hS.out.cell (p := ⟨nb, _, none⟩) hnb).trans n2
        have n3' : w'.cell? ⟨nb, 3, none⟩ = some (.int .i64 (wd r.six r.hi r.lo 3)) := (hS.out.cell (p := ⟨nb, _, none⟩) hnb).trans n3
        have n4' : w'.cell? ⟨nb, 4, none⟩ = some (.int .i64 (wd r.six r.hi r.lo 4)) := (hS.out.cell (p := ⟨nb, _, none⟩) hnb).trans n4
        have n5' : w'.cell? ⟨nb, 5, none⟩ = some (.int .i64 (wd r.six r.hi r.lo 5)) := (hS.out.cell (p := ⟨nb, _, none⟩) hnb).trans n5
        have n6' : w'.cell? ⟨nb, 6, none⟩ = some (.int .i64 (wd r.six r.hi r.lo 6)) := (hS.out.cell (p := ⟨nb, _, none⟩) hnb).trans n6
        have n7' : w'.cell? ⟨nb, 7, none⟩ = some (.int .i64 (wd r.six r.hi r.lo 7)) := (hS.out.cell (p := ⟨nb, _, none⟩) hnb).trans n7
        have n8' : w'.cell? ⟨nb, 8, none⟩ = some (.int .i64 (wd r.six r.hi r.lo 8)) := (hS.out.cell (p := ⟨nb, _, none⟩) hnb).trans n8
        unfold Oper.wp
        go_simp
        first | exact ⟨by first | (simp [upd, e15]; done) | (simp [upd, e15]; omega), hS⟩ | (simp [upd, e15]; done) | (simp [upd, e15]; omega)
       ·refine OpStep.of (by have e14 : f' 14 = .bool true := (hd ⟨14, .guard⟩ (by simp) rfl).2; simp [Region.wanted, yielded, e14]) ?_
        unfold Oper.wp
        go_simp
        first | exact ⟨by first | (simp [upd]; done) | (simp [upd]; omega), hS⟩ | (simp [upd]; done) | (simp [upd]; omega)
       ·refine OpStep.of (by have e14 : f' 14 = .bool true := (hd ⟨14, .guard⟩ (by simp) rfl).2; simp [Region.wanted, yielded, e14]) ?_
        unfold Oper.wp
        go_simp
        first | exact ⟨by first | (simp [upd]; done) | (simp [upd]; omega), hS⟩ | (simp [upd]; done) | (simp [upd]; omega)
       ·have e17 : f' 17 = .slice (some ⟨g3, 0, none⟩) N cap3 := (hd ⟨17, .data⟩ (by simp) rfl).2
        have e18 : f' 18 = .int .i64 p := (hd ⟨18, .data⟩ (by simp) rfl).2
        refine OpStep.of (by have e14 : f' 14 = .bool true := (hd ⟨14, .guard⟩ (by simp) rfl).2; simp [Region.wanted, yielded, e14]) ?_
        unfold Oper.wp
        go_simp
        first | exact ⟨by first | (simp [upd, e17, e18]; done) | (simp [upd, e17, e18]; omega), hS⟩ | (simp [upd, e17, e18]; done) | (simp [upd, e17, e18]; omega)
       ·have e19 : f' 19 = .pointer (some ⟨g3, p * 18, none⟩) := (hd ⟨19, .data⟩ (by simp) rfl).2
        refine OpStep.of (by have e14 : f' 14 = .bool true := (hd ⟨14, .guard⟩ (by simp) rfl).2; simp [Region.wanted, yielded, e14]) ?_
        unfold Oper.wp
        go_simp
        first | exact ⟨by first | (simp [upd, e19]; done) | (simp [upd, e19]; omega), hS⟩ | (simp [upd, e19]; done) | (simp [upd, e19]; omega)
       ·have e20 : f' 20 = .pointer (some ⟨g3, p * 18 + 9, none⟩) := (hd ⟨20, .data⟩ (by simp) rfl).2
        refine OpStep.of (by have e14 : f' 14 = .bool true := (hd ⟨14, .guard⟩ (by simp) rfl).2; simp [Region.wanted, yielded, e14]) ?_
        have y9' : w'.cell? ⟨g3, p * 18 + 9, none⟩ = some (.int .i64 (wd x.six2 x.hi2 x.lo2 0)) := (hS.out.cell (p := ⟨g3, _, none⟩) hgx).trans y9
        have y10' : w'.cell? ⟨g3, p * 18 + 10, none⟩ = some (.int .i64 (wd x.six2 x.hi2 x.lo2 1)) := (hS.out.cell (p := ⟨g3, _, none⟩) hgx).trans y10
        have y11' : w'.cell? ⟨g3, p * 18 + 11, none⟩ = some (.int .i64 (wd x.six2 x.hi2 x.lo2 2)) := (hS.out.cell (p := ⟨g3, _, none⟩) hgx).trans y11
        have y12' : w'.cell? ⟨g3, p * 18 + 12, none⟩ = some (.int .i64 (wd x.six2 x.hi2 x.lo2 3)) := (hS.out.cell (p := ⟨g3, _, none⟩) hgx).trans y12
        have y13' : w'.cell? ⟨g3, p * 18 + 13, none⟩ = some (.int .i64 (wd x.six2 x.hi2 x.lo2 4)) := (hS.out.cell (p := ⟨g3, _, none⟩) hgx).trans y13
        have y14' : w'.cell? ⟨g3, p * 18 + 14, none⟩ = some (.int .i64 (wd x.six2 x.hi2 x.lo2 5)) := (hS.out.cell (p := ⟨g3, _, none⟩) hgx).trans y14
        have y15' : w'.cell? ⟨g3, p * 18 + 15, none⟩ = some (.int .i64 (wd x.six2 x.hi2 x.lo2 6)) := (hS.out.cell (p := ⟨g3, _, none⟩) hgx).trans y15
        have y16' : w'.cell? ⟨g3, p * 18 + 16, none⟩ = some (.int .i64 (wd x.six2 x.hi2 x.lo2 7)) := (hS.out.cell (p := ⟨g3, _, none⟩) hgx).trans y16
        have y17' : w'.cell? ⟨g3, p * 18 + 17, none⟩ = some (.int .i64 (wd x.six2 x.hi2 x.lo2 8)) := (hS.out.cell (p := ⟨g3, _, none⟩) hgx).trans y17
        unfold Oper.wp
        go_simp
        first | exact ⟨by first | (simp [upd, e20]; done) | (simp [upd, e20]; omega), hS⟩ | (simp [upd, e20]; done) | (simp [upd, e20]; omega)
       ·have e21 : f' 21 = .agg #[.int .i64 (wd x.six2 x.hi2 x.lo2 0), .int .i64 (wd x.six2 x.hi2 x.lo2 1), .int .i64 (wd x.six2 x.hi2 x.lo2 2), .int .i64 (wd x.six2 x.hi2 x.lo2 3), .int .i64 (wd x.six2 x.hi2 x.lo2 4), .int .i64 (wd x.six2 x.hi2 x.lo2 5), .int .i64 (wd x.six2 x.hi2 x.lo2 6), .int .i64 (wd x.six2 x.hi2 x.lo2 7), .int .i64 (wd x.six2 x.hi2 x.lo2 8)] := (hd ⟨21, .data⟩ (by simp) rfl).2
        refine OpStep.of (by have e14 : f' 14 = .bool true := (hd ⟨14, .guard⟩ (by simp) rfl).2; simp [Region.wanted, yielded, e14]) ?_
        unfold Oper.wp
        go_simp
        refine (hpl w').mono ?_
        rintro e w9 ⟨rfl, hb9⟩
        exact ⟨by simp [upd, e21], Lib.hid (hS.out.trans (hb9.mono hS.out.size))⟩
       ·have e16 : f' 16 = .agg #[.int .i64 (wd r.six r.hi r.lo 0), .int .i64 (wd r.six r.hi r.lo 1), .int .i64 (wd r.six r.hi r.lo 2), .int .i64 (wd r.six r.hi r.lo 3), .int .i64 (wd r.six r.hi r.lo 4), .int .i64 (wd r.six r.hi r.lo 5), .int .i64 (wd r.six r.hi r.lo 6), .int .i64 (wd r.six r.hi r.lo 7), .int .i64 (wd r.six r.hi r.lo 8)] := (hd ⟨16, .data⟩ (by simp) rfl).2
        have e22 : f' 22 = wideV (plK (wd x.six2 x.hi2 x.lo2) 1 9) := (hd ⟨22, .data⟩ (by simp) rfl).2
        refine OpStep.of (by have e14 : f' 14 = .bool true := (hd ⟨14, .guard⟩ (by simp) rfl).2; simp [Region.wanted, yielded, e14]) ?_
        unfold Oper.wp
        go_simp
        refine (hcm w').mono ?_
        rintro e w9 ⟨rfl, hb9⟩
        exact ⟨by simp [upd, e16, e22], Lib.hid (hS.out.trans (hb9.mono hS.out.size))⟩
       ·have e23 : f' 23 = .int .i64 c := (hd ⟨23, .data⟩ (by simp) rfl).2
        refine OpStep.of (by have e14 : f' 14 = .bool true := (hd ⟨14, .guard⟩ (by simp) rfl).2; simp [Region.wanted, yielded, e14]) ?_
        unfold Oper.wp
        go_simp
        first | exact ⟨by first | (simp [upd, e23, HCT.out]; done) | (simp [upd, e23, HCT.out]; omega), hS⟩ | (simp [upd, e23, HCT.out]; done) | (simp [upd, e23, HCT.out]; omega)
      ·intro op ho lb f' w' hd hS
       have e14 : f' 14 = .bool true := (hd 14 (by omega)).2
       have e24 : f' 24 = .bool tb := (hd 24 (by omega)).2
       replace ho := Option.some.inj ho
       subst ho
       refine ⟨rfl, ?_⟩
       unfold Oper.wp
       go_simp
       first | (go_step; go_step; go_meet) | (go_step; go_meet) | go_meet | skip
       exact ⟨rfl, hS.out⟩
    case rest =>
    obtain ⟨rfl, hb9⟩ := hcut
    obtain ⟨W3, rfl⟩ : ∃ W3 : World, W3 = wc := ⟨_, rfl⟩
    have HB3 := Lib.hid (HBX.out.trans (hb9.mono HBX.out.size))
    have HN3 := Lib.hid ((hb9.block _ hnb).trans HNX.out)
    have HO3 := Lib.hid (own_belowR HOX.out hb9 (Nat.le_refl _))
    have hle := fold_first (L := M) HPS.out hlt (by rw [← HOM.out]; exact List.mem_map.2 ⟨x, by simp, rfl⟩)
    rw [HR.out] at hle
    have htI := tchR_iff HXO.out (HMO.out r HXM.out) hle
    rw [HTB.out] at htI
    have HTI := Lib.hid htI
    have HXC3 := Lib.hid (HXC.out.keep (w' := W3) (fun q hq => hb9.cell (by rw [hq]; exact hgx)))
    have hg3x : g3 < W3.heap.size := Nat.lt_of_lt_of_le hgx hb9.size
    have hw3 := HB3.out.size
    clear hb9 hle htI y0 y1 y2 y3 y4 y5 y6 y7 y8 y9 y10 y11 y12 y13 y14 y15 y16 y17 n0 n1 n2 n3 n4 n5 n6 n7 n8 n9 n10 n11 n12 n13 n14 n15 n16 n17 HBX HNX HOX hpl hcm hgx HXC hnb
    have n0 : W3.cell? ⟨nb, 0, none⟩ = some (.int .i64 (wd r.six r.hi r.lo 0)) := cell_of HN3.out 0
    have n1 : W3.cell? ⟨nb, 1, none⟩ = some (.int .i64 (wd r.six r.hi r.lo 1)) := cell_of HN3.out 1
    have n2 : W3.cell? ⟨nb, 2, none⟩ = some (.int .i64 (wd r.six r.hi r.lo 2)) := cell_of HN3.out 2
    have n3 : W3.cell? ⟨nb, 3, none⟩ = some (.int .i64 (wd r.six r.hi r.lo 3)) := cell_of HN3.out 3
    have n4 : W3.cell? ⟨nb, 4, none⟩ = some (.int .i64 (wd r.six r.hi r.lo 4)) := cell_of HN3.out 4
    have n5 : W3.cell? ⟨nb, 5, none⟩ = some (.int .i64 (wd r.six r.hi r.lo 5)) := cell_of HN3.out 5
    have n6 : W3.cell? ⟨nb, 6, none⟩ = some (.int .i64 (wd r.six r.hi r.lo 6)) := cell_of HN3.out 6
    have n7 : W3.cell? ⟨nb, 7, none⟩ = some (.int .i64 (wd r.six r.hi r.lo 7)) := cell_of HN3.out 7
    have n8 : W3.cell? ⟨nb, 8, none⟩ = some (.int .i64 (wd r.six r.hi r.lo 8)) := cell_of HN3.out 8
    have n9 : W3.cell? ⟨nb, 9, none⟩ = some (.int .i64 (wd r.six2 r.hi2 r.lo2 0)) := cell_of HN3.out 9
    have n10 : W3.cell? ⟨nb, 10, none⟩ = some (.int .i64 (wd r.six2 r.hi2 r.lo2 1)) := cell_of HN3.out 10
    have n11 : W3.cell? ⟨nb, 11, none⟩ = some (.int .i64 (wd r.six2 r.hi2 r.lo2 2)) := cell_of HN3.out 11
    have n12 : W3.cell? ⟨nb, 12, none⟩ = some (.int .i64 (wd r.six2 r.hi2 r.lo2 3)) := cell_of HN3.out 12
    have n13 : W3.cell? ⟨nb, 13, none⟩ = some (.int .i64 (wd r.six2 r.hi2 r.lo2 4)) := cell_of HN3.out 13
    have n14 : W3.cell? ⟨nb, 14, none⟩ = some (.int .i64 (wd r.six2 r.hi2 r.lo2 5)) := cell_of HN3.out 14
    have n15 : W3.cell? ⟨nb, 15, none⟩ = some (.int .i64 (wd r.six2 r.hi2 r.lo2 6)) := cell_of HN3.out 15
    have n16 : W3.cell? ⟨nb, 16, none⟩ = some (.int .i64 (wd r.six2 r.hi2 r.lo2 7)) := cell_of HN3.out 16
    have n17 : W3.cell? ⟨nb, 17, none⟩ = some (.int .i64 (wd r.six2 r.hi2 r.lo2 8)) := cell_of HN3.out 17
    have hnb3 := lt_of_block HN3.out
    cases tb
    ·have hN5 : N ≤ 100000 := by omega
     clear n0 n1 n2 n3 n4 n5 n6 n7 n8 n9 n10 n11 n12 n13 n14 n15 n16 n17
     go_upto_region 11 with (fail)
     first | refine load_step rfl HN3.out (by kernel_rfl) (by kernel_rfl) ?_ | (go_step; first | refine load_step rfl HN3.out (by kernel_rfl) (by kernel_rfl) ?_ | (go_step; first | refine load_step rfl HN3.out (by kernel_rfl) (by kernel_rfl) ?_ | (go_step; first | refine load_step rfl HN3.out (by kernel_rfl) (by kernel_rfl) ?_ | (go_step; first | refine load_step rfl HN3.out (by kernel_rfl) (by kernel_rfl) ?_ | (go_step; first | refine load_step rfl HN3.out (by kernel_rfl) (by kernel_rfl) ?_ | (go_step; first | refine load_step rfl HN3.out (by kernel_rfl) (by kernel_rfl) ?_ | (go_step; first | refine load_step rfl HN3.out (by kernel_rfl) (by kernel_rfl) ?_ | (go_step; first | refine load_step rfl HN3.out (by kernel_rfl) (by kernel_rfl) ?_ | (go_step; first | refine load_step rfl HN3.out (by kernel_rfl) (by kernel_rfl) ?_ | (go_step; refine load_step rfl HN3.out (by kernel_rfl) (by kernel_rfl) ?_))))))))))
     go_wp2_with (at_builtin; refine wpList_append_own _ rfl (.tmp 61) (.tmp 63) 102 rfl W1.heap.size 157 i0 (.agg #[.int .i64 0, .int .i64 0, .int .i64 0, .int .i64 0, .int .i64 0, .int .i64 0, .int .i64 0, .int .i64 0, .int .i64 0, .int .i64 0, .int .i64 0, .int .i64 0, .int .i64 0, .int .i64 0, .int .i64 0, .int .i64 0, .int .i64 0, .int .i64 0]) 18 144 Tryz.underlying102 hi0 hz0 hz1 hz2 rfl (by decide) _ _ _ rfl (World.ownsRow.alloc HO3.out _) ⟨W3.heap.size, 0, none⟩ 1 1 (spC r) rfl rfl (cells_newR W3 (spC r) _) (spC_one r) (by unfold maxLen; first | omega | (simp; omega) | simp) (by first | omega | (simp; omega) | simp) (by first | omega | (simp; omega) | simp) ?_)
     intro v5 w5 ho5 hg5 _
     have hlt5 := (World.ownsRow.alloc HO3.out (.cells (spC r).toArray 157 (0, 0))).lt
     have HF5 : Hid (SjI W1 M (k + 1) v5 w5) := Lib.hid (SjI.step (O := O' ++ [x]) (O2 := O' ++ [x] ++ [r]) hlt ((HB3.out.alloc hw3 _).grown hg5 (HB3.out.alloc hw3 _).size (fun j hj => (hlt5 j hj).1)) (own_asT ho5 (by simp [HNN.out.symm]) (by simp [rwC])) (by have := HNN.out; simp at this ⊢; omega) (fun y hy => (List.mem_append.1 hy).elim (HOO.out y) (fun hy => by simp at hy; rw [hy]; exact HMO.out r HXM.out)) HOM.out (by
      rw [HR.out, List.map_append, List.map_append]
      unfold stepJ
      rw [List.map_cons, List.map_nil, List.getLast?_concat]
      have : ¬ (rgS r).1 ≤ (rgS x).2 := fun h => by have := HTI.out.2 h; cases this
      simp only
      rw [if_neg this]
      rfl))
     clear ho5 hg5 hlt5
     go_wp2_with fail
     go_roundw
     case rel => exact ⟨k + 1, by omega, by simp, HF5.out⟩
     case measure => simp [intOf]; omega
    ·go_upto_region 9 with (fail)
     have hcm := fun W => wideCmp_any (wd r.six2 r.hi2 r.lo2) (wd x.six2 x.hi2 x.lo2) W (wd_dgs _ _ _) (wd_dgs _ _ _)
     have hcv := cmp_span (s := r.six2) (s' := x.six2) (HMO.out r HXM.out).l.1 (HMO.out r HXM.out).l.2.1 HXO.out.l.1 HXO.out.l.2.1
     have hkc := (spanC_key (HMO.out r HXM.out).l HXO.out.l).2.2
     have hkc1 : 0 < spanC r.six2 r.hi2 r.lo2 x.six2 x.hi2 x.lo2 ↔ keyA (laR x) < keyA (laR r) := hkc
     have hcv1 : cmpN (wd r.six2 r.hi2 r.lo2) (wd x.six2 x.hi2 x.lo2) 9 = spanC r.six2 r.hi2 r.lo2 x.six2 x.hi2 x.lo2 := hcv
     rw [hcv1] at hcm
     generalize spanC r.six2 r.hi2 r.lo2 x.six2 x.hi2 x.lo2 = c9 at *
     have HKC := Lib.hid hkc1
     obtain ⟨cb, hcb⟩ : ∃ cb, decide (0 < c9) = cb := ⟨_, rfl⟩
     have HCB := Lib.hid hcb
     obtain ⟨y0, y1, y2, y3, y4, y5, y6, y7, y8, y9, y10, y11, y12, y13, y14, y15, y16, y17⟩ := sp_cells HXC3.out
     clear hkc hkc1 hcv hcv1 hcb
     go_cut [54] from 46 to 54 (fun v54 wc => v54 = .bool cb ∧ Below W3.heap.size W3 wc)
     case first =>
      refine wp_region_exact 8 (fun f' => ⟨#[.slice (some ⟨gM, off, none⟩) M.length cM, undef, .slice none 0 0, .slice (some ⟨g3, 0, none⟩) N cap3, undef, .pointer (some ⟨nb, 0, none⟩), .int .i64 p, .slice A M.length cap, .slice (some ⟨gM, off, none⟩) M.length cM, .slice (some ⟨gM, off, none⟩) M.length cM, .tuple #[], .slice (some ⟨gM, off, none⟩) M.length cM, .int .i64 M.length, .int .i64 k, .bool true, .pointer (some ⟨gM, off + k * 18, none⟩), .agg (spC r).toArray, .slice (some ⟨g3, 0, none⟩) N cap3, .int .i64 N, .int .i64 p, u20, u21, u22, u23, u24, u25, u26, u27, u28, u29, u30, u31, u32, u33, u34, u35, u36, u37, u38, u39, u40, u41, u42, u43, u44, .bool true, f' 0, f' 1, f' 2, f' 3, f' 4, f' 5, f' 6, f' 7, u54, u55, u56, u57, u58, u59, u60, u61, u62, u63, u64, u65, undef], []⟩) (fun i9 => match i9 with | 0 => .pointer (some ⟨nb, 9, none⟩) | 1 => .agg #[.int .i64 (wd r.six2 r.hi2 r.lo2 0), .int .i64 (wd r.six2 r.hi2 r.lo2 1), .int .i64 (wd r.six2 r.hi2 r.lo2 2), .int .i64 (wd r.six2 r.hi2 r.lo2 3), .int .i64 (wd r.six2 r.hi2 r.lo2 4), .int .i64 (wd r.six2 r.hi2 r.lo2 5), .int .i64 (wd r.six2 r.hi2 r.lo2 6), .int .i64 (wd r.six2 r.hi2 r.lo2 7), .int .i64 (wd r.six2 r.hi2 r.lo2 8)] | 2 => .slice (some ⟨g3, 0, none⟩) N cap3 | 3 => .int .i64 p | 4 => .pointer (some ⟨g3, p * 18, none⟩) | 5 => .pointer (some ⟨g3, p * 18 + 9, none⟩) | 6 => .agg #[.int .i64 (wd x.six2 x.hi2 x.lo2 0), .int .i64 (wd x.six2 x.hi2 x.lo2 1), .int .i64 (wd x.six2 x.hi2 x.lo2 2), .int .i64 (wd x.six2 x.hi2 x.lo2 3), .int .i64 (wd x.six2 x.hi2 x.lo2 4), .int .i64 (wd x.six2 x.hi2 x.lo2 5), .int .i64 (wd x.six2 x.hi2 x.lo2 6), .int .i64 (wd x.six2 x.hi2 x.lo2 7), .int .i64 (wd x.six2 x.hi2 x.lo2 8)] | 7 => .int .i64 c9 | _ => undef) (fun lb w' => Hid (Below W3.heap.size W3 w')) (fun i9 => match i9 with | 0 => u46 | 1 => u47 | 2 => u48 | 3 => u49 | 4 => u50 | 5 => u51 | 6 => u52 | 7 => u53 | _ => undef) 30 (show Tryz.prog.follows .mixedOrders = true from by kernel_rfl) (by kernel_rfl) ?_ ?_ (Lib.hid (Below.refl _ _).drew)
      ·intro i9 op hi9 ho lb f' w' hl hS hd
       have hcase : i9 = 0 ∨ i9 = 1 ∨ i9 = 2 ∨ i9 = 3 ∨ i9 = 4 ∨ i9 = 5 ∨ i9 = 6 ∨ i9 = 7 := by omega
       rcases hcase with rfl | rfl | rfl | rfl | rfl | rfl | rfl | rfl <;> (replace ho := Option.some.inj ho; subst ho)
       ·refine OpStep.of rfl ?_
        unfold Oper.wp
        go_simp
        first | exact ⟨by first | (simp [upd]; done) | (simp [upd]; omega), hS⟩ | (simp [upd]; done) | (simp [upd]; omega)
       ·have e0 : f' 0 = .pointer (some ⟨nb, 9, none⟩) := (hd ⟨0, .data⟩ (by simp) rfl).2
        refine OpStep.of rfl ?_
        have n9' : w'.cell? ⟨nb, 9, none⟩ = some (.int .i64 (wd r.six2 r.hi2 r.lo2 0)) := (hS.out.cell (p := ⟨nb, _, none⟩) hnb3).trans n9
        have n10' : w'.cell? ⟨nb, 10, none⟩ = some (.int .i64 (wd r.six2 r.hi2 r.lo2 1)) := (hS.out.cell (p := ⟨nb, _, none⟩) hnb3).trans n10
        have n11' : w'.cell? ⟨nb, 11, none⟩ = some (.int .i64 (wd r.six2 r.hi2 r.lo2 2)) := (hS.out.cell (p := ⟨nb, _, none⟩) hnb3).trans n11
        have n12' : w'.cell? ⟨nb, 12, none⟩ = some (.int .i64 (wd r.six2 r.hi2 r.lo2 3)) := (hS.out.cell (p := ⟨nb, _, none⟩) hnb3).trans n12
        have n13' : w'.cell? ⟨nb, 13, none⟩ = some (.int .i64 (wd r.six2 r.hi2 r.lo2 4)) := (hS.out.cell (p := ⟨nb, _, none⟩) hnb3).trans n13
        have n14' : w'.cell? ⟨nb, 14, none⟩ = some (.int .i64 (wd r.six2 r.hi2 r.lo2 5)) := (hS.out.cell (p := ⟨nb, _, none⟩) hnb3).trans n14
        have n15' : w'.cell? ⟨nb, 15, none⟩ = some (.int .i64 (wd r.six2 r.hi2 r.lo2 6)) := (hS.out.cell (p := ⟨nb, _, none⟩) hnb3).trans n15
        have n16' : w'.cell? ⟨nb, 16, none⟩ = some (.int .i64 (wd r.six2 r.hi2 r.lo2 7)) := (hS.out.cell (p := ⟨nb, _, none⟩) hnb3).trans n16
        have n17' : w'.cell? ⟨nb, 17, none⟩ = some (.int .i64 (wd r.six2 r.hi2 r.lo2 8)) := (hS.out.cell (p := ⟨nb, _, none⟩) hnb3).trans n17
        unfold Oper.wp
        go_simp
        first | exact ⟨by first | (simp [upd, e0]; done) | (simp [upd, e0]; omega), hS⟩ | (simp [upd, e0]; done) | (simp [upd, e0]; omega)
       ·refine OpStep.of rfl ?_
        unfold Oper.wp
        go_simp
        first | exact ⟨by first | (simp [upd]; done) | (simp [upd]; omega), hS⟩ | (simp [upd]; done) | (simp [upd]; omega)
       ·refine OpStep.of rfl ?_
        unfold Oper.wp
        go_simp
        first | exact ⟨by first | (simp [upd]; done) | (simp [upd]; omega), hS⟩ | (simp [upd]; done) | (simp [upd]; omega)
       ·have e2 : f' 2 = .slice (some ⟨g3, 0, none⟩) N cap3 := (hd ⟨2, .data⟩ (by simp) rfl).2
        have e3 : f' 3 = .int .i64 p := (hd ⟨3, .data⟩ (by simp) rfl).2
        refine OpStep.of rfl ?_
        unfold Oper.wp
        go_simp
        first | exact ⟨by first | (simp [upd, e2, e3]; done) | (simp [upd, e2, e3]; omega), hS⟩ | (simp [upd, e2, e3]; done) | (simp [upd, e2, e3]; omega)
       ·have e4 : f' 4 = .pointer (some ⟨g3, p * 18, none⟩) := (hd ⟨4, .data⟩ (by simp) rfl).2
        refine OpStep.of rfl ?_
        unfold Oper.wp
        go_simp
        first | exact ⟨by first | (simp [upd, e4]; done) | (simp [upd, e4]; omega), hS⟩ | (simp [upd, e4]; done) | (simp [upd, e4]; omega)
       ·have e5 : f' 5 = .pointer (some ⟨g3, p * 18 + 9, none⟩) := (hd ⟨5, .data⟩ (by simp) rfl).2
        refine OpStep.of rfl ?_
        have y9' : w'.cell? ⟨g3, p * 18 + 9, none⟩ = some (.int .i64 (wd x.six2 x.hi2 x.lo2 0)) := (hS.out.cell (p := ⟨g3, _, none⟩) hg3x).trans y9
        have y10' : w'.cell? ⟨g3, p * 18 + 10, none⟩ = some (.int .i64 (wd x.six2 x.hi2 x.lo2 1)) := (hS.out.cell (p := ⟨g3, _, none⟩) hg3x).trans y10
        have y11' : w'.cell? ⟨g3, p * 18 + 11, none⟩ = some (.int .i64 (wd x.six2 x.hi2 x.lo2 2)) := (hS.out.cell (p := ⟨g3, _, none⟩) hg3x).trans y11
        have y12' : w'.cell? ⟨g3, p * 18 + 12, none⟩ = some (.int .i64 (wd x.six2 x.hi2 x.lo2 3)) := (hS.out.cell (p := ⟨g3, _, none⟩) hg3x).trans y12
        have y13' : w'.cell? ⟨g3, p * 18 + 13, none⟩ = some (.int .i64 (wd x.six2 x.hi2 x.lo2 4)) := (hS.out.cell (p := ⟨g3, _, none⟩) hg3x).trans y13
        have y14' : w'.cell? ⟨g3, p * 18 + 14, none⟩ = some (.int .i64 (wd x.six2 x.hi2 x.lo2 5)) := (hS.out.cell (p := ⟨g3, _, none⟩) hg3x).trans y14
        have y15' : w'.cell? ⟨g3, p * 18 + 15, none⟩ = some (.int .i64 (wd x.six2 x.hi2 x.lo2 6)) := (hS.out.cell (p := ⟨g3, _, none⟩) hg3x).trans y15
        have y16' : w'.cell? ⟨g3, p * 18 + 16, none⟩ = some (.int .i64 (wd x.six2 x.hi2 x.lo2 7)) := (hS.out.cell (p := ⟨g3, _, none⟩) hg3x).trans y16
        have y17' : w'.cell? ⟨g3, p * 18 + 17, none⟩ = some (.int .i64 (wd x.six2 x.hi2 x.lo2 8)) := (hS.out.cell (p := ⟨g3, _, none⟩) hg3x).trans y17
        unfold Oper.wp
        go_simp
        first | exact ⟨by first | (simp [upd, e5]; done) | (simp [upd, e5]; omega), hS⟩ | (simp [upd, e5]; done) | (simp [upd, e5]; omega)
       ·have e1 : f' 1 = .agg #[.int .i64 (wd r.six2 r.hi2 r.lo2 0), .int .i64 (wd r.six2 r.hi2 r.lo2 1), .int .i64 (wd r.six2 r.hi2 r.lo2 2), .int .i64 (wd r.six2 r.hi2 r.lo2 3), .int .i64 (wd r.six2 r.hi2 r.lo2 4), .int .i64 (wd r.six2 r.hi2 r.lo2 5), .int .i64 (wd r.six2 r.hi2 r.lo2 6), .int .i64 (wd r.six2 r.hi2 r.lo2 7), .int .i64 (wd r.six2 r.hi2 r.lo2 8)] := (hd ⟨1, .data⟩ (by simp) rfl).2
        have e6 : f' 6 = .agg #[.int .i64 (wd x.six2 x.hi2 x.lo2 0), .int .i64 (wd x.six2 x.hi2 x.lo2 1), .int .i64 (wd x.six2 x.hi2 x.lo2 2), .int .i64 (wd x.six2 x.hi2 x.lo2 3), .int .i64 (wd x.six2 x.hi2 x.lo2 4), .int .i64 (wd x.six2 x.hi2 x.lo2 5), .int .i64 (wd x.six2 x.hi2 x.lo2 6), .int .i64 (wd x.six2 x.hi2 x.lo2 7), .int .i64 (wd x.six2 x.hi2 x.lo2 8)] := (hd ⟨6, .data⟩ (by simp) rfl).2
        refine OpStep.of rfl ?_
        unfold Oper.wp
        go_simp
        refine (hcm w').mono ?_
        rintro e w9 ⟨rfl, hb9⟩
        exact ⟨by simp [upd, e1, e6], Lib.hid (hS.out.trans (hb9.mono hS.out.size))⟩
      ·intro op ho lb f' w' hd hS
       have e7 : f' 7 = .int .i64 c9 := (hd 7 (by omega)).2
       replace ho := Option.some.inj ho
       subst ho
       refine ⟨rfl, ?_⟩
       unfold Oper.wp
       go_simp
       first | (go_step; go_step; go_meet) | (go_step; go_meet) | go_meet | skip
       exact ⟨by rw [HCB.out], hS.out⟩
     case rest =>
     obtain ⟨rfl, hb9⟩ := hcut
     obtain ⟨W4, rfl⟩ : ∃ W4 : World, W4 = wc := ⟨_, rfl⟩
     have HB4 := Lib.hid (HB3.out.trans (hb9.mono HB3.out.size))
     have HN4 := Lib.hid ((hb9.block _ hnb3).trans HN3.out)
     have HO4 := Lib.hid (own_belowR HO3.out hb9 (Nat.le_refl _))
     have hs6 : r.six2 = x.six2 := by
      have h1 : x.six = r.six := by
       have h2 := HTB.out
       unfold tchR at h2
       simp only [Bool.and_eq_true, decide_eq_true_eq] at h2
       have h3 : (if x.six then (1 : Int) else 0) = if r.six then 1 else 0 := h2.1
       cases hx6 : x.six <;> cases hr6 : r.six <;> rw [hx6, hr6] at h3 <;> simp at h3 ⊢
      rw [(HMO.out r HXM.out).six, ← h1, HXO.out.six]
     have HS6 := Lib.hid hs6
     clear hb9 hs6 y0 y1 y2 y3 y4 y5 y6 y7 y8 y9 y10 y11 y12 y13 y14 y15 y16 y17 n0 n1 n2 n3 n4 n5 n6 n7 n8 n9 n10 n11 n12 n13 n14 n15 n16 n17 HN3 HO3 HB3 hcm hg3x hnb3 hw3
     cases cb
     ·have hnc : ¬ keyA (laR x) < keyA (laR r) := fun h => of_decide_eq_false HCB.out (HKC.out.2 h)
      have HF5 : Hid (SjI W1 M (k + 1) (.slice (some ⟨g3, 0, none⟩) N cap3) W4) := Lib.hid (SjI.step (O := O' ++ [x]) (O2 := O' ++ [x]) hlt HB4.out (own_asT HO4.out HNN.out.symm rfl) (by have := HNN.out; omega) HOO.out HOM.out (by
       rw [HR.out, List.map_append]
       unfold stepJ
       rw [List.map_cons, List.map_nil, List.getLast?_concat, List.dropLast_concat]
       simp only
       rw [if_pos (HTI.out.1 rfl)]
       have : max (rgS x).2 (rgS r).2 = (rgS x).2 := by show max (keyA (laR x) + 1) (keyA (laR r) + 1) = keyA (laR x) + 1; omega
       rw [this]))
      clear hnc
      go_wp2_with fail
      go_roundw
      case rel => exact ⟨k + 1, by omega, by simp, HF5.out⟩
      case measure => simp [intOf]; omega
     ·have hyc : keyA (laR x) < keyA (laR r) := HKC.out.1 (of_decide_eq_true HCB.out)
      have HYC := Lib.hid hyc
      have hst0 := fun j (hj : j < N * 18) => rw_some HO4.out hj
      have hfz0 := fun j => rw_froz HO4.out j
      have HL9 : Hid (RwCells W4 nb 9 [.int .i64 (wd r.six2 r.hi2 r.lo2 0), .int .i64 (wd r.six2 r.hi2 r.lo2 1), .int .i64 (wd r.six2 r.hi2 r.lo2 2), .int .i64 (wd r.six2 r.hi2 r.lo2 3), .int .i64 (wd r.six2 r.hi2 r.lo2 4), .int .i64 (wd r.six2 r.hi2 r.lo2 5), .int .i64 (wd r.six2 r.hi2 r.lo2 6), .int .i64 (wd r.six2 r.hi2 r.lo2 7), .int .i64 (wd r.six2 r.hi2 r.lo2 8)]) := Lib.hid (by have := RwCells.drop (blk_rw HN4.out) 9; rw [Nat.zero_add] at this; exact this)
      have HSM : Hid (∀ j, j < 9 → (W4.cell? ⟨g3, p * 18 + 9 + j, none⟩).isSome = true) := Lib.hid (fun j hj => hst0 _ (by have := HNP.out; omega))
      have HFZ : Hid (∀ j, W4.frozen? ⟨g3, j, none⟩ = false) := Lib.hid hfz0
      clear hst0 hfz0 hyc
      go_upto_region 10 with (fail)
      first | refine load_stepR (cs := [.int .i64 (wd r.six2 r.hi2 r.lo2 0), .int .i64 (wd r.six2 r.hi2 r.lo2 1), .int .i64 (wd r.six2 r.hi2 r.lo2 2), .int .i64 (wd r.six2 r.hi2 r.lo2 3), .int .i64 (wd r.six2 r.hi2 r.lo2 4), .int .i64 (wd r.six2 r.hi2 r.lo2 5), .int .i64 (wd r.six2 r.hi2 r.lo2 6), .int .i64 (wd r.six2 r.hi2 r.lo2 7), .int .i64 (wd r.six2 r.hi2 r.lo2 8)]) rfl HL9.out (by kernel_rfl) rfl (by kernel_rfl) ?_ | (go_step; first | refine load_stepR (cs := [.int .i64 (wd r.six2 r.hi2 r.lo2 0), .int .i64 (wd r.six2 r.hi2 r.lo2 1), .int .i64 (wd r.six2 r.hi2 r.lo2 2), .int .i64 (wd r.six2 r.hi2 r.lo2 3), .int .i64 (wd r.six2 r.hi2 r.lo2 4), .int .i64 (wd r.six2 r.hi2 r.lo2 5), .int .i64 (wd r.six2 r.hi2 r.lo2 6), .int .i64 (wd r.six2 r.hi2 r.lo2 7), .int .i64 (wd r.six2 r.hi2 r.lo2 8)]) rfl HL9.out (by kernel_rfl) rfl (by kernel_rfl) ?_ | (go_step; first | refine load_stepR (cs := [.int .i64 (wd r.six2 r.hi2 r.lo2 0), .int .i64 (wd r.six2 r.hi2 r.lo2 1), .int .i64 (wd r.six2 r.hi2 r.lo2 2), .int .i64 (wd r.six2 r.hi2 r.lo2 3), .int .i64 (wd r.six2 r.hi2 r.lo2 4), .int .i64 (wd r.six2 r.hi2 r.lo2 5), .int .i64 (wd r.six2 r.hi2 r.lo2 6), .int .i64 (wd r.six2 r.hi2 r.lo2 7), .int .i64 (wd r.six2 r.hi2 r.lo2 8)]) rfl HL9.out (by kernel_rfl) rfl (by kernel_rfl) ?_ | (go_step; first | refine load_stepR (cs := [.int .i64 (wd r.six2 r.hi2 r.lo2 0), .int .i64 (wd r.six2 r.hi2 r.lo2 1), .int .i64 (wd r.six2 r.hi2 r.lo2 2), .int .i64 (wd r.six2 r.hi2 r.lo2 3), .int .i64 (wd r.six2 r.hi2 r.lo2 4), .int .i64 (wd r.six2 r.hi2 r.lo2 5), .int .i64 (wd r.six2 r.hi2 r.lo2 6), .int .i64 (wd r.six2 r.hi2 r.lo2 7), .int .i64 (wd r.six2 r.hi2 r.lo2 8)]) rfl HL9.out (by kernel_rfl) rfl (by kernel_rfl) ?_ | (go_step; first | refine load_stepR (cs := [.int .i64 (wd r.six2 r.hi2 r.lo2 0), .int .i64 (wd r.six2 r.hi2 r.lo2 1), .int .i64 (wd r.six2 r.hi2 r.lo2 2), .int .i64 (wd r.six2 r.hi2 r.lo2 3), .int .i64 (wd r.six2 r.hi2 r.lo2 4), .int .i64 (wd r.six2 r.hi2 r.lo2 5), .int .i64 (wd r.six2 r.hi2 r.lo2 6), .int .i64 (wd r.six2 r.hi2 r.lo2 7), .int .i64 (wd r.six2 r.hi2 r.lo2 8)]) rfl HL9.out (by kernel_rfl) rfl (by kernel_rfl) ?_ | (go_step; first | refine load_stepR (cs := [.int .i64 (wd r.six2 r.hi2 r.lo2 0), .int .i64 (wd r.six2 r.hi2 r.lo2 1), .int .i64 (wd r.six2 r.hi2 r.lo2 2), .int .i64 (wd r.six2 r.hi2 r.lo2 3), .int .i64 (wd r.six2 r.hi2 r.lo2 4), .int .i64 (wd r.six2 r.hi2 r.lo2 5), .int .i64 (wd r.six2 r.hi2 r.lo2 6), .int .i64 (wd r.six2 r.hi2 r.lo2 7), .int .i64 (wd r.six2 r.hi2 r.lo2 8)]) rfl HL9.out (by kernel_rfl) rfl (by kernel_rfl) ?_ | (go_step; first | refine load_stepR (cs := [.int .i64 (wd r.six2 r.hi2 r.lo2 0), .int .i64 (wd r.six2 r.hi2 r.lo2 1), .int .i64 (wd r.six2 r.hi2 r.lo2 2), .int .i64 (wd r.six2 r.hi2 r.lo2 3), .int .i64 (wd r.six2 r.hi2 r.lo2 4), .int .i64 (wd r.six2 r.hi2 r.lo2 5), .int .i64 (wd r.six2 r.hi2 r.lo2 6), .int .i64 (wd r.six2 r.hi2 r.lo2 7), .int .i64 (wd r.six2 r.hi2 r.lo2 8)]) rfl HL9.out (by kernel_rfl) rfl (by kernel_rfl) ?_ | (go_step; first | refine load_stepR (cs := [.int .i64 (wd r.six2 r.hi2 r.lo2 0), .int .i64 (wd r.six2 r.hi2 r.lo2 1), .int .i64 (wd r.six2 r.hi2 r.lo2 2), .int .i64 (wd r.six2 r.hi2 r.lo2 3), .int .i64 (wd r.six2 r.hi2 r.lo2 4), .int .i64 (wd r.six2 r.hi2 r.lo2 5), .int .i64 (wd r.six2 r.hi2 r.lo2 6), .int .i64 (wd r.six2 r.hi2 r.lo2 7), .int .i64 (wd r.six2 r.hi2 r.lo2 8)]) rfl HL9.out (by kernel_rfl) rfl (by kernel_rfl) ?_ | (go_step; first | refine load_stepR (cs := [.int .i64 (wd r.six2 r.hi2 r.lo2 0), .int .i64 (wd r.six2 r.hi2 r.lo2 1), .int .i64 (wd r.six2 r.hi2 r.lo2 2), .int .i64 (wd r.six2 r.hi2 r.lo2 3), .int .i64 (wd r.six2 r.hi2 r.lo2 4), .int .i64 (wd r.six2 r.hi2 r.lo2 5), .int .i64 (wd r.six2 r.hi2 r.lo2 6), .int .i64 (wd r.six2 r.hi2 r.lo2 7), .int .i64 (wd r.six2 r.hi2 r.lo2 8)]) rfl HL9.out (by kernel_rfl) rfl (by kernel_rfl) ?_ | (go_step; first | refine load_stepR (cs := [.int .i64 (wd r.six2 r.hi2 r.lo2 0), .int .i64 (wd r.six2 r.hi2 r.lo2 1), .int .i64 (wd r.six2 r.hi2 r.lo2 2), .int .i64 (wd r.six2 r.hi2 r.lo2 3), .int .i64 (wd r.six2 r.hi2 r.lo2 4), .int .i64 (wd r.six2 r.hi2 r.lo2 5), .int .i64 (wd r.six2 r.hi2 r.lo2 6), .int .i64 (wd r.six2 r.hi2 r.lo2 7), .int .i64 (wd r.six2 r.hi2 r.lo2 8)]) rfl HL9.out (by kernel_rfl) rfl (by kernel_rfl) ?_ | (go_step; first | refine load_stepR (cs := [.int .i64 (wd r.six2 r.hi2 r.lo2 0), .int .i64 (wd r.six2 r.hi2 r.lo2 1), .int .i64 (wd r.six2 r.hi2 r.lo2 2), .int .i64 (wd r.six2 r.hi2 r.lo2 3), .int .i64 (wd r.six2 r.hi2 r.lo2 4), .int .i64 (wd r.six2 r.hi2 r.lo2 5), .int .i64 (wd r.six2 r.hi2 r.lo2 6), .int .i64 (wd r.six2 r.hi2 r.lo2 7), .int .i64 (wd r.six2 r.hi2 r.lo2 8)]) rfl HL9.out (by kernel_rfl) rfl (by kernel_rfl) ?_ | (go_step; first | refine load_stepR (cs := [.int .i64 (wd r.six2 r.hi2 r.lo2 0), .int .i64 (wd r.six2 r.hi2 r.lo2 1), .int .i64 (wd r.six2 r.hi2 r.lo2 2), .int .i64 (wd r.six2 r.hi2 r.lo2 3), .int .i64 (wd r.six2 r.hi2 r.lo2 4), .int .i64 (wd r.six2 r.hi2 r.lo2 5), .int .i64 (wd r.six2 r.hi2 r.lo2 6), .int .i64 (wd r.six2 r.hi2 r.lo2 7), .int .i64 (wd r.six2 r.hi2 r.lo2 8)]) rfl HL9.out (by kernel_rfl) rfl (by kernel_rfl) ?_ | (go_step; first | refine load_stepR (cs := [.int .i64 (wd r.six2 r.hi2 r.lo2 0), .int .i64 (wd r.six2 r.hi2 r.lo2 1), .int .i64 (wd r.six2 r.hi2 r.lo2 2), .int .i64 (wd r.six2 r.hi2 r.lo2 3), .int .i64 (wd r.six2 r.hi2 r.lo2 4), .int .i64 (wd r.six2 r.hi2 r.lo2 5), .int .i64 (wd r.six2 r.hi2 r.lo2 6), .int .i64 (wd r.six2 r.hi2 r.lo2 7), .int .i64 (wd r.six2 r.hi2 r.lo2 8)]) rfl HL9.out (by kernel_rfl) rfl (by kernel_rfl) ?_ | (go_step; first | refine load_stepR (cs := [.int .i64 (wd r.six2 r.hi2 r.lo2 0), .int .i64 (wd r.six2 r.hi2 r.lo2 1), .int .i64 (wd r.six2 r.hi2 r.lo2 2), .int .i64 (wd r.six2 r.hi2 r.lo2 3), .int .i64 (wd r.six2 r.hi2 r.lo2 4), .int .i64 (wd r.six2 r.hi2 r.lo2 5), .int .i64 (wd r.six2 r.hi2 r.lo2 6), .int .i64 (wd r.six2 r.hi2 r.lo2 7), .int .i64 (wd r.six2 r.hi2 r.lo2 8)]) rfl HL9.out (by kernel_rfl) rfl (by kernel_rfl) ?_ | (go_step; first | refine load_stepR (cs := [.int .i64 (wd r.six2 r.hi2 r.lo2 0), .int .i64 (wd r.six2 r.hi2 r.lo2 1), .int .i64 (wd r.six2 r.hi2 r.lo2 2), .int .i64 (wd r.six2 r.hi2 r.lo2 3), .int .i64 (wd r.six2 r.hi2 r.lo2 4), .int .i64 (wd r.six2 r.hi2 r.lo2 5), .int .i64 (wd r.six2 r.hi2 r.lo2 6), .int .i64 (wd r.six2 r.hi2 r.lo2 7), .int .i64 (wd r.six2 r.hi2 r.lo2 8)]) rfl HL9.out (by kernel_rfl) rfl (by kernel_rfl) ?_ | (go_step; first | refine load_stepR (cs := [.int .i64 (wd r.six2 r.hi2 r.lo2 0), .int .i64 (wd r.six2 r.hi2 r.lo2 1), .int .i64 (wd r.six2 r.hi2 r.lo2 2), .int .i64 (wd r.six2 r.hi2 r.lo2 3), .int .i64 (wd r.six2 r.hi2 r.lo2 4), .int .i64 (wd r.six2 r.hi2 r.lo2 5), .int .i64 (wd r.six2 r.hi2 r.lo2 6), .int .i64 (wd r.six2 r.hi2 r.lo2 7), .int .i64 (wd r.six2 r.hi2 r.lo2 8)]) rfl HL9.out (by kernel_rfl) rfl (by kernel_rfl) ?_ | (go_step; first | refine load_stepR (cs := [.int .i64 (wd r.six2 r.hi2 r.lo2 0), .int .i64 (wd r.six2 r.hi2 r.lo2 1), .int .i64 (wd r.six2 r.hi2 r.lo2 2), .int .i64 (wd r.six2 r.hi2 r.lo2 3), .int .i64 (wd r.six2 r.hi2 r.lo2 4), .int .i64 (wd r.six2 r.hi2 r.lo2 5), .int .i64 (wd r.six2 r.hi2 r.lo2 6), .int .i64 (wd r.six2 r.hi2 r.lo2 7), .int .i64 (wd r.six2 r.hi2 r.lo2 8)]) rfl HL9.out (by kernel_rfl) rfl (by kernel_rfl) ?_ | (go_step; first | refine load_stepR (cs := [.int .i64 (wd r.six2 r.hi2 r.lo2 0), .int .i64 (wd r.six2 r.hi2 r.lo2 1), .int .i64 (wd r.six2 r.hi2 r.lo2 2), .int .i64 (wd r.six2 r.hi2 r.lo2 3), .int .i64 (wd r.six2 r.hi2 r.lo2 4), .int .i64 (wd r.six2 r.hi2 r.lo2 5), .int .i64 (wd r.six2 r.hi2 r.lo2 6), .int .i64 (wd r.six2 r.hi2 r.lo2 7), .int .i64 (wd r.six2 r.hi2 r.lo2 8)]) rfl HL9.out (by kernel_rfl) rfl (by kernel_rfl) ?_ | (go_step; refine load_stepR (cs := [.int .i64 (wd r.six2 r.hi2 r.lo2 0), .int .i64 (wd r.six2 r.hi2 r.lo2 1), .int .i64 (wd r.six2 r.hi2 r.lo2 2), .int .i64 (wd r.six2 r.hi2 r.lo2 3), .int .i64 (wd r.six2 r.hi2 r.lo2 4), .int .i64 (wd r.six2 r.hi2 r.lo2 5), .int .i64 (wd r.six2 r.hi2 r.lo2 6), .int .i64 (wd r.six2 r.hi2 r.lo2 7), .int .i64 (wd r.six2 r.hi2 r.lo2 8)]) rfl HL9.out (by kernel_rfl) rfl (by kernel_rfl) ?_))))))))))))))))))
      first | refine store_stepR (vs := [.int .i64 (wd r.six2 r.hi2 r.lo2 0), .int .i64 (wd r.six2 r.hi2 r.lo2 1), .int .i64 (wd r.six2 r.hi2 r.lo2 2), .int .i64 (wd r.six2 r.hi2 r.lo2 3), .int .i64 (wd r.six2 r.hi2 r.lo2 4), .int .i64 (wd r.six2 r.hi2 r.lo2 5), .int .i64 (wd r.six2 r.hi2 r.lo2 6), .int .i64 (wd r.six2 r.hi2 r.lo2 7), .int .i64 (wd r.six2 r.hi2 r.lo2 8)]) rfl rfl HSM.out HFZ.out rfl (by kernel_rfl) (by simp [Value.oneCell']) ?_ | (go_step; first | refine store_stepR (vs := [.int .i64 (wd r.six2 r.hi2 r.lo2 0), .int .i64 (wd r.six2 r.hi2 r.lo2 1), .int .i64 (wd r.six2 r.hi2 r.lo2 2), .int .i64 (wd r.six2 r.hi2 r.lo2 3), .int .i64 (wd r.six2 r.hi2 r.lo2 4), .int .i64 (wd r.six2 r.hi2 r.lo2 5), .int .i64 (wd r.six2 r.hi2 r.lo2 6), .int .i64 (wd r.six2 r.hi2 r.lo2 7), .int .i64 (wd r.six2 r.hi2 r.lo2 8)]) rfl rfl HSM.out HFZ.out rfl (by kernel_rfl) (by simp [Value.oneCell']) ?_ | (go_step; first | refine store_stepR (vs := [.int .i64 (wd r.six2 r.hi2 r.lo2 0), .int .i64 (wd r.six2 r.hi2 r.lo2 1), .int .i64 (wd r.six2 r.hi2 r.lo2 2), .int .i64 (wd r.six2 r.hi2 r.lo2 3), .int .i64 (wd r.six2 r.hi2 r.lo2 4), .int .i64 (wd r.six2 r.hi2 r.lo2 5), .int .i64 (wd r.six2 r.hi2 r.lo2 6), .int .i64 (wd r.six2 r.hi2 r.lo2 7), .int .i64 (wd r.six2 r.hi2 r.lo2 8)]) rfl rfl HSM.out HFZ.out rfl (by kernel_rfl) (by simp [Value.oneCell']) ?_ | (go_step; first | refine store_stepR (vs := [.int .i64 (wd r.six2 r.hi2 r.lo2 0), .int .i64 (wd r.six2 r.hi2 r.lo2 1), .int .i64 (wd r.six2 r.hi2 r.lo2 2), .int .i64 (wd r.six2 r.hi2 r.lo2 3), .int .i64 (wd r.six2 r.hi2 r.lo2 4), .int .i64 (wd r.six2 r.hi2 r.lo2 5), .int .i64 (wd r.six2 r.hi2 r.lo2 6), .int .i64 (wd r.six2 r.hi2 r.lo2 7), .int .i64 (wd r.six2 r.hi2 r.lo2 8)]) rfl rfl HSM.out HFZ.out rfl (by kernel_rfl) (by simp [Value.oneCell']) ?_ | (go_step; first | refine store_stepR (vs := [.int .i64 (wd r.six2 r.hi2 r.lo2 0), .int .i64 (wd r.six2 r.hi2 r.lo2 1), .int .i64 (wd r.six2 r.hi2 r.lo2 2), .int .i64 (wd r.six2 r.hi2 r.lo2 3), .int .i64 (wd r.six2 r.hi2 r.lo2 4), .int .i64 (wd r.six2 r.hi2 r.lo2 5), .int .i64 (wd r.six2 r.hi2 r.lo2 6), .int .i64 (wd r.six2 r.hi2 r.lo2 7), .int .i64 (wd r.six2 r.hi2 r.lo2 8)]) rfl rfl HSM.out HFZ.out rfl (by kernel_rfl) (by simp [Value.oneCell']) ?_ | (go_step; first | refine store_stepR (vs := [.int .i64 (wd r.six2 r.hi2 r.lo2 0), .int .i64 (wd r.six2 r.hi2 r.lo2 1), .int .i64 (wd r.six2 r.hi2 r.lo2 2), .int .i64 (wd r.six2 r.hi2 r.lo2 3), .int .i64 (wd r.six2 r.hi2 r.lo2 4), .int .i64 (wd r.six2 r.hi2 r.lo2 5), .int .i64 (wd r.six2 r.hi2 r.lo2 6), .int .i64 (wd r.six2 r.hi2 r.lo2 7), .int .i64 (wd r.six2 r.hi2 r.lo2 8)]) rfl rfl HSM.out HFZ.out rfl (by kernel_rfl) (by simp [Value.oneCell']) ?_ | (go_step; first | refine store_stepR (vs := [.int .i64 (wd r.six2 r.hi2 r.lo2 0), .int .i64 (wd r.six2 r.hi2 r.lo2 1), .int .i64 (wd r.six2 r.hi2 r.lo2 2), .int .i64 (wd r.six2 r.hi2 r.lo2 3), .int .i64 (wd r.six2 r.hi2 r.lo2 4), .int .i64 (wd r.six2 r.hi2 r.lo2 5), .int .i64 (wd r.six2 r.hi2 r.lo2 6), .int .i64 (wd r.six2 r.hi2 r.lo2 7), .int .i64 (wd r.six2 r.hi2 r.lo2 8)]) rfl rfl HSM.out HFZ.out rfl (by kernel_rfl) (by simp [Value.oneCell']) ?_ | (go_step; first | refine store_stepR (vs := [.int .i64 (wd r.six2 r.hi2 r.lo2 0), .int .i64 (wd r.six2 r.hi2 r.lo2 1), .int .i64 (wd r.six2 r.hi2 r.lo2 2), .int .i64 (wd r.six2 r.hi2 r.lo2 3), .int .i64 (wd r.six2 r.hi2 r.lo2 4), .int .i64 (wd r.six2 r.hi2 r.lo2 5), .int .i64 (wd r.six2 r.hi2 r.lo2 6), .int .i64 (wd r.six2 r.hi2 r.lo2 7), .int .i64 (wd r.six2 r.hi2 r.lo2 8)]) rfl rfl HSM.out HFZ.out rfl (by kernel_rfl) (by simp [Value.oneCell']) ?_ | (go_step; first | refine store_stepR (vs := [.int .i64 (wd r.six2 r.hi2 r.lo2 0), .int .i64 (wd r.six2 r.hi2 r.lo2 1), .int .i64 (wd r.six2 r.hi2 r.lo2 2), .int .i64 (wd r.six2 r.hi2 r.lo2 3), .int .i64 (wd r.six2 r.hi2 r.lo2 4), .int .i64 (wd r.six2 r.hi2 r.lo2 5), .int .i64 (wd r.six2 r.hi2 r.lo2 6), .int .i64 (wd r.six2 r.hi2 r.lo2 7), .int .i64 (wd r.six2 r.hi2 r.lo2 8)]) rfl rfl HSM.out HFZ.out rfl (by kernel_rfl) (by simp [Value.oneCell']) ?_ | (go_step; first | refine store_stepR (vs := [.int .i64 (wd r.six2 r.hi2 r.lo2 0), .int .i64 (wd r.six2 r.hi2 r.lo2 1), .int .i64 (wd r.six2 r.hi2 r.lo2 2), .int .i64 (wd r.six2 r.hi2 r.lo2 3), .int .i64 (wd r.six2 r.hi2 r.lo2 4), .int .i64 (wd r.six2 r.hi2 r.lo2 5), .int .i64 (wd r.six2 r.hi2 r.lo2 6), .int .i64 (wd r.six2 r.hi2 r.lo2 7), .int .i64 (wd r.six2 r.hi2 r.lo2 8)]) rfl rfl HSM.out HFZ.out rfl (by kernel_rfl) (by simp [Value.oneCell']) ?_ | (go_step; first | refine store_stepR (vs := [.int .i64 (wd r.six2 r.hi2 r.lo2 0), .int .i64 (wd r.six2 r.hi2 r.lo2 1), .int .i64 (wd r.six2 r.hi2 r.lo2 2), .int .i64 (wd r.six2 r.hi2 r.lo2 3), .int .i64 (wd r.six2 r.hi2 r.lo2 4), .int .i64 (wd r.six2 r.hi2 r.lo2 5), .int .i64 (wd r.six2 r.hi2 r.lo2 6), .int .i64 (wd r.six2 r.hi2 r.lo2 7), .int .i64 (wd r.six2 r.hi2 r.lo2 8)]) rfl rfl HSM.out HFZ.out rfl (by kernel_rfl) (by simp [Value.oneCell']) ?_ | (go_step; first | refine store_stepR (vs := [.int .i64 (wd r.six2 r.hi2 r.lo2 0), .int .i64 (wd r.six2 r.hi2 r.lo2 1), .int .i64 (wd r.six2 r.hi2 r.lo2 2), .int .i64 (wd r.six2 r.hi2 r.lo2 3), .int .i64 (wd r.six2 r.hi2 r.lo2 4), .int .i64 (wd r.six2 r.hi2 r.lo2 5), .int .i64 (wd r.six2 r.hi2 r.lo2 6), .int .i64 (wd r.six2 r.hi2 r.lo2 7), .int .i64 (wd r.six2 r.hi2 r.lo2 8)]) rfl rfl HSM.out HFZ.out rfl (by kernel_rfl) (by simp [Value.oneCell']) ?_ | (go_step; first | refine store_stepR (vs := [.int .i64 (wd r.six2 r.hi2 r.lo2 0), .int .i64 (wd r.six2 r.hi2 r.lo2 1), .int .i64 (wd r.six2 r.hi2 r.lo2 2), .int .i64 (wd r.six2 r.hi2 r.lo2 3), .int .i64 (wd r.six2 r.hi2 r.lo2 4), .int .i64 (wd r.six2 r.hi2 r.lo2 5), .int .i64 (wd r.six2 r.hi2 r.lo2 6), .int .i64 (wd r.six2 r.hi2 r.lo2 7), .int .i64 (wd r.six2 r.hi2 r.lo2 8)]) rfl rfl HSM.out HFZ.out rfl (by kernel_rfl) (by simp [Value.oneCell']) ?_ | (go_step; first | refine store_stepR (vs := [.int .i64 (wd r.six2 r.hi2 r.lo2 0), .int .i64 (wd r.six2 r.hi2 r.lo2 1), .int .i64 (wd r.six2 r.hi2 r.lo2 2), .int .i64 (wd r.six2 r.hi2 r.lo2 3), .int .i64 (wd r.six2 r.hi2 r.lo2 4), .int .i64 (wd r.six2 r.hi2 r.lo2 5), .int .i64 (wd r.six2 r.hi2 r.lo2 6), .int .i64 (wd r.six2 r.hi2 r.lo2 7), .int .i64 (wd r.six2 r.hi2 r.lo2 8)]) rfl rfl HSM.out HFZ.out rfl (by kernel_rfl) (by simp [Value.oneCell']) ?_ | (go_step; first | refine store_stepR (vs := [.int .i64 (wd r.six2 r.hi2 r.lo2 0), .int .i64 (wd r.six2 r.hi2 r.lo2 1), .int .i64 (wd r.six2 r.hi2 r.lo2 2), .int .i64 (wd r.six2 r.hi2 r.lo2 3), .int .i64 (wd r.six2 r.hi2 r.lo2 4), .int .i64 (wd r.six2 r.hi2 r.lo2 5), .int .i64 (wd r.six2 r.hi2 r.lo2 6), .int .i64 (wd r.six2 r.hi2 r.lo2 7), .int .i64 (wd r.six2 r.hi2 r.lo2 8)]) rfl rfl HSM.out HFZ.out rfl (by kernel_rfl) (by simp [Value.oneCell']) ?_ | (go_step; first | refine store_stepR (vs := [.int .i64 (wd r.six2 r.hi2 r.lo2 0), .int .i64 (wd r.six2 r.hi2 r.lo2 1), .int .i64 (wd r.six2 r.hi2 r.lo2 2), .int .i64 (wd r.six2 r.hi2 r.lo2 3), .int .i64 (wd r.six2 r.hi2 r.lo2 4), .int .i64 (wd r.six2 r.hi2 r.lo2 5), .int .i64 (wd r.six2 r.hi2 r.lo2 6), .int .i64 (wd r.six2 r.hi2 r.lo2 7), .int .i64 (wd r.six2 r.hi2 r.lo2 8)]) rfl rfl HSM.out HFZ.out rfl (by kernel_rfl) (by simp [Value.oneCell']) ?_ | (go_step; first | refine store_stepR (vs := [.int .i64 (wd r.six2 r.hi2 r.lo2 0), .int .i64 (wd r.six2 r.hi2 r.lo2 1), .int .i64 (wd r.six2 r.hi2 r.lo2 2), .int .i64 (wd r.six2 r.hi2 r.lo2 3), .int .i64 (wd r.six2 r.hi2 r.lo2 4), .int .i64 (wd r.six2 r.hi2 r.lo2 5), .int .i64 (wd r.six2 r.hi2 r.lo2 6), .int .i64 (wd r.six2 r.hi2 r.lo2 7), .int .i64 (wd r.six2 r.hi2 r.lo2 8)]) rfl rfl HSM.out HFZ.out rfl (by kernel_rfl) (by simp [Value.oneCell']) ?_ | (go_step; first | refine store_stepR (vs := [.int .i64 (wd r.six2 r.hi2 r.lo2 0), .int .i64 (wd r.six2 r.hi2 r.lo2 1), .int .i64 (wd r.six2 r.hi2 r.lo2 2), .int .i64 (wd r.six2 r.hi2 r.lo2 3), .int .i64 (wd r.six2 r.hi2 r.lo2 4), .int .i64 (wd r.six2 r.hi2 r.lo2 5), .int .i64 (wd r.six2 r.hi2 r.lo2 6), .int .i64 (wd r.six2 r.hi2 r.lo2 7), .int .i64 (wd r.six2 r.hi2 r.lo2 8)]) rfl rfl HSM.out HFZ.out rfl (by kernel_rfl) (by simp [Value.oneCell']) ?_ | (go_step; refine store_stepR (vs := [.int .i64 (wd r.six2 r.hi2 r.lo2 0), .int .i64 (wd r.six2 r.hi2 r.lo2 1), .int .i64 (wd r.six2 r.hi2 r.lo2 2), .int .i64 (wd r.six2 r.hi2 r.lo2 3), .int .i64 (wd r.six2 r.hi2 r.lo2 4), .int .i64 (wd r.six2 r.hi2 r.lo2 5), .int .i64 (wd r.six2 r.hi2 r.lo2 6), .int .i64 (wd r.six2 r.hi2 r.lo2 7), .int .i64 (wd r.six2 r.hi2 r.lo2 8)]) rfl rfl HSM.out HFZ.out rfl (by kernel_rfl) (by simp [Value.oneCell']) ?_))))))))))))))))))
      go_wp2_with fail
      refine ⟨⟨k + 1, by omega, by simp, ?_⟩, by simp [intOf]; omega⟩
      have ho := rw_setCells [.int .i64 (wd r.six2 r.hi2 r.lo2 0), .int .i64 (wd r.six2 r.hi2 r.lo2 1), .int .i64 (wd r.six2 r.hi2 r.lo2 2), .int .i64 (wd r.six2 r.hi2 r.lo2 3), .int .i64 (wd r.six2 r.hi2 r.lo2 4), .int .i64 (wd r.six2 r.hi2 r.lo2 5), .int .i64 (wd r.six2 r.hi2 r.lo2 6), .int .i64 (wd r.six2 r.hi2 r.lo2 7), .int .i64 (wd r.six2 r.hi2 r.lo2 8)] (p * 18 + 9) W4 _ HO4.out
      have hg := rw_gsets (w := W4) (g := g3) [.int .i64 (wd r.six2 r.hi2 r.lo2 0), .int .i64 (wd r.six2 r.hi2 r.lo2 1), .int .i64 (wd r.six2 r.hi2 r.lo2 2), .int .i64 (wd r.six2 r.hi2 r.lo2 3), .int .i64 (wd r.six2 r.hi2 r.lo2 4), .int .i64 (wd r.six2 r.hi2 r.lo2 5), .int .i64 (wd r.six2 r.hi2 r.lo2 6), .int .i64 (wd r.six2 r.hi2 r.lo2 7), .int .i64 (wd r.six2 r.hi2 r.lo2 8)] (p * 18 + 9) W4 (World.grownBy.refl W4 _)
      have he : rwSets (rwC spC (O' ++ [x])) (p * 18 + 9) [.int .i64 (wd r.six2 r.hi2 r.lo2 0), .int .i64 (wd r.six2 r.hi2 r.lo2 1), .int .i64 (wd r.six2 r.hi2 r.lo2 2), .int .i64 (wd r.six2 r.hi2 r.lo2 3), .int .i64 (wd r.six2 r.hi2 r.lo2 4), .int .i64 (wd r.six2 r.hi2 r.lo2 5), .int .i64 (wd r.six2 r.hi2 r.lo2 6), .int .i64 (wd r.six2 r.hi2 r.lo2 7), .int .i64 (wd r.six2 r.hi2 r.lo2 8)] = rwC spC (O' ++ [(⟨x.six, x.hi, x.lo, r.six2, r.hi2, r.lo2⟩ : Rg)]) := by
       have ha : (rwC spC O').length = p * 18 := by rw [rwC_length spC_len, HPP.out]
       have h1 : rwC spC (O' ++ [x]) = rwC spC O' ++ spC x := by simp [rwC]
       have h2 : rwC spC (O' ++ [(⟨x.six, x.hi, x.lo, r.six2, r.hi2, r.lo2⟩ : Rg)]) = rwC spC O' ++ spC ⟨x.six, x.hi, x.lo, r.six2, r.hi2, r.lo2⟩ := by simp [rwC]
       rw [h1, h2, rwSets_shift _ ha]
       rfl
      rw [he] at ho
      have hle2 := HXO.out.le
      exact SjI.step (O := O' ++ [x]) (O2 := O' ++ [(⟨x.six, x.hi, x.lo, r.six2, r.hi2, r.lo2⟩ : Rg)]) hlt (HB4.out.grown hg HB4.out.size (fun j hj => by injection hj with hj; rw [← hj]; exact hbg3)) (own_asT ho (by rw [← HNN.out]; simp) rfl) (by have := HNN.out; simp at this ⊢; omega) (fun y hy => (List.mem_append.1 hy).elim (fun hy => HOO.out y (by simp [hy])) (fun hy => by
       simp at hy
       rw [hy]
       exact ⟨HXO.out.f, (HMO.out r HXM.out).l, HS6.out.trans HXO.out.six, Nat.le_of_lt (Nat.lt_of_le_of_lt hle2 HYC.out)⟩)) HOM.out (by
       rw [HR.out, List.map_append, List.map_append]
       unfold stepJ
       simp only [List.map_cons, List.map_nil]
       rw [List.getLast?_concat, List.dropLast_concat]
       simp only
       rw [if_pos (HTI.out.1 rfl)]
       have : max (rgS x).2 (rgS r).2 = (rgS r).2 := by have := HYC.out; show max (keyA (laR x) + 1) (keyA (laR r) + 1) = keyA (laR r) + 1; omega
       rw [this]
       rfl)
  ·have hkl : k = M.length := by omega
   subst hkl
   obtain ⟨O, hOw, hOk, hOok, hOm⟩ := HIN.out.row
   rw [List.take_length] at hOm
   obtain ⟨j1, j2⟩ := joinS_law (okR_okS HMO.out) HPS.out
   have HF : Hid (NormS (O.map rgS) ∧ ∀ n, hasS (O.map rgS) n ↔ hasS (L.map rgS) n) := Lib.hid (by
    rw [hOm]
    exact ⟨j1, fun n => (j2 n).trans (hasS_mem (fun z => by simp only [List.mem_map]; exact ⟨fun ⟨r, h1, h2⟩ => ⟨r, (HMM.out r).1 h1, h2⟩, fun ⟨r, h1, h2⟩ => ⟨r, (HMM.out r).2 h1, h2⟩⟩) n)⟩)
   have HOW := Lib.hid hOw
   have HOO := Lib.hid hOok
   have hle := HML.out.2
   have HLE : Hid (O.length ≤ L.length) := Lib.hid (by omega)
   clear hOw hOok hOm j1 j2 hle hOk
   go_wp2_with fail
   go_ret
   exact ⟨_, O, rfl, own_base HOW.out HB2.out.size, HOO.out, HF.out.1, HF.out.2, HLE.out, HB2.out.trans (HIN.out.below.mono HB2.out.size)⟩
end Go.Proofs.YtcmfkheohhfpiaaGreatDoor
namespace Go.Proofs.YtcmfkheohhfpiaaGreatDoor
open Go.RowKit Go.Hw
structure SqI (w : World) (L : List Pf) (k : Nat) (v : Value) (wr : World) : Prop where
 below : Below w.heap.size w wr
 row : spOwn wr w.heap.size v ((L.take k).map rgP)
set_option maxRecDepth 100000 in
set_option maxHeartbeats 4000000 in
theorem spansOf_any (A : Option Addr) (cap : Nat) (L : List Pf) (w : World) (h : pxAt w A L) (hok : ∀ p ∈ L, okP p) (hl : L.length ≤ 12) :
  Calls Tryz.prog 49 #[.slice A L.length cap] w fun e w' => ∃ v R, e = .returned v ∧ spOwn w' w.heap.size v R ∧ SetR R (L.map bkP) ∧ R.length ≤ L.length ∧ Below w.heap.size w w' := by
 obtain ⟨i0, hi0, hz0, hz1, hz2⟩ := info_parts sp_info
 have HOK := Lib.hid hok
 have HL := Lib.hid hl
 have HA := Lib.hid h
 clear h hok hl
 go_enter Tryz.func49, Tryz.ntmps49
 go_wp2_with fail
 go_loopw [3, 5, 8] (fun v3 _ v8 wr => ∃ k : Nat, k ≤ L.length ∧ v8 = .int .i64 k ∧ SqI w L k v3 wr) (fun _ _ v8 _ => L.length - (intOf v8).toNat)
 case atStart => exact ⟨0, Nat.zero_le _, rfl, Below.refl _ _, World.ownsRow_nil _ _ _ _⟩
 case round =>
  obtain ⟨k, hk, rfl, hin⟩ := hrel
  have HIN := Lib.hid hin
  clear hin
  by_cases hlt : k < L.length
  ·obtain ⟨gA, off, hA, hgA, hcc⟩ := (HA.out.below HIN.out.below) k hlt
   obtain ⟨c0, c1, c2, c3⟩ := px_cells hcc
   have hd : decide ((k : Int) < (L.length : Int)) = true := by simp; omega
   have hlm := HL.out
   have HTK := Lib.hid (take_succ' (L := L) noPf hlt)
   have hp := HOK.out (L.getD k noPf) (rw_mem hlt)
   have HOW := Lib.hid HIN.out.row
   have HHG := HIN.out.below
   generalize hpe : L.getD k noPf = p at *
   obtain ⟨m, e1, e2, -, -⟩ := last_num hp
   have hla0 := fun W => lastOf_any p.six p.hi p.lo p.bits W hp.1.1 hp.1.2.1 m e1 e2 hp.2.1
   have hel : arr9 (fild (wd p.six p.hi p.lo) m) = arr9 (wd p.six (fil p.hi (m - 64)) (fil p.lo (min 64 m))) := arr_ext (fun i h9 => fild_wd hp.1.1 hp.1.2.1 e2 h9)
   have hof0 := fun W => of_any p.six p.hi p.lo W hp.1.1 hp.1.2.1
   have hm : (lenA p.six - p.bits).toNat = m := by omega
   have HRG : Hid (rgP p = ⟨p.six, p.hi, p.lo, p.six, fil p.hi (m - 64), fil p.lo (min 64 m)⟩) := Lib.hid (by unfold rgP; rw [hm])
   have HBX := Lib.hid (HHG.alloc HHG.size (.cells #[.bool p.six, .int .u64 p.hi, .int .u64 p.lo, .int .i64 p.bits] 48 (0, 0)))
   have HNX := Lib.hid (heap_alloc_new wr (.cells #[.bool p.six, .int .u64 p.hi, .int .u64 p.lo, .int .i64 p.bits] 48 (0, 0)))
   have HOX : Hid (World.ownsRow _ w.heap.size 157 18 u3 ((L.take k).map rgP).length (rwC spC ((L.take k).map rgP))) := Lib.hid (World.ownsRow.alloc HOW.out (.cells #[.bool p.six, .int .u64 p.hi, .int .u64 p.lo, .int .i64 p.bits] 48 (0, 0)))
   generalize fil p.hi (m - 64) = lh at *
   generalize fil p.lo (min 64 m) = ll at *
   clear hcc HOW HHG hp hm e1 e2
   subst hA
   go_upto_region 5 with (fail)
   generalize World.alloc wr _ = W2 at *
   generalize wr.heap.size = nb at *
   have hnb := lt_of_block HNX.out
   obtain ⟨⟨d0, d1, d2, d3⟩, -⟩ := res4 HNX.out
   have hla : ∀ W, Calls Tryz.prog 91 #[.agg #[.bool p.six, .int .u64 p.hi, .int .u64 p.lo, .int .i64 p.bits]] W fun e w' => e = .returned (.agg #[.int .i64 (wd p.six lh ll 0), .int .i64 (wd p.six lh ll 1), .int .i64 (wd p.six lh ll 2), .int .i64 (wd p.six lh ll 3), .int .i64 (wd p.six lh ll 4), .int .i64 (wd p.six lh ll 5), .int .i64 (wd p.six lh ll 6), .int .i64 (wd p.six lh ll 7), .int .i64 (wd p.six lh ll 8)]) ∧ Below W.heap.size W w' := fun W => (hla0 W).mono fun e w' h => ⟨h.1.trans (by unfold wideV; rw [hel]; rfl), h.2⟩
   have hof : ∀ W, Calls Tryz.prog 94 #[.agg #[.bool p.six, .int .u64 p.hi, .int .u64 p.lo]] W fun e w' => e = .returned (.agg #[.int .i64 (wd p.six p.hi p.lo 0), .int .i64 (wd p.six p.hi p.lo 1), .int .i64 (wd p.six p.hi p.lo 2), .int .i64 (wd p.six p.hi p.lo 3), .int .i64 (wd p.six p.hi p.lo 4), .int .i64 (wd p.six p.hi p.lo 5), .int .i64 (wd p.six p.hi p.lo 6), .int .i64 (wd p.six p.hi p.lo 7), .int .i64 (wd p.six p.hi p.lo 8)]) ∧ Below W.heap.size W w' := fun W => hof0 W
   clear hla0 hof0 hel
   refine wp_region_app 8 (fun f' => ⟨#[.slice (some ⟨gA, off, none⟩) L.length cap, undef, .slice none 0 0, u3, undef, .pointer (some ⟨nb, 0, none⟩), .slice (some ⟨gA, off, none⟩) L.length cap, .int .i64 L.length, .int .i64 k, .bool true, .pointer (some ⟨gA, off + k * 4, none⟩), .agg #[Value.bool p.six, Value.int IntKind.u64 p.hi, Value.int IntKind.u64 p.lo, Value.int IntKind.i64 p.bits], f' 0, f' 1, f' 2, f' 3, f' 4, f' 5, f' 6, f' 7, u20, u21, undef, undef], []⟩) [VE (u3), VE (.pointer (some ⟨nb, 0, none⟩)), VE (.agg #[.bool p.six, .int .u64 p.hi, .int .u64 p.lo]), VE (.agg #[.int .i64 (wd p.six p.hi p.lo 0), .int .i64 (wd p.six p.hi p.lo 1), .int .i64 (wd p.six p.hi p.lo 2), .int .i64 (wd p.six p.hi p.lo 3), .int .i64 (wd p.six p.hi p.lo 4), .int .i64 (wd p.six p.hi p.lo 5), .int .i64 (wd p.six p.hi p.lo 6), .int .i64 (wd p.six p.hi p.lo 7), .int .i64 (wd p.six p.hi p.lo 8)]), VE (.agg #[.bool p.six, .int .u64 p.hi, .int .u64 p.lo, .int .i64 p.bits]), VE (.agg #[.int .i64 (wd p.six lh ll 0), .int .i64 (wd p.six lh ll 1), .int .i64 (wd p.six lh ll 2), .int .i64 (wd p.six lh ll 3), .int .i64 (wd p.six lh ll 4), .int .i64 (wd p.six lh ll 5), .int .i64 (wd p.six lh ll 6), .int .i64 (wd p.six lh ll 7), .int .i64 (wd p.six lh ll 8)]), VE (.agg #[.int .i64 (wd p.six p.hi p.lo 0), .int .i64 (wd p.six p.hi p.lo 1), .int .i64 (wd p.six p.hi p.lo 2), .int .i64 (wd p.six p.hi p.lo 3), .int .i64 (wd p.six p.hi p.lo 4), .int .i64 (wd p.six p.hi p.lo 5), .int .i64 (wd p.six p.hi p.lo 6), .int .i64 (wd p.six p.hi p.lo 7), .int .i64 (wd p.six p.hi p.lo 8), .int .i64 (wd p.six lh ll 0), .int .i64 (wd p.six lh ll 1), .int .i64 (wd p.six lh ll 2), .int .i64 (wd p.six lh ll 3), .int .i64 (wd p.six lh ll 4), .int .i64 (wd p.six lh ll 5), .int .i64 (wd p.six lh ll 6), .int .i64 (wd p.six lh ll 7), .int .i64 (wd p.six lh ll 8)]), VX #[.int .i64 (wd p.six p.hi p.lo 0), .int .i64 (wd p.six p.hi p.lo 1), .int .i64 (wd p.six p.hi p.lo 2), .int .i64 (wd p.six p.hi p.lo 3), .int .i64 (wd p.six p.hi p.lo 4), .int .i64 (wd p.six p.hi p.lo 5), .int .i64 (wd p.six p.hi p.lo 6), .int .i64 (wd p.six p.hi p.lo 7), .int .i64 (wd p.six p.hi p.lo 8), .int .i64 (wd p.six lh ll 0), .int .i64 (wd p.six lh ll 1), .int .i64 (wd p.six lh ll 2), .int .i64 (wd p.six lh ll 3), .int .i64 (wd p.six lh ll 4), .int .i64 (wd p.six lh ll 5), .int .i64 (wd p.six lh ll 6), .int .i64 (wd p.six lh ll 7), .int .i64 (wd p.six lh ll 8)] 157 1] W2 (fun i9 => match i9 with | 0 => u12 | 1 => u13 | 2 => u14 | 3 => u15 | 4 => u16 | 5 => u17 | 6 => u18 | 7 => u19 | _ => undef) (fun a' w' => ∃ (v9 : Value) (f' : Nat → Value), a' = ⟨#[.slice (some ⟨gA, off, none⟩) L.length cap, undef, .slice none 0 0, u3, undef, .pointer (some ⟨nb, 0, none⟩), .slice (some ⟨gA, off, none⟩) L.length cap, .int .i64 L.length, .int .i64 k, .bool true, .pointer (some ⟨gA, off + k * 4, none⟩), .agg #[Value.bool p.six, Value.int IntKind.u64 p.hi, Value.int IntKind.u64 p.lo, Value.int IntKind.i64 p.bits], f' 0, f' 1, f' 2, f' 3, f' 4, f' 5, f' 6, f' 7, v9, u21, undef, undef], []⟩ ∧ SqI w L (k + 1) v9 w') (show Tryz.prog.follows .mixedOrders = true from by kernel_rfl) (by kernel_rfl) ?_ ?_ ?_ ?_ rfl
   ·intro p hp
    simp only [List.mem_cons, List.mem_nil_iff, or_false] at hp
    rcases hp with rfl | rfl | rfl | rfl | rfl | rfl | rfl | rfl <;> first | exact VE.kept _ | exact VX.kept _ _ _
   ·intro i9 op hi9 ho f' w' hS hd
    have hcase : i9 = 0 ∨ i9 = 1 ∨ i9 = 2 ∨ i9 = 3 ∨ i9 = 4 ∨ i9 = 5 ∨ i9 = 6 ∨ i9 = 7 := by omega
    rcases hcase with rfl | rfl | rfl | rfl | rfl | rfl | rfl | rfl <;> (replace ho := Option.some.inj ho; subst ho)
    ·refine ⟨rfl, ?_⟩
     unfold Oper.wp
     go_simp
     exact ⟨_, (by first | (simp [upd]; done) | (simp [upd]; omega)), rfl, Below.refl _ _⟩
    ·refine ⟨rfl, ?_⟩
     unfold Oper.wp
     go_simp
     exact ⟨_, (by first | (simp [upd]; done) | (simp [upd]; omega)), rfl, Below.refl _ _⟩
    ·have e1 : f' 1 = _ := hd ⟨1, .data⟩ (by simp) rfl
     refine ⟨rfl, ?_⟩
     have d0' : w'.cell? ⟨nb, 0, none⟩ = some (.bool p.six) := (hS.out.cell (p := ⟨nb, _, none⟩) hnb).trans d0
     have d1' : w'.cell? ⟨nb, 1, none⟩ = some (.int .u64 p.hi) := (hS.out.cell (p := ⟨nb, _, none⟩) hnb).trans d1
     have d2' : w'.cell? ⟨nb, 2, none⟩ = some (.int .u64 p.lo) := (hS.out.cell (p := ⟨nb, _, none⟩) hnb).trans d2
     unfold Oper.wp
     go_simp
     exact ⟨_, (by first | (simp [upd, e1]; done) | (simp [upd, e1]; omega)), rfl, Below.refl _ _⟩
    ·have e2 : f' 2 = _ := hd ⟨2, .data⟩ (by simp) rfl
     refine ⟨rfl, ?_⟩
     unfold Oper.wp
     go_simp
     refine (hof w').mono ?_
     rintro e w9 ⟨rfl, hb9⟩
     exact ⟨_, (by simp [upd, e2]), rfl, hb9⟩
    ·refine ⟨rfl, ?_⟩
     have d0' : w'.cell? ⟨nb, 0, none⟩ = some (.bool p.six) := (hS.out.cell (p := ⟨nb, _, none⟩) hnb).trans d0
     have d1' : w'.cell? ⟨nb, 1, none⟩ = some (.int .u64 p.hi) := (hS.out.cell (p := ⟨nb, _, none⟩) hnb).trans d1
     have d2' : w'.cell? ⟨nb, 2, none⟩ = some (.int .u64 p.lo) := (hS.out.cell (p := ⟨nb, _, none⟩) hnb).trans d2
     have d3' : w'.cell? ⟨nb, 3, none⟩ = some (.int .i64 p.bits) := (hS.out.cell (p := ⟨nb, _, none⟩) hnb).trans d3
     unfold Oper.wp
     go_simp
     exact ⟨_, (by first | (simp [upd]; done) | (simp [upd]; omega)), rfl, Below.refl _ _⟩
    ·have e4 : f' 4 = _ := hd ⟨4, .data⟩ (by simp) rfl
     refine ⟨rfl, ?_⟩
     unfold Oper.wp
     go_simp
     refine (hla w').mono ?_
     rintro e w9 ⟨rfl, hb9⟩
     exact ⟨_, (by simp [upd, e4]), rfl, hb9⟩
    ·have e3 : f' 3 = _ := hd ⟨3, .data⟩ (by simp) rfl
     have e5 : f' 5 = _ := hd ⟨5, .data⟩ (by simp) rfl
     refine ⟨rfl, ?_⟩
     unfold Oper.wp
     go_simp
     exact ⟨_, (by first | (simp [upd, e3, e5]; done) | (simp [upd, e3, e5]; omega)), rfl, Below.refl _ _⟩
    ·have e6 : f' 6 = _ := hd ⟨6, .data⟩ (by simp) rfl
     refine ⟨rfl, ?_⟩
     unfold Oper.wp
     go_simp
     exact ⟨_, (by simp [upd, e6]), ⟨_, rfl, heap_alloc_new _ _⟩, (Below.refl _ _).alloc (Nat.le_refl _) _⟩
   ·intro op ho f' w' hS hd
    have e0 : f' 0 = _ := hd 0 (by omega)
    obtain ⟨g9, e9, hg9⟩ := hd 7 (by omega)
    replace ho := Option.some.inj ho
    subst ho
    refine ⟨rfl, ?_⟩
    have hoW := own_belowR HOX.out hS.out (Nat.le_refl _)
    have hbW := HBX.out.trans (hS.out.mono HBX.out.size)
    refine wp_append_own w' (.tmp 12) (.tmp 19) 102 rfl w.heap.size 157 i0 (.agg #[.int .i64 0, .int .i64 0, .int .i64 0, .int .i64 0, .int .i64 0, .int .i64 0, .int .i64 0, .int .i64 0, .int .i64 0, .int .i64 0, .int .i64 0, .int .i64 0, .int .i64 0, .int .i64 0, .int .i64 0, .int .i64 0, .int .i64 0, .int .i64 0]) 18 144 Tryz.underlying102 hi0 hz0 hz1 hz2 rfl (by decide) _ _ _ e0 hoW ⟨g9, 0, none⟩ 1 1 (spC (rgP p)) e9 rfl (by rw [HRG.out]; exact cells_blk hg9) (spC_one _) (by have := HL.out; unfold maxLen; simp; omega) (by have := HL.out; simp; omega) hbW.size ?_
    intro v9 w9 ho9 hg9 _
    exact ⟨v9, f', rfl, ⟨hbW.grown hg9 hbW.size (fun j hj => (hoW.lt j hj).1), own_asT ho9 (by rw [HTK.out]; simp) (by rw [HTK.out, List.map_append]; simp [rwC])⟩⟩
   ·intro op ho a w' hR
    obtain ⟨v9, f', rfl, hF⟩ := hR
    have HF9 := Lib.hid hF
    clear hF
    replace ho := Option.some.inj ho
    subst ho
    refine ⟨rfl, ?_⟩
    unfold Oper.wp
    go_simp
    go_wp2_with fail
    go_roundw
    case rel => exact ⟨k + 1, by omega, by simp, HF9.out⟩
    case measure => simp [intOf]; omega
  ·have hkl : k = L.length := by omega
   subst hkl
   have HRW := HIN.out.row
   rw [List.take_length] at HRW
   obtain ⟨A3, c3', rfl, ha3⟩ := rw_at (d := noRg) spC_len HRW
   have hjn := refJoined_any A3 c3' (L.map rgP) wr ha3 (fun hn => by
    subst hn
    rcases HRW.2 with ⟨_, h⟩ | ⟨g, cp, cur, e, _⟩
    ·exact List.length_eq_zero_iff.1 h
    ·cases e) (by
    intro r hr
    obtain ⟨p, hp, rfl⟩ := List.mem_map.1 hr
    exact (rgP_ok (HOK.out p hp)).1) (by rw [List.length_map]; exact HL.out)
   have HB := Lib.hid HIN.out.below
   have HLM := Lib.hid (rgP_map HOK.out)
   rw [List.length_map] at hjn
   clear HRW ha3
   go_wp2_with fail
   refine hjn.mono ?_
   rintro e W9 ⟨v, R, rfl, ho9, hr9, hn9, hs9, hl9, hb9⟩
   have HO9 := Lib.hid ho9
   have HF9 : Hid (SetR R (L.map bkP) ∧ R.length ≤ L.length) := Lib.hid ⟨⟨hr9, hn9, fun n => by rw [← HLM.out]; exact hs9 n⟩, hl9⟩
   have HB9 := Lib.hid (HB.out.trans (hb9.mono HB.out.size))
   have hsz := HB.out.size
   clear ho9 hr9 hn9 hs9 hl9 hb9 hjn
   go_wp2_with fail
   go_ret
   exact ⟨_, R, rfl, own_base HO9.out hsz, HF9.out.1, HF9.out.2, HB9.out⟩
end Go.Proofs.YtcmfkheohhfpiaaGreatDoor
