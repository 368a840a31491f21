/- addr.Pack: the leases are laid anew, the greatest first. -/
import Derived.Test.YtajifionclpphaaGreatDoorPoI
namespace Go.Proofs.YtajifionclpphaaGreatDoor
open Go.RowKit Go.Hw
def cmpB (x y : Le) : Int := cmpI x.pf.bits y.pf.bits
theorem entersPk : ∀ args w, (callFunc 67 args).run Tryz.prog w = .ok (.enter 67 args) w := enters_of Tryz.func67 (by kernel_rfl) rfl
set_option maxRecDepth 100000 in
set_option maxHeartbeats 1000000 in
theorem pack1_any (x y : Le) (w : World) : Calls Tryz.prog 67 #[.agg #[.string ⟨x.key.toArray⟩, .bool x.pf.six, .int .u64 x.pf.hi, .int .u64 x.pf.lo, .int .i64 x.pf.bits], .agg #[.string ⟨y.key.toArray⟩, .bool y.pf.six, .int .u64 y.pf.hi, .int .u64 y.pf.lo, .int .i64 y.pf.bits]] w fun e w' => e = .returned (.int .i64 (cmpB x y)) ∧ Below w.heap.size w w' := by
  have HB : Hid (Below w.heap.size w ((w.alloc (.cells #[.string ⟨x.key.toArray⟩, .bool x.pf.six, .int .u64 x.pf.hi, .int .u64 x.pf.lo, .int .i64 x.pf.bits] 67 (0, 0))).alloc (.cells #[.string ⟨y.key.toArray⟩, .bool y.pf.six, .int .u64 y.pf.hi, .int .u64 y.pf.lo, .int .i64 y.pf.bits] 67 (0, 0)))) := Lib.hid (((Below.refl _ _).alloc (Nat.le_refl _) _).alloc (by simp) _)
  go_enter Tryz.func67, Tryz.ntmps67
  go_wp2_with fail
  refine (cmpI_any x.pf.bits y.pf.bits _).mono ?_
  rintro e w1 ⟨rfl, rfl⟩
  go_wp2_with fail
  go_ret
  exact ⟨rfl, HB.out⟩
theorem sort_bits (L : List Le) : (isortL (leLt cmpB) L).Perm L ∧ (isortL (leLt cmpB) L).Pairwise (fun x y => x.pf.bits ≤ y.pf.bits) := by
  have hlt : ∀ x y : Le, leLt cmpB x y = true ↔ x.pf.bits < y.pf.bits := fun x y => by
    unfold leLt cmpB cmpI
    rw [decide_eq_true_eq]
    split
    · rename_i h; simp [h]
    · split
      · rename_i h1 h2; simp; omega
      · rename_i h1 h2; simp; omega
  refine ⟨isortL_perm _ _, ?_⟩
  have hs := isortL_sorted (lt := leLt cmpB) (fun x y h => by
    rw [Bool.eq_false_iff]
    intro h2
    have := (hlt x y).1 h
    have := (hlt y x).1 h2
    omega) (fun x y z h1 h2 => by
    rw [Bool.eq_false_iff] at *
    intro h3
    have a1 : ¬ x.pf.bits < y.pf.bits := fun h => h1 ((hlt x y).2 h)
    have a2 : ¬ y.pf.bits < z.pf.bits := fun h => h2 ((hlt y z).2 h)
    have := (hlt x z).1 h3
    omega) L
  exact hs.imp fun {x y} h => by
    have : ¬ y.pf.bits < x.pf.bits := fun h2 => by rw [(hlt y x).2 h2] at h; cases h
    omega
theorem PkI.of {P Q : Pl} {l : List Le} {j : Nat} (h : PkI P l j Q) {x : Le} (hx : x ∈ Q.ls) : ∃ y ∈ l.take j, y.key = x.key := by
  obtain ⟨M, m1, m2⟩ := h.keys
  have h1 : (x.key, x.pf.bits) ∈ M.map (fun x => (x.key, x.pf.bits)) := List.mem_map.2 ⟨x, m1.mem_iff.1 hx, rfl⟩
  rw [m2] at h1
  obtain ⟨y, hy, e⟩ := List.mem_map.1 h1
  injection e with e1 _
  exact ⟨y, hy, e1⟩
theorem PkI.fine {P Q : Pl} {l : List Le} {j : Nat} (h : PkI P l j Q) (hf : FinePl P) (hl : l.Perm P.ls) (hj : j ≤ l.length) : FinePl Q ∧ Q.ls.length = j := by
  have hlen : Q.ls.length = j := by
    obtain ⟨M, m1, m2⟩ := h.keys
    have := congrArg List.length m2
    rw [List.length_map, List.length_map, List.length_take] at this
    rw [m1.length_eq]
    omega
  refine ⟨⟨h.ok, fun x hx => ?_, by rw [h.kept]; exact hf.n1, by rw [hlen]; exact Nat.le_trans hj (by rw [hl.length_eq]; exact hf.n2)⟩, hlen⟩
  obtain ⟨y, hy, e⟩ := h.of hx
  have := hf.key y (hl.mem_iff.1 (List.mem_of_mem_take hy))
  rwa [e] at this
theorem PkI.fresh {P Q : Pl} {l : List Le} {j : Nat} (h : PkI P l j Q) (hP : OkPl P) (hl : l.Perm P.ls) (hj : j < l.length) : ∀ y ∈ Q.ls, y.key ≠ (l[j]).key := by
  have hne : l.Pairwise (fun x y => x.key ≠ y.key) := (hl.pairwise_iff (fun h => fun e => h e.symm)).2 (hP.ord.imp fun {x y} h => fun e => by rw [e] at h; exact List.lt_irrefl _ h)
  intro y hy e
  obtain ⟨z, hz, e2⟩ := h.of hy
  obtain ⟨i, hi, rfl⟩ := List.mem_iff_getElem.1 hz
  have hi' : i < j := by rw [List.length_take] at hi; omega
  rw [List.getElem_take] at e2
  exact List.pairwise_iff_getElem.1 hne i j (by omega) hj hi' (e2.trans e)
/-- One more lease is laid. -/
theorem PkI.lay {P Q : Pl} {l : List Le} {j : Nat} (h : PkI P l j Q) (hP : OkPl P) (hl : l.Perm P.ls) (hj : j < l.length) {f : Pf} (hf : okP f) (hfree : ∀ k, inP f k → freeN Q k) (hfb : f.bits ≤ (l[j]).pf.bits) :
    PkI P l (j + 1) ⟨Q.pf, Q.kept, isortL (leLt cmpK) (Q.ls ++ [⟨(l[j]).key, subP f (l[j]).pf.bits⟩])⟩ := by
  have hx := hP.ls (l[j]) (hl.mem_iff.1 (List.getElem_mem hj))
  have e1 := (ins_six hx.1 hP.pf hx.2.1).1
  have e2 := (ins_six hf h.ok.pf (fun k hk => (hfree k hk).1)).1
  have e3 : f.six = (l[j]).pf.six := by rw [e2, h.pf, e1]
  have hle : (l[j]).pf.bits ≤ lenA f.six := by
    obtain ⟨-, -, m, hm, -⟩ := hx.1
    rw [e3]
    omega
  obtain ⟨s1, s2, s3⟩ := subP_ok hf hfb hle
  have hk := sort_keys (L := Q.ls ++ [⟨(l[j]).key, subP f (l[j]).pf.bits⟩]) (List.pairwise_append.2 ⟨h.ok.ord.imp fun {x y} h => fun e => by rw [e] at h; exact List.lt_irrefl _ h, by simp, fun a ha b hb => by rw [List.mem_singleton.1 hb]; exact h.fresh hP hl hj a ha⟩)
  exact h.step (x := ⟨(l[j]).key, subP f (l[j]).pf.bits⟩) hj rfl rfl (by rw [s3]; show _ = (lenA (l[j]).pf.six - (l[j]).pf.bits).toNat; rw [e3]) s1 hx.2.2 (fun k hk => hfree k (s2 k hk)) rfl rfl hk.1 hk.2
theorem RwAt.pass {α : Type} {c : α → List Value} {n : Nat} {d : α} {w0 w w' : World} {A : Option Addr} {L : List α} {row : Option Nat} (h0 : RwAt c n d w0 A L) (h : RwAt c n d w A L) (hg : w.grownBy w' row) (hr : ∀ j, row = some j → w0.heap.size ≤ j) : RwAt c n d w' A L := fun i hi => by
  obtain ⟨g, off, h1, h2, h3⟩ := h i hi
  obtain ⟨g0, off0, k1, k2, -⟩ := h0 i hi
  rw [h1] at k1
  injection k1 with k1
  injection k1 with k1
  subst k1
  exact ⟨g, off, h1, Nat.lt_of_lt_of_le h2 hg.size, h3.keep fun p hp => World.cell?_of_block (hg.block p.block (by rw [hp]; exact h2) (by rw [hp]; exact fun e => by have := hr _ e.symm; omega))⟩
theorem PlAt.grown {w w' : World} {P : Pl} {AK AL : Option Addr} {cl : Nat} {row : Option Nat} (h : PlAt w P AK AL cl) (hg : w.grownBy w' row) (h1 : ∀ a, AK = some a → some a.block ≠ row) (h2 : ∀ a, AL = some a → some a.block ≠ row) : PlAt w' P AK AL cl := ⟨h.kept.grown hg h1, h.kept0, h.ls.grown hg h2, h.ls0, h.cap⟩
theorem Re.grownR {W W2 : World} {R : Nat} {cs : Array Value} {T : TypeId} (h : Re W W2 R cs T) : W.grownBy W2 (some R) := h.grown (World.grownBy.refl _ _) (.inr rfl)
/-- A row lies behind a block, and not at another. -/
def RowOff (A : Option Addr) (g R : Nat) : Prop := ∀ a, A = some a → some a.block ≠ some g ∧ R < a.block
/-- Where the packing stands. -/
def PkL (P : Pl) (l : List Le) (g R : Nat) (W : World) (v : Value) (wr : World) : Prop :=
  ∃ (k : Nat) (Q : Pl) (AK AL : Option Addr) (ck cl : Nat), k ≤ P.ls.length ∧ v = .int .i64 k ∧ PkI P l k Q ∧ PlAt wr Q AK AL cl ∧ (RowOff AK g R ∧ RowOff AL g R) ∧ wr.heap[g]? = some (.cells #[.bool Q.pf.six, .int .u64 Q.pf.hi, .int .u64 Q.pf.lo, .int .i64 Q.pf.bits, .slice AK Q.kept.length ck, .slice AL Q.ls.length cl] 53 (0, 0)) ∧ W.grownBy wr (some g)
theorem PkL.next {P Q : Pl} {l : List Le} {g R k : Nat} {W W4 : World} {AK AL : Option Addr} {ck cl : Nat} (hk : k < P.ls.length) (h : PkI P l (k + 1) Q) (hp : PlAt W4 Q AK AL cl) (hn : RowOff AK g R ∧ RowOff AL g R) (hb : W4.heap[g]? = some (.cells #[.bool Q.pf.six, .int .u64 Q.pf.hi, .int .u64 Q.pf.lo, .int .i64 Q.pf.bits, .slice AK Q.kept.length ck, .slice AL Q.ls.length cl] 53 (0, 0))) (hg : W.grownBy W4 (some g)) : PkL P l g R W (.int .i64 ((k : Int) + 1)) W4 := ⟨k + 1, Q, AK, AL, ck, cl, by omega, by simp, h, hp, hn, hb, hg⟩
/-- What a packed pool is. -/
def PackedIs (w : World) (P : Pl) (e : Ending) (w' : World) : Prop :=
  ∃ (Q : Pl) (AK AL : Option Addr) (ck cl : Nat), e = .returned (.tuple #[plV P.pf (.slice AK Q.kept.length ck) (.slice AL Q.ls.length cl), .int .i64 0]) ∧ PlAt w' Q AK AL cl ∧ FinePl Q ∧ Q.pf = P.pf ∧ Q.ls.map (fun x => (x.key, x.pf.bits)) = P.ls.map (fun x => (x.key, x.pf.bits)) ∧ Below w.heap.size w w'
set_option maxRecDepth 100000 in
set_option maxHeartbeats 8000000 in
theorem pack_any (P : Pl) (AK AL : Option Addr) (ck cl : Nat) (w : World) (h : PlAt w P AK AL cl) (hf : FinePl P) :
    Calls Tryz.prog 27 #[plV P.pf (.slice AK P.kept.length ck) (.slice AL P.ls.length cl)] w (PackedIs w P) := by
  have HF := Lib.hid hf
  have hn1 := hf.n1
  have hn2 := hf.n2
  have b1 : Below w.heap.size w ((w.alloc (plBox P.pf (.slice AK P.kept.length ck) (.slice AL P.ls.length cl))).alloc (.cells #[.bool false, .int .u64 0, .int .u64 0, .int .i64 0, .slice none 0 0, .slice none 0 0] 53 (0, 0))) := ((Below.refl _ _).alloc (Nat.le_refl _) _).alloc (by simp) _
  have b0 : ((w.alloc (plBox P.pf (.slice AK P.kept.length ck) (.slice AL P.ls.length cl))).alloc (.cells #[.bool false, .int .u64 0, .int .u64 0, .int .i64 0, .slice none 0 0, .slice none 0 0] 53 (0, 0))).heap[w.heap.size]? = some (plBox P.pf (.slice AK P.kept.length ck) (.slice AL P.ls.length cl)) := (heap_alloc_old _ _ (by simp)).trans (heap_alloc_new w _)
  have b2 : ((w.alloc (plBox P.pf (.slice AK P.kept.length ck) (.slice AL P.ls.length cl))).alloc (.cells #[.bool false, .int .u64 0, .int .u64 0, .int .i64 0, .slice none 0 0, .slice none 0 0] 53 (0, 0))).heap[w.heap.size + 1]? = some (.cells #[.bool false, .int .u64 0, .int .u64 0, .int .i64 0, .slice none 0 0, .slice none 0 0] 53 (0, 0)) := by
    have := heap_alloc_new (w.alloc (plBox P.pf (.slice AK P.kept.length ck) (.slice AL P.ls.length cl))) (.cells #[.bool false, .int .u64 0, .int .u64 0, .int .i64 0, .slice none 0 0, .slice none 0 0] 53 (0, 0))
    simp only [Re_size] at this
    exact this
  have HB := Lib.hid b1
  have H0 := Lib.hid (h.below b1)
  clear h hf b1
  unfold plV
  unfold plBox at b0 b2 HB H0
  go_enter Tryz.func27, Tryz.ntmps27
  go_upto_region 1 with (fail)
  generalize World.alloc (World.alloc w _) _ = W at b0 b2 HB H0 ⊢
  have BX := Lib.hid b0
  have BR := Lib.hid b2
  have HS0 := Lib.hid HB.out.size
  obtain ⟨⟨x0, x1, x2, x3, x4, x5⟩, -⟩ := res6r b0
  clear b0 b2
  have hck := H0.out.check HF.out ck
  unfold plV at hck
  go_wp2_with fail
  refine hck.mono ?_
  rintro e W1 ⟨rfl, hb1⟩
  have BX1 := Lib.hid ((hb1.block _ (lt_of_block BX.out)).trans BX.out)
  have BR1 := Lib.hid ((hb1.block _ (lt_of_block BR.out)).trans BR.out)
  have HB1 := Lib.hid (HB.out.trans (hb1.mono HB.out.size))
  have H1 := Lib.hid (H0.out.below hb1)
  clear hck hb1 x0 x1 x2 x3 x4 x5 BX BR HB H0
  obtain ⟨⟨x0, x1, x2, x3, x4, x5⟩, -⟩ := res6r BX1.out
  have hcl := le_clone AL cl P.ls W1 H1.out.ls H1.out.ls0 (by omega)
  go_wp2_with fail
  refine hcl.mono ?_
  rintro e W2 ⟨v, rfl, ho2, hb2⟩
  obtain ⟨A5, c5, rfl, -⟩ := le_own ho2
  have BX2 := Lib.hid ((hb2.block _ (lt_of_block BX1.out)).trans BX1.out)
  have BR2 := Lib.hid ((hb2.block _ (lt_of_block BR1.out)).trans BR1.out)
  have HB2 := Lib.hid (HB1.out.trans (hb2.mono HB1.out.size))
  have H2 := Lib.hid (H1.out.below hb2)
  have hlo : ∀ j, (Value.slice A5 P.ls.length c5).ownBlock = some j → W1.heap.size ≤ j := fun j hj => (ho2.lt j hj).1
  have hso := le_sortStable A5 c5 P.ls 67 #[] cmpB W2 entersPk (own_base ho2 (Nat.zero_le _)) (by omega) (fun wr _ V y z _ _ _ => pack1_any y z V)
  have hbx1 := lt_of_block BX1.out
  have hbr1 := lt_of_block BR1.out
  have hs12 := hb2.size
  have HS1 := Lib.hid HB1.out.size
  clear hcl ho2 hb2 x0 x1 x2 x3 x4 x5
  go_wp2_with fail
  refine hso.mono ?_
  rintro e W3 ⟨rfl, hg3, ho3⟩
  have hls : (isortL (leLt cmpB) P.ls).length = P.ls.length := isortL_length _ _
  rw [hls] at hg3
  have BX3 := Lib.hid ((hg3.block w.heap.size (by omega) (fun e => by have := hlo _ e.symm; omega)).trans BX2.out)
  have BR3 := Lib.hid ((hg3.block (w.heap.size + 1) (by omega) (fun e => by have := hlo _ e.symm; omega)).trans BR2.out)
  have HB3 : Hid (Below w.heap.size w W3) := Lib.hid (HB2.out.grown hg3 HB2.out.size (fun j e => by have := hlo _ e; have := HS1.out; omega))
  have HK3 : Hid (pxAt W3 AK P.kept) := Lib.hid (RwAt.pass H1.out.kept H2.out.kept hg3 hlo)
  have HK0 := Lib.hid H1.out.kept0
  have HLO := Lib.hid hlo
  have ho3' : leOwn W3 0 (.slice A5 P.ls.length c5) (isortL (leLt cmpB) P.ls) := by
    have e : (Value.slice A5 (isortL (leLt cmpB) P.ls).length c5) = .slice A5 P.ls.length c5 := by rw [hls]
    exact e ▸ ho3
  have HL3 := Lib.hid ho3'
  have HLN := Lib.hid hls
  have hsz3 := hg3.size
  clear hso hg3 ho3 ho3' hlo hls BX1 BR1 BX2 BR2 HB1 HB2 H1 H2
  have hbx := lt_of_block BX3.out
  have hbr := lt_of_block BR3.out
  obtain ⟨⟨x0, x1, x2, x3, x4, x5⟩, -⟩ := res6r BX3.out
  go_upto_region 6 with (fail)
  -- R6
  refine wp_region_vs 7 (fun f' => ⟨#[.agg #[Value.bool P.pf.six, Value.int IntKind.u64 P.pf.hi, Value.int IntKind.u64 P.pf.lo, Value.int IntKind.i64 P.pf.bits, Value.slice AK P.kept.length ck, Value.slice AL P.ls.length cl], .pointer (some ⟨w.heap.size, 0, none⟩), .pointer (some ⟨w.heap.size + 1, 0, none⟩), .int .i64 0, .int .i64 0, .slice A5 P.ls.length c5, f' 6, undef, undef, undef, undef, .agg #[Value.bool P.pf.six, Value.int IntKind.u64 P.pf.hi, Value.int IntKind.u64 P.pf.lo, Value.int IntKind.i64 P.pf.bits, Value.slice AK P.kept.length ck, Value.slice AL P.ls.length cl], .int .i64 0, .int .i64 0, .bool false, undef, undef, .pointer (some ⟨w.heap.size, 5, none⟩), .slice AL P.ls.length cl, .slice A5 P.ls.length c5, .slice A5 P.ls.length c5, .tuple #[], f' 0, f' 1, f' 2, f' 3, f' 4, f' 5, undef, undef, undef, undef, undef, undef, undef, undef, undef, undef, undef, undef, undef, undef, undef, undef, undef, undef, undef, undef, undef, undef, undef, undef], []⟩) [VE (.pointer (some ⟨w.heap.size, 0, none⟩)), VE (.agg #[.bool P.pf.six, .int .u64 P.pf.hi, .int .u64 P.pf.lo, .int .i64 P.pf.bits]), VE (.pointer (some ⟨w.heap.size, 4, none⟩)), VE (.slice AK P.kept.length ck), VOp W3.heap.size P.kept, VPl W3.heap.size (barePl P), VN W3 #[.bool false, .int .u64 0, .int .u64 0, .int .i64 0, .slice none 0 0, .slice none 0 0] 53] W3 (fun _ => undef) 40 (show Tryz.prog.follows .mixedOrders = true from by kernel_rfl) (by kernel_rfl) ?_ ?_ ?_ rfl
  · intro p hp
    simp only [List.mem_cons, List.mem_nil_iff, or_false] at hp
    rcases hp with rfl | rfl | rfl | rfl | rfl | rfl | rfl <;> first | exact VE.kept _ | exact VN.kept _ _ _ | exact VOp.kept _ _ | exact VPl.kept _ _
  · intro i9 op hi9 ho f' w' hS hd
    have hcase : i9 = 0 ∨ i9 = 1 ∨ i9 = 2 ∨ i9 = 3 ∨ i9 = 4 ∨ i9 = 5 ∨ i9 = 6 := by omega
    rcases hcase with rfl | rfl | rfl | rfl | rfl | rfl | rfl <;> (replace ho := Option.some.inj ho; subst ho)
    · refine OpStep.of rfl ?_
      unfold Oper.wp
      go_simp
      exact ⟨_, (by simp [upd]), rfl, Below.refl _ _⟩
    · have e0 : f' 0 = .pointer (some ⟨w.heap.size, 0, none⟩) := hd ⟨0, .data⟩ (by simp) rfl
      have x0' : w'.cell? ⟨w.heap.size, 0, none⟩ = some (.bool P.pf.six) := (hS.out.cell (p := ⟨w.heap.size, _, none⟩) hbx).trans x0
      have x1' : w'.cell? ⟨w.heap.size, 1, none⟩ = some (.int .u64 P.pf.hi) := (hS.out.cell (p := ⟨w.heap.size, _, none⟩) hbx).trans x1
      have x2' : w'.cell? ⟨w.heap.size, 2, none⟩ = some (.int .u64 P.pf.lo) := (hS.out.cell (p := ⟨w.heap.size, _, none⟩) hbx).trans x2
      have x3' : w'.cell? ⟨w.heap.size, 3, none⟩ = some (.int .i64 P.pf.bits) := (hS.out.cell (p := ⟨w.heap.size, _, none⟩) hbx).trans x3
      refine OpStep.of rfl ?_
      unfold Oper.wp
      go_simp
      exact ⟨_, (by simp [upd, e0]), rfl, Below.refl _ _⟩
    · refine OpStep.of rfl ?_
      unfold Oper.wp
      go_simp
      exact ⟨_, (by simp [upd]), rfl, Below.refl _ _⟩
    · have e2 : f' 2 = .pointer (some ⟨w.heap.size, 4, none⟩) := hd ⟨2, .data⟩ (by simp) rfl
      have x4' : w'.cell? ⟨w.heap.size, 4, none⟩ = some (.slice AK P.kept.length ck) := (hS.out.cell (p := ⟨w.heap.size, _, none⟩) hbx).trans x4
      refine OpStep.of rfl ?_
      unfold Oper.wp
      go_simp
      exact ⟨_, (by simp [upd, e2]), rfl, Below.refl _ _⟩
    · have e3 : f' 3 = .slice AK P.kept.length ck := hd ⟨3, .data⟩ (by simp) rfl
      refine OpStep.of rfl ?_
      unfold Oper.wp
      go_simp
      refine (px_clone AK ck P.kept w' (HK3.out.below hS.out) HK0.out (by omega)).mono ?_
      rintro e w9 ⟨v9, rfl, ho9, hb9⟩
      exact ⟨_, (by simp [upd, e3]), own_base ho9 hS.out.size, hb9⟩
    · have e1 : f' 1 = .agg #[.bool P.pf.six, .int .u64 P.pf.hi, .int .u64 P.pf.lo, .int .i64 P.pf.bits] := hd ⟨1, .data⟩ (by simp) rfl
      have H4 : Hid (pxOwn w' W3.heap.size (f' 4) P.kept) := Lib.hid (hd ⟨4, .data⟩ (by simp) rfl)
      obtain ⟨A4, c4, e4, -⟩ := px_own H4.out
      refine OpStep.of rfl ?_
      unfold Oper.wp
      go_simp
      exact ⟨plV P.pf (.slice A4 P.kept.length c4) (.slice none 0 0), (by simp [upd, plV, e1, e4]), ⟨.slice A4 P.kept.length c4, .slice none 0 0, rfl, by rw [← e4]; exact H4.out, World.ownsRow_nil _ _ _ _⟩, Below.refl _ _⟩
    · refine OpStep.of rfl ?_
      unfold Oper.wp
      go_simp
      exact ⟨_, (by simp [upd]), ⟨_, rfl, hS.out.size, heap_alloc_new _ _⟩, (Below.refl _ _).alloc (Nat.le_refl _) _⟩
  · intro op ho f' w' hS hd
    obtain ⟨g6, e6, hn6, hg6⟩ : VN W3 #[.bool false, .int .u64 0, .int .u64 0, .int .i64 0, .slice none 0 0, .slice none 0 0] 53 w' (f' 6) := hd 6 (by omega)
    obtain ⟨K8, L8, e5, hk8, hl8⟩ : VPl W3.heap.size (barePl P) w' (f' 5) := hd 5 (by omega)
    obtain ⟨AK2, ck2, rfl, -, hkn⟩ := px_own hk8
    obtain ⟨AL2, cl2, rfl, -, hln⟩ := le_own hl8
    unfold plV at e5
    have HK8 := Lib.hid hk8
    have HL8 := Lib.hid hl8
    have HG6 := Lib.hid hg6
    have HX := Lib.hid (HB3.out.trans (hS.out.mono HB3.out.size))
    have HW := Lib.hid hS.out
    have HKN := Lib.hid hkn
    obtain ⟨⟨z0, z1, z2, z3, z4, z5⟩, m0, m1, m2, m3, m4, m5⟩ := res6r hg6
    clear hd hk8 hl8 hg6 hkn hln
    replace ho := Option.some.inj ho
    subst ho
    refine ⟨rfl, ?_⟩
    unfold Oper.wp
    go_simp
    -- R7
    clear z0 z1 z2 z3 z4 z5 m0 m1 m2 m3 m4 m5
    generalize hW7 : World.setCell _ _ _ = W7
    have hr := re6q HG6.out hW7
    have HG7 := Lib.hid hr.blk
    have HK7 : Hid (pxOwn W7 W3.heap.size (.slice AK2 (barePl P).kept.length ck2) (barePl P).kept) := Lib.hid (rw_same HK8.out fun k hk => hr.oth k fun e => own_neT HK8.out HG6.out (by decide) (by rw [hk, e]))
    have HL7 : Hid (leOwn W7 W3.heap.size (.slice AL2 (barePl P).ls.length cl2) (barePl P).ls) := Lib.hid (rw_same HL8.out fun k hk => hr.oth k fun e => own_neT HL8.out HG6.out (by decide) (by rw [hk, e]))
    have HNK : Hid (RowOff AK2 g6 (w.heap.size + 1) ∧ RowOff AL2 g6 (w.heap.size + 1)) := Lib.hid ⟨fun a ha => ⟨fun e => own_neT HK7.out HG7.out (by decide) (by rw [ha]; exact e), by have := (HK7.out.lt a.block (by rw [ha]; rfl)).1; omega⟩, fun a ha => ⟨fun e => own_neT HL7.out HG7.out (by decide) (by rw [ha]; exact e), by have := (HL7.out.lt a.block (by rw [ha]; rfl)).1; omega⟩⟩
    have HP7 : Hid (PlAt W7 (barePl P) AK2 AL2 cl2) := Lib.hid ⟨rw_at' pxC_len HK7.out, fun e => by subst e; exact List.length_eq_zero_iff.1 (own_none HK7.out), rw_at' leC_len HL7.out, fun e => by subst e; exact List.length_eq_zero_iff.1 (own_none HL7.out), own_cap HL7.out⟩
    have hlst : ∀ k, (Value.slice A5 P.ls.length c5).ownBlock = some k → k < W3.heap.size := fun k hk => (HL3.out.lt k hk).2
    have hl7 : leOwn W7 0 (.slice A5 P.ls.length c5) (isortL (leLt cmpB) P.ls) := rw_same HL3.out fun k hk => (hr.oth k (by have := hlst k hk; omega)).trans (hS.out.block k (hlst k hk))
    have HLA : Hid (leAt W7 A5 (isortL (leLt cmpB) P.ls)) := Lib.hid (rw_at' leC_len ((show (Value.slice A5 P.ls.length c5) = Value.slice A5 (isortL (leLt cmpB) P.ls).length c5 by rw [HLN.out]) ▸ hl7))
    have HLE : Hid (∀ a, A5 = some a → some a.block ≠ some g6) := Lib.hid (fun a ha e => by injection e with e; have := hlst a.block (by rw [ha]; rfl); omega)
    have BX7 := Lib.hid ((hr.oth _ (by omega)).trans ((hS.out.block _ hbx).trans BX3.out))
    have BR7 := Lib.hid ((hr.oth _ (by omega)).trans ((hS.out.block _ hbr).trans BR3.out))
    have HB7 : Hid (Below w.heap.size w W7) := Lib.hid (hr.below HX.out (by omega))
    have hsz7 : W3.heap.size ≤ W7.heap.size := by rw [hr.size]; exact HW.out.size
    have hg7 := lt_of_block HG7.out
    have HN6 := Lib.hid hn6
    obtain ⟨hperm, hpw⟩ := sort_bits P.ls
    have HPE := Lib.hid hperm
    have HPW := Lib.hid hpw
    clear hr hW7 HG6 HK8 HL8 HK7 HL7 BX3 BR3 HX HW hS x0 x1 x2 x3 x4 x5 hl7 hlst hperm hpw HL3 HLO HK3
    generalize isortL (leLt cmpB) P.ls = l at *
    have hll := HLN.out
    go_wp2_with fail
    go_loopw [8, 9, 10, 30] (fun _ _ _ v30 wr => PkL P l g6 (w.heap.size + 1) W7 v30 wr) (fun _ _ _ v30 _ => P.ls.length - (intOf v30).toNat)
    case atStart => exact ⟨0, barePl P, AK2, AL2, ck2, cl2, Nat.zero_le _, rfl, PkI.start HF.out.ok l, HP7.out, HNK.out, HG7.out, World.grownBy.refl _ _⟩
    case round =>
      obtain ⟨k, Q, AKq, ALq, ckq, clq, hk, rfl, hP, hPl, hne, hb6, hg⟩ := hrel
      have HI := Lib.hid hP
      have HPL := Lib.hid hPl
      have HNE := Lib.hid hne
      have HB6 := Lib.hid hb6
      have HG := Lib.hid hg
      obtain ⟨hfq, hlq⟩ := hP.fine HF.out HPE.out (by omega)
      have HFQ := Lib.hid hfq
      have HLQ := Lib.hid hlq
      clear hlq
      have hlt6 := lt_of_block hb6
      by_cases hlt : k < P.ls.length
      · obtain ⟨g5, off, hA, hgB, hcc⟩ := (HLA.out.grown hg HLE.out) k (by omega)
        obtain ⟨c0, c1, c2, c3, c4⟩ := le_cells hcc
        have hkl : k < l.length := by omega
        have HX : Hid (l[k] = l.getD k noLe) := Lib.hid (by rw [List.getD_eq_getElem?_getD, List.getElem?_eq_getElem hkl]; rfl)
        have HXL : Hid (okP (l.getD k noLe).pf ∧ insP (l.getD k noLe).pf P.pf) := Lib.hid (by rw [← HX.out]; have := HF.out.ok.ls (l[k]) (HPE.out.mem_iff.1 (List.getElem_mem hkl)); exact ⟨this.1, this.2.1⟩)
        have HNX : Hid (∀ S : List Sn, NormS S → (∀ z ∈ S, famOk z) → (∀ n, hasS S n ↔ freeN Q n) → ∃ f ∈ preS S, (bkP (l.getD k noLe).pf).2 ≤ f.2) := Lib.hid (fun S h1 h2 h3 => by rw [← HX.out]; exact hP.next HF.out.ok HPE.out HPW.out hkl h1 h2 h3)
        have HLY : Hid (∀ f : Pf, okP f → (∀ k, inP f k → freeN Q k) → f.bits ≤ (l.getD k noLe).pf.bits → PkI P l (k + 1) ⟨Q.pf, Q.kept, isortL (leLt cmpK) (Q.ls ++ [⟨(l.getD k noLe).key, subP f (l.getD k noLe).pf.bits⟩])⟩) := Lib.hid (fun f h1 h2 => by rw [← HX.out]; exact hP.lay HF.out.ok HPE.out hkl h1 h2)
        clear HX
        generalize l.getD k noLe = x at *
        have hd : decide ((k : Int) < (P.ls.length : Int)) = true := by simp; omega
        subst hA
        have BN := Lib.hid (heap_alloc_new wr (.cells #[.string ⟨x.key.toArray⟩, .bool x.pf.six, .int .u64 x.pf.hi, .int .u64 x.pf.lo, .int .i64 x.pf.bits] 67 (0, 0)))
        have hbel : Below wr.heap.size wr (wr.alloc (.cells #[.string ⟨x.key.toArray⟩, .bool x.pf.six, .int .u64 x.pf.hi, .int .u64 x.pf.lo, .int .i64 x.pf.bits] 67 (0, 0))) := (Below.refl _ _).alloc (Nat.le_refl _) _
        have B64 := Lib.hid ((hbel.block _ hlt6).trans hb6)
        have HPL4 := Lib.hid (hPl.below hbel)
        have HG4 := Lib.hid (hg.andThen (grownB hbel (some g6)) (fun _ h => .inr h))
        clear hcc hg hb6 hPl hP hne hbel hfq
        go_upto_region 10 with (fail)
        generalize World.alloc wr _ = W8 at BN B64 HPL4 HG4 ⊢
        generalize wr.heap.size = nb at BN ⊢
        obtain ⟨⟨y0, y1, y2, y3, y4⟩, -⟩ := res5 BN.out
        obtain ⟨⟨z0, z1, z2, z3, z4, z5⟩, -⟩ := res6r B64.out
        have hch := choose_any Q AKq ALq ckq clq x.pf.bits false W8 HPL4.out HFQ.out
        unfold plV at hch
        go_wp2_with fail
        refine hch.mono ?_
        rintro e W9 ⟨xc, b, rfl, hbi, hb1, ⟨S, hS1, hS2, hS3, hS4⟩, hb9⟩
        obtain rfl : b = true := hS4 (by
          obtain ⟨f, hf, hle⟩ := HNX.out S hS1 hS2 hS3
          refine ⟨f, hf, Nat.le_trans ?_ hle⟩
          have e1 := (ins_six HXL.out.1 HF.out.ok.pf HXL.out.2).1
          show _ ≤ (lenA x.pf.six - x.pf.bits).toNat
          rw [HI.out.pf, e1]
          omega) (by
          obtain ⟨-, -, m, hm, -⟩ := HXL.out.1
          have e1 := (ins_six HXL.out.1 HF.out.ok.pf HXL.out.2).1
          rw [HI.out.pf, ← e1]
          omega)
        obtain ⟨f, hf1, hf2, hf3, hxc⟩ := hb1 rfl
        have HNXT := Lib.hid (HLY.out f hf1 hf2 hf3)
        rw [← hxc] at HNXT
        have hbel : Below W8.heap.size W8 (W9.alloc (.cells #[.bool xc.six, .int .u64 xc.hi, .int .u64 xc.lo, .int .i64 x.pf.bits] 48 (0, 0))) := hb9.alloc hb9.size _
        have BC := Lib.hid (heap_alloc_new W9 (.cells #[.bool xc.six, .int .u64 xc.hi, .int .u64 xc.lo, .int .i64 x.pf.bits] 48 (0, 0)))
        have BNA := Lib.hid ((hbel.block _ (lt_of_block BN.out)).trans BN.out)
        have B65 := Lib.hid ((hbel.block _ (lt_of_block B64.out)).trans B64.out)
        have HPL5 := Lib.hid (HPL4.out.below hbel)
        have HG5 := Lib.hid (HG4.out.andThen (grownB hbel (some g6)) (fun _ h => .inr h))
        clear hch hb1 hS4 hf1 hf2 hf3 hxc hS1 hS2 hS3 hbel y0 y1 y2 y3 y4 z0 z1 z2 z3 z4 z5
        go_upto_region 11 with (fail)
        generalize World.alloc W9 _ = W10 at BC BNA B65 HPL5 HG5 ⊢
        generalize W9.heap.size = nc at BC ⊢
        obtain ⟨⟨y0, y1, y2, y3, y4⟩, -⟩ := res5 BNA.out
        obtain ⟨⟨t0, t1, t2, t3⟩, -⟩ := res4 BC.out
        obtain ⟨⟨z0, z1, z2, z3, z4, z5⟩, m0, m1, m2, m3, m4, m5⟩ := res6r B65.out
        have hle := leased_any Q x.key xc AKq ALq ckq clq W10 HPL5.out (by have := HFQ.out.n1; omega) (by have := HFQ.out.n2; omega)
        rw [hbi] at hle
        unfold plV at hle
        go_wp2_with fail
        refine hle.mono ?_
        rintro e W11 ⟨AK3, AL3, ck3, cl3, rfl, hp3, hn3, hb11⟩
        unfold plV
        have BN9 := Lib.hid ((hb11.block _ (lt_of_block B65.out)).trans B65.out)
        have HG6 := Lib.hid (HG5.out.andThen (grownB hb11 (some g6)) (fun _ h => .inr h))
        have HP3 := Lib.hid hp3
        have hlt10 := lt_of_block B65.out
        have HN3 : Hid (RowOff AK3 g6 (w.heap.size + 1) ∧ RowOff AL3 g6 (w.heap.size + 1)) := Lib.hid ⟨fun a ha => ⟨fun e => by injection e with e; have := hn3.1 a ha; omega, by have := hn3.1 a ha; omega⟩, fun a ha => ⟨fun e => by injection e with e; have := hn3.2 a ha; omega, by have := hn3.2 a ha; omega⟩⟩
        have hmes : P.ls.length - (intOf (.int .i64 ((k : Int) + 1))).toNat < P.ls.length - (intOf (.int .i64 (k : Int))).toNat := by simp [intOf]; omega
        have HME := Lib.hid hmes
        have HLT := Lib.hid hlt
        clear hle hp3 hn3 hb11 y0 y1 y2 y3 y4 t0 t1 t2 t3 z0 z1 z2 z3 z4 z5 m0 m1 m2 m3 m4 m5 hmes
        obtain ⟨⟨z0, z1, z2, z3, z4, z5⟩, m0, m1, m2, m3, m4, m5⟩ := res6r BN9.out
        go_wp2_with fail
        clear z0 z1 z2 z3 z4 z5 m0 m1 m2 m3 m4 m5
        generalize hW : World.setCell _ _ _ = W12
        have hr := re6q BN9.out hW
        have hln : (isortL (leLt cmpK) (Q.ls ++ [(⟨x.key, xc⟩ : Le)])).length = Q.ls.length + 1 := by rw [isortL_length]; simp
        refine ⟨PkL.next (ck := ck3) (Q := ⟨Q.pf, Q.kept, isortL (leLt cmpK) (Q.ls ++ [⟨x.key, xc⟩])⟩) HLT.out HNXT.out (HP3.out.grown hr.grownR (fun a h => (HN3.out.1 a h).1) (fun a h => (HN3.out.2 a h).1)) HN3.out ?_ (HG6.out.andThen hr.grownR (fun _ h => .inr h)), HME.out⟩
        show W12.heap[g6]? = some (.cells #[_, _, _, _, _, .slice AL3 (isortL (leLt cmpK) (Q.ls ++ [(⟨x.key, xc⟩ : Le)])).length cl3] _ _)
        rw [hln]
        exact hr.blk
      · have hkl : k = P.ls.length := by omega
        subst hkl
        have hlst := HI.out
        rw [← HLN.out] at hlst
        have HLA2 := Lib.hid (hlst.last HF.out.ok HPE.out)
        have HPF := Lib.hid hlst.pf
        have BRw := Lib.hid ((hg.block _ (by omega) (fun e => by injection e with e; omega)).trans BR7.out)
        have HBW : Hid (Below w.heap.size w wr) := Lib.hid (HB7.out.grown hg HB7.out.size (fun j e => by injection e with e; omega))
        obtain ⟨⟨z0, z1, z2, z3, z4, z5⟩, -⟩ := res6r HB6.out
        obtain ⟨⟨r0, r1, r2, r3, r4, r5⟩, m0, m1, m2, m3, m4, m5⟩ := res6r BRw.out
        clear hlst hg hb6 hPl hP hne hfq
        go_wp2_with fail
        clear z0 z1 z2 z3 z4 z5 r0 r1 r2 r3 r4 r5 m0 m1 m2 m3 m4 m5
        generalize hW : World.setCell _ _ _ = W9
        have hr := re6q BRw.out hW
        have hfin : PackedIs w P (.returned (.tuple #[.agg #[.bool Q.pf.six, .int .u64 Q.pf.hi, .int .u64 Q.pf.lo, .int .i64 Q.pf.bits, .slice AKq Q.kept.length ckq, .slice ALq Q.ls.length clq], .int .i64 0])) W9 := ⟨Q, AKq, ALq, ckq, clq, by rw [← HPF.out]; rfl, HPL.out.grown hr.grownR (fun a h e => by have := (HNE.out.1 a h).2; injection e with e; omega) (fun a h e => by have := (HNE.out.2 a h).2; injection e with e; omega), HFQ.out, HPF.out, HLA2.out, hr.below HBW.out (by omega)⟩
        obtain ⟨⟨y0, y1, y2, y3, y4, y5⟩, -⟩ := res6r hr.blk
        refine bodyPost_ret (v := .tuple #[.agg #[.bool Q.pf.six, .int .u64 Q.pf.hi, .int .u64 Q.pf.lo, .int .i64 Q.pf.bits, .slice AKq Q.kept.length ckq, .slice ALq Q.ls.length clq], .int .i64 0]) (by simp [results, Tryz.results27, go_sem, y0, y1, y2, y3, y4, y5]) rfl hfin
    -- END R7
  -- END R6
end Go.Proofs.YtajifionclpphaaGreatDoor
