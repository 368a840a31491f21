/- Leases in the order of their keys: what the sort makes of them; addr.leased. -/
import Derived.Test.YtajifionclpphaaGreatDoorPoG
import Derived.Lib.Bytealg
import Derived.Test.YtajifionclpphaaGreatDoorSwD
namespace Go.Proofs.YtajifionclpphaaGreatDoor
open Go.RowKit Go.Hw
theorem insR_perm {α : Type} (lt : α → α → Bool) (x : α) (L : List α) : List.Perm (insR lt x L) (x :: L) := by
  induction L with
  | nil => exact List.Perm.refl _
  | cons y L ih =>
    unfold insR
    split
    · exact (List.Perm.cons y ih).trans (List.Perm.swap x y L)
    · exact List.Perm.refl _
theorem isortL_perm {α : Type} (lt : α → α → Bool) (L : List α) : List.Perm (isortL lt L) L := by
  have : ∀ n (L : List α), L.length = n → List.Perm (isortL lt L) L := by
    intro n
    induction n with
    | zero =>
      intro L hL
      obtain rfl : L = [] := List.eq_nil_of_length_eq_zero hL
      exact List.Perm.refl _
    | succ n ih =>
      intro L hL
      obtain ⟨M, x, rfl⟩ : ∃ M x, L = M ++ [x] := ⟨L.dropLast, L.getLast (by intro h; simp [h] at hL), (List.dropLast_concat_getLast _).symm⟩
      rw [isortL_snoc]
      refine (List.reverse_perm _).trans ((insR_perm lt x _).trans ?_)
      refine (List.Perm.cons x ((List.reverse_perm _).trans (ih M (by simpa using hL)))).trans ?_
      exact (List.perm_append_singleton x M).symm
  exact this _ L rfl
theorem compare_lt : ∀ a b : List UInt8, Lib.compareBytes a b < 0 ↔ a < b
  | [], [] => by simp [Lib.compareBytes]
  | [], _ :: _ => by simp [Lib.compareBytes]
  | _ :: _, [] => by simp [Lib.compareBytes]
  | x :: a, y :: b => by
    rw [Lib.compareBytes, List.cons_lt_cons_iff]
    by_cases h1 : x < y
    · rw [if_pos h1]; simp [h1]
    · rw [if_neg h1]
      by_cases h2 : y < x
      · rw [if_pos h2]
        have : x ≠ y := fun e => by rw [e] at h2; exact absurd h2 (UInt8.lt_irrefl _)
        simp [h1, this]
      · rw [if_neg h2, compare_lt a b]
        have : x = y := UInt8.le_antisymm (UInt8.not_lt.1 h2) (UInt8.not_lt.1 h1)
        simp [this, UInt8.lt_irrefl]
/-- How leases are compared. -/
def cmpK (x y : Le) : Int := Lib.compareBytes x.key y.key
theorem sort_keys {L : List Le} (hnd : L.Pairwise (fun x y => x.key ≠ y.key)) : (isortL (leLt cmpK) L).Perm L ∧ (isortL (leLt cmpK) L).Pairwise (fun x y => x.key < y.key) := by
  have hlt : ∀ x y : Le, leLt cmpK x y = true ↔ x.key < y.key := fun x y => by
    unfold leLt cmpK
    rw [decide_eq_true_eq, compare_lt]
  have hp := isortL_perm (leLt cmpK) L
  refine ⟨hp, ?_⟩
  have hs := isortL_sorted (lt := leLt cmpK) (fun x y h => by
    rw [Bool.eq_false_iff]
    exact fun h2 => List.lt_asymm ((hlt x y).1 h) ((hlt y x).1 h2)) (fun x y z h1 h2 => by
    rw [Bool.eq_false_iff] at *
    intro h3
    have a1 : y.key ≤ x.key := List.not_lt.1 fun h => h1 ((hlt x y).2 h)
    have a2 : z.key ≤ y.key := List.not_lt.1 fun h => h2 ((hlt y z).2 h)
    exact absurd ((hlt x z).1 h3) (List.not_lt.2 (List.le_trans a2 a1))) L
  have hn := (hp.pairwise_iff (R := fun x y : Le => x.key ≠ y.key) (fun h => fun e => h e.symm)).2 hnd
  refine (List.Pairwise.and hs hn).imp ?_
  rintro x y ⟨h1, h2⟩
  exact key_lt (a := y.key) (b := x.key) (fun h => by rw [(hlt y x).2 h] at h1; cases h1) (fun e => h2 e.symm)
theorem entersL1 : ∀ args w, (callFunc 123 args).run Tryz.prog w = .ok (.enter 123 args) w := enters_of Tryz.func123 (by kernel_rfl) rfl
set_option maxRecDepth 100000 in
set_option maxHeartbeats 1000000 in
theorem leased1_any (x y : Le) (w : World) : Calls Tryz.prog 123 #[.agg #[.string ⟨x.key.toArray⟩, .bool x.pf.six, .int .u64 x.pf.hi, .int .u64 x.pf.lo, .int .i64 x.pf.bits], .agg #[.string ⟨y.key.toArray⟩, .bool y.pf.six, .int .u64 y.pf.hi, .int .u64 y.pf.lo, .int .i64 y.pf.bits]] w fun e w' => e = .returned (.int .i64 (cmpK x y)) ∧ Below w.heap.size w w' := by
  have HB : Hid (Below w.heap.size w ((w.alloc (.cells #[.string ⟨x.key.toArray⟩, .bool x.pf.six, .int .u64 x.pf.hi, .int .u64 x.pf.lo, .int .i64 x.pf.bits] 67 (0, 0))).alloc (.cells #[.string ⟨y.key.toArray⟩, .bool y.pf.six, .int .u64 y.pf.hi, .int .u64 y.pf.lo, .int .i64 y.pf.bits] 67 (0, 0)))) := Lib.hid (((Below.refl _ _).alloc (Nat.le_refl _) _).alloc (by simp) _)
  go_enter Tryz.func123, Tryz.ntmps123
  go_wp2_with fail
  refine (Tryz.strings_Compare ⟨x.key.toArray⟩ ⟨y.key.toArray⟩ _).mono ?_
  rintro e w1 ⟨rfl, rfl⟩
  go_wp2_with fail
  go_ret
  exact ⟨rfl, HB.out⟩
theorem wp_region_vs {P : Program} {ops : Array Oper} {Q : Exit → Act → World → Prop} {id : Nat} (n : Nat) {w : World} (A : (Nat → Value) → Act) (l : List (World → Value → Prop)) (W : World) (f0 : Nat → Value) (K : Nat)
    (hm : P.follows .mixedOrders = true) (hok : regOkF ops n K = true) (kept : ∀ p ∈ l, KeptV p)
    (step : ∀ (i : Nat) (o : Oper), i < n → ops[i]? = some o → ∀ (f : Nat → Value) (w : World), Hid (Below W.heap.size W w) → (∀ e ∈ o.after, Region.binds .any e = true → VO l e.on w (f e.on)) →
      OpStep P ops Q o (A f) w (fun a' w' => ∃ v, a' = A (upd f i v) ∧ VO l i w' v ∧ Below w.heap.size w w'))
    (last : ∀ (o : Oper), ops[n]? = some o → ∀ (f : Nat → Value) (w : World), Hid (Below W.heap.size W w) → (∀ j, j < n → VO l j w (f j)) → Region.wanted o (yielded ops (A f).tmps) = true ∧ o.wp P (A f) w (fun a' w' => Q .normal a' w') Q)
    (h0 : W = w) : (Code.region id ops true).wp P Q (A f0) w := by
  subst h0
  refine wp_region_free n A (VO l) (fun _ w' => Hid (Below W.heap.size W w')) (fun w w' => Below w.heap.size w w') f0 K hm hok (fun i w w' v h hb => VO.kept kept i w w' v h hb) ?_ ?_ (Lib.hid (Below.refl _ _).drew)
  · intro i o hi ho f w' k _ hG hd
    exact OpStep.mono (fun a' w2 ⟨v, e1, e2, e3⟩ => ⟨v, e1, e2, Lib.hid (hG.out.trans (e3.mono hG.out.size)), e3⟩) (step i o hi ho f w' hG hd)
  · intro o ho f w' k _ hG hd
    exact last o ho f w' hG hd
theorem le_own {w : World} {base : Nat} {v : Value} {R : List Le} (h : leOwn w base v R) : ∃ A cap, v = .slice A R.length cap ∧ leAt w A R ∧ (A = none → R = [] ∧ cap = 0) := by
  obtain ⟨A, cap, rfl, ha⟩ := rw_at (d := noLe) leC_len h
  refine ⟨A, cap, rfl, ha, fun hn => ?_⟩
  subst hn
  rcases h.2 with ⟨e, h⟩ | ⟨g, cp, cur, e, _⟩
  · injection e with _ _ e3
    exact ⟨List.length_eq_zero_iff.1 h, e3⟩
  · cases e
theorem re6q {W W2 : World} {R : Nat} {a0 a1 a2 a3 a4 a5 v0 v1 v2 v3 v4 v5 : Value} {T : TypeId} (hz : W.heap[R]? = some (.cells #[a0, a1, a2, a3, a4, a5] T (0, 0))) (h : ((((((W.setCell ⟨R, 0, none⟩ v0).setCell ⟨R, 1, none⟩ v1).setCell ⟨R, 2, none⟩ v2).setCell ⟨R, 3, none⟩ v3).setCell ⟨R, 4, none⟩ v4).setCell ⟨R, 5, none⟩ v5) = W2) : Re W W2 R #[v0, v1, v2, v3, v4, v5] T := by
  have := ((((((Re.refl hz).set 0 v0).set 1 v1).set 2 v2).set 3 v3).set 4 v4).set 5 v5
  rw [h] at this
  simpa using this
theorem own_neT {w : World} {base : Nat} {e T : TypeId} {size : Nat} {v : Value} {n : Nat} {xs : List Value} {cs : Array Value} {g : Nat} (h : w.ownsRow base e size v n xs) (hg : w.heap[g]? = some (.cells cs T (0, 0))) (hT : T ≠ e) : v.ownBlock ≠ some g := by
  rcases h.2 with ⟨rfl, _⟩ | ⟨g', cap, cur, rfl, _, h5, _⟩
  · intro h; cases h
  · intro h
    injection h with h
    have h' : g' = g := h
    rw [h', hg] at h5
    injection h5 with h5
    injection h5 with _ h6
    exact hT h6
theorem own_none {w : World} {base : Nat} {e : TypeId} {size m cap n : Nat} {xs : List Value} (h : w.ownsRow base e size (.slice none m cap) n xs) : n = 0 := by
  rcases h.2 with ⟨_, h⟩ | ⟨g', cp, cur, h', _⟩
  · exact h
  · cases h'
theorem own_cap {w : World} {base : Nat} {e : TypeId} {size cap n : Nat} {A : Option Addr} {xs : List Value} (h : w.ownsRow base e size (.slice A n cap) n xs) : n ≤ cap := by
  rcases h.2 with ⟨_, h⟩ | ⟨g', cp, cur, h', _, _, h6, _⟩
  · omega
  · injection h' with _ _ e3
    omega
theorem own_two {w : World} {b1 b2 : Nat} {e1 e2 : TypeId} {s1 s2 : Nat} {v1 v2 : Value} {n1 n2 : Nat} {xs ys : List Value} (h : w.ownsRow b1 e1 s1 v1 n1 xs) (k : w.ownsRow b2 e2 s2 v2 n2 ys) (hT : e1 ≠ e2) : ∀ g, v1.ownBlock = some g → v2.ownBlock ≠ some g := by
  intro g hg hg2
  rcases h.2 with ⟨rfl, _⟩ | ⟨g', cap, cur, rfl, _, h5, _⟩
  · cases hg
  · injection hg with hg
    have h' : g' = g := hg
    rw [h'] at h5
    exact own_neT k h5 hT hg2
/-- An own row of prefixes, of leases; a pool over own rows. -/
def VOp (base : Nat) (L : List Pf) : World → Value → Prop := fun w v => pxOwn w base v L
def VOl (base : Nat) (L : List Le) : World → Value → Prop := fun w v => leOwn w base v L
def VPl (base : Nat) (P : Pl) : World → Value → Prop := fun w v => ∃ K L, v = plV P.pf K L ∧ pxOwn w base K P.kept ∧ leOwn w base L P.ls
theorem VOp.kept (base : Nat) (L : List Pf) : KeptV (VOp base L) := fun _ _ _ h hb => rw_same h fun k hk => hb.block k (h.lt k hk).2
theorem VOl.kept (base : Nat) (L : List Le) : KeptV (VOl base L) := fun _ _ _ h hb => rw_same h fun k hk => hb.block k (h.lt k hk).2
theorem VPl.kept (base : Nat) (P : Pl) : KeptV (VPl base P) := fun _ _ _ ⟨K, L, h1, h2, h3⟩ hb => ⟨K, L, h1, VOp.kept base _ _ _ _ h2 hb, VOl.kept base _ _ _ _ h3 hb⟩
/-- What a pool with another lease is. -/
def LeasedIs (w : World) (P : Pl) (key : List UInt8) (x : Pf) (e : Ending) (w' : World) : Prop :=
  ∃ AK AL ck cl, e = .returned (plV P.pf (.slice AK P.kept.length ck) (.slice AL (P.ls.length + 1) cl)) ∧ PlAt w' ⟨P.pf, P.kept, isortL (leLt cmpK) (P.ls ++ [⟨key, x⟩])⟩ AK AL cl ∧ ((∀ a, AK = some a → w.heap.size ≤ a.block) ∧ ∀ a, AL = some a → w.heap.size ≤ a.block) ∧ Below w.heap.size w w'
set_option maxRecDepth 100000 in
set_option maxHeartbeats 8000000 in
theorem leased_any (P : Pl) (key : List UInt8) (x : Pf) (AK AL : Option Addr) (ck cl : Nat) (w : World) (h : PlAt w P AK AL cl) (hn1 : P.kept.length ≤ 100) (hn2 : P.ls.length ≤ 10) :
    Calls Tryz.prog 71 #[plV P.pf (.slice AK P.kept.length ck) (.slice AL P.ls.length cl), .string ⟨key.toArray⟩, .agg #[.bool x.six, .int .u64 x.hi, .int .u64 x.lo, .int .i64 x.bits]] w (LeasedIs w P key x) := by
  obtain ⟨i0, hi0, hz0, hz1, hz2⟩ := info_parts le_info
  have b1 : Below w.heap.size w (((w.alloc (plBox P.pf (.slice AK P.kept.length ck) (.slice AL P.ls.length cl))).alloc (.cells #[.bool x.six, .int .u64 x.hi, .int .u64 x.lo, .int .i64 x.bits] 48 (0, 0))).alloc (.cells #[.bool false, .int .u64 0, .int .u64 0, .int .i64 0, .slice none 0 0, .slice none 0 0] 53 (0, 0))) := (((Below.refl _ _).alloc (Nat.le_refl _) _).alloc (by simp) _).alloc (by simp <;> omega) _
  have b0 : (((w.alloc (plBox P.pf (.slice AK P.kept.length ck) (.slice AL P.ls.length cl))).alloc (.cells #[.bool x.six, .int .u64 x.hi, .int .u64 x.lo, .int .i64 x.bits] 48 (0, 0))).alloc (.cells #[.bool false, .int .u64 0, .int .u64 0, .int .i64 0, .slice none 0 0, .slice none 0 0] 53 (0, 0))).heap[w.heap.size]? = some (plBox P.pf (.slice AK P.kept.length ck) (.slice AL P.ls.length cl)) := (heap_alloc_old _ _ (by simp <;> omega)).trans ((heap_alloc_old _ _ (by simp)).trans (heap_alloc_new w _))
  have b2 : (((w.alloc (plBox P.pf (.slice AK P.kept.length ck) (.slice AL P.ls.length cl))).alloc (.cells #[.bool x.six, .int .u64 x.hi, .int .u64 x.lo, .int .i64 x.bits] 48 (0, 0))).alloc (.cells #[.bool false, .int .u64 0, .int .u64 0, .int .i64 0, .slice none 0 0, .slice none 0 0] 53 (0, 0))).heap[w.heap.size + 1]? = some (.cells #[.bool x.six, .int .u64 x.hi, .int .u64 x.lo, .int .i64 x.bits] 48 (0, 0)) := (heap_alloc_old _ _ (by simp)).trans (by
    have := heap_alloc_new (w.alloc (plBox P.pf (.slice AK P.kept.length ck) (.slice AL P.ls.length cl))) (.cells #[.bool x.six, .int .u64 x.hi, .int .u64 x.lo, .int .i64 x.bits] 48 (0, 0))
    simp only [Re_size] at this
    exact this)
  have b3 : (((w.alloc (plBox P.pf (.slice AK P.kept.length ck) (.slice AL P.ls.length cl))).alloc (.cells #[.bool x.six, .int .u64 x.hi, .int .u64 x.lo, .int .i64 x.bits] 48 (0, 0))).alloc (.cells #[.bool false, .int .u64 0, .int .u64 0, .int .i64 0, .slice none 0 0, .slice none 0 0] 53 (0, 0))).heap[w.heap.size + 2]? = some (.cells #[.bool false, .int .u64 0, .int .u64 0, .int .i64 0, .slice none 0 0, .slice none 0 0] 53 (0, 0)) := by
    have := heap_alloc_new ((w.alloc (plBox P.pf (.slice AK P.kept.length ck) (.slice AL P.ls.length cl))).alloc (.cells #[.bool x.six, .int .u64 x.hi, .int .u64 x.lo, .int .i64 x.bits] 48 (0, 0))) (.cells #[.bool false, .int .u64 0, .int .u64 0, .int .i64 0, .slice none 0 0, .slice none 0 0] 53 (0, 0))
    simp only [Re_size] at this
    exact this
  have HB := Lib.hid b1
  have H0 := Lib.hid (h.below b1)
  clear h b1
  unfold plV
  unfold plBox at b0 b2 b3 HB H0
  go_enter Tryz.func71, Tryz.ntmps71
  go_upto_region 1 with (fail)
  generalize World.alloc (World.alloc (World.alloc w _) _) _ = W at b0 b2 b3 HB H0 ⊢
  have BX := Lib.hid b0
  have BP := Lib.hid b2
  have BR := Lib.hid b3
  have hbx := lt_of_block b0
  have HS0 := Lib.hid HB.out.size
  obtain ⟨⟨x0, x1, x2, x3, x4, x5⟩, -⟩ := res6r b0
  clear b0 b2 b3
  -- R1
  refine wp_region_vs 10 (fun f' => ⟨#[.agg #[Value.bool P.pf.six, Value.int IntKind.u64 P.pf.hi, Value.int IntKind.u64 P.pf.lo, Value.int IntKind.i64 P.pf.bits, Value.slice AK P.kept.length ck, Value.slice AL P.ls.length cl], .string { data := key.toArray }, .agg #[Value.bool x.six, Value.int IntKind.u64 x.hi, Value.int IntKind.u64 x.lo, Value.int IntKind.i64 x.bits], .pointer (some ⟨w.heap.size, 0, none⟩), undef, .pointer (some ⟨w.heap.size + 1, 0, none⟩), .pointer (some ⟨w.heap.size + 1 + 1, 0, none⟩), f' 9, f' 0, f' 1, f' 2, f' 3, f' 4, f' 5, f' 6, f' 7, f' 8, undef, undef, undef, undef, undef, undef, undef, undef, undef, undef, undef, undef], []⟩) [VE (.pointer (some ⟨w.heap.size, 0, none⟩)), VE (.agg #[.bool P.pf.six, .int .u64 P.pf.hi, .int .u64 P.pf.lo, .int .i64 P.pf.bits]), VE (.pointer (some ⟨w.heap.size, 4, none⟩)), VE (.slice AK P.kept.length ck), VOp W.heap.size P.kept, VE (.pointer (some ⟨w.heap.size, 5, none⟩)), VE (.slice AL P.ls.length cl), VOl W.heap.size P.ls, VPl W.heap.size P, VN W #[.bool false, .int .u64 0, .int .u64 0, .int .i64 0, .slice none 0 0, .slice none 0 0] 53] W (fun _ => undef) 40 (show Tryz.prog.follows .mixedOrders = true from by kernel_rfl) (by kernel_rfl) ?_ ?_ ?_ rfl
  · intro p hp
    simp only [List.mem_cons, List.mem_nil_iff, or_false] at hp
    rcases hp with rfl | rfl | rfl | rfl | rfl | rfl | rfl | rfl | rfl | rfl <;> first | exact VE.kept _ | exact VN.kept _ _ _ | exact VOp.kept _ _ | exact VOl.kept _ _ | exact VPl.kept _ _
  · intro i9 op hi9 ho f' w' hS hd
    have hcase : i9 = 0 ∨ i9 = 1 ∨ i9 = 2 ∨ i9 = 3 ∨ i9 = 4 ∨ i9 = 5 ∨ i9 = 6 ∨ i9 = 7 ∨ i9 = 8 ∨ i9 = 9 := by omega
    rcases hcase with rfl | rfl | rfl | rfl | rfl | rfl | rfl | rfl | rfl | rfl <;> (replace ho := Option.some.inj ho; subst ho)
    · refine OpStep.of rfl ?_
      unfold Oper.wp
      go_simp
      exact ⟨_, (by simp [upd]), rfl, Below.refl _ _⟩
    · have e0 : f' 0 = .pointer (some ⟨w.heap.size, 0, none⟩) := hd ⟨0, .data⟩ (by simp) rfl
      have x0' : w'.cell? ⟨w.heap.size, 0, none⟩ = some (.bool P.pf.six) := (hS.out.cell (p := ⟨w.heap.size, _, none⟩) hbx).trans x0
      have x1' : w'.cell? ⟨w.heap.size, 1, none⟩ = some (.int .u64 P.pf.hi) := (hS.out.cell (p := ⟨w.heap.size, _, none⟩) hbx).trans x1
      have x2' : w'.cell? ⟨w.heap.size, 2, none⟩ = some (.int .u64 P.pf.lo) := (hS.out.cell (p := ⟨w.heap.size, _, none⟩) hbx).trans x2
      have x3' : w'.cell? ⟨w.heap.size, 3, none⟩ = some (.int .i64 P.pf.bits) := (hS.out.cell (p := ⟨w.heap.size, _, none⟩) hbx).trans x3
      refine OpStep.of rfl ?_
      unfold Oper.wp
      go_simp
      exact ⟨_, (by simp [upd, e0]), rfl, Below.refl _ _⟩
    · refine OpStep.of rfl ?_
      unfold Oper.wp
      go_simp
      exact ⟨_, (by simp [upd]), rfl, Below.refl _ _⟩
    · have e2 : f' 2 = .pointer (some ⟨w.heap.size, 4, none⟩) := hd ⟨2, .data⟩ (by simp) rfl
      have x4' : w'.cell? ⟨w.heap.size, 4, none⟩ = some (.slice AK P.kept.length ck) := (hS.out.cell (p := ⟨w.heap.size, _, none⟩) hbx).trans x4
      refine OpStep.of rfl ?_
      unfold Oper.wp
      go_simp
      exact ⟨_, (by simp [upd, e2]), rfl, Below.refl _ _⟩
    · have e3 : f' 3 = .slice AK P.kept.length ck := hd ⟨3, .data⟩ (by simp) rfl
      refine OpStep.of rfl ?_
      unfold Oper.wp
      go_simp
      refine (px_clone AK ck P.kept w' (H0.out.below hS.out).kept H0.out.kept0 (by omega)).mono ?_
      rintro e w9 ⟨v9, rfl, ho9, hb9⟩
      exact ⟨_, (by simp [upd, e3]), own_base ho9 hS.out.size, hb9⟩
    · refine OpStep.of rfl ?_
      unfold Oper.wp
      go_simp
      exact ⟨_, (by simp [upd]), rfl, Below.refl _ _⟩
    · have e5 : f' 5 = .pointer (some ⟨w.heap.size, 5, none⟩) := hd ⟨5, .data⟩ (by simp) rfl
      have x5' : w'.cell? ⟨w.heap.size, 5, none⟩ = some (.slice AL P.ls.length cl) := (hS.out.cell (p := ⟨w.heap.size, _, none⟩) hbx).trans x5
      refine OpStep.of rfl ?_
      unfold Oper.wp
      go_simp
      exact ⟨_, (by simp [upd, e5]), rfl, Below.refl _ _⟩
    · have e6 : f' 6 = .slice AL P.ls.length cl := hd ⟨6, .data⟩ (by simp) rfl
      refine OpStep.of rfl ?_
      unfold Oper.wp
      go_simp
      refine (le_clone AL cl P.ls w' (H0.out.below hS.out).ls H0.out.ls0 (by omega)).mono ?_
      rintro e w9 ⟨v9, rfl, ho9, hb9⟩
      exact ⟨_, (by simp [upd, e6]), own_base ho9 hS.out.size, hb9⟩
    · have e1 : f' 1 = .agg #[.bool P.pf.six, .int .u64 P.pf.hi, .int .u64 P.pf.lo, .int .i64 P.pf.bits] := hd ⟨1, .data⟩ (by simp) rfl
      have H4 : Hid (pxOwn w' W.heap.size (f' 4) P.kept) := Lib.hid (hd ⟨4, .data⟩ (by simp) rfl)
      have H7 : Hid (leOwn w' W.heap.size (f' 7) P.ls) := Lib.hid (hd ⟨7, .data⟩ (by simp) rfl)
      obtain ⟨A4, c4, e4, -⟩ := px_own H4.out
      obtain ⟨A7, c7, e7, -⟩ := le_own H7.out
      refine OpStep.of rfl ?_
      unfold Oper.wp
      go_simp
      exact ⟨plV P.pf (.slice A4 P.kept.length c4) (.slice A7 P.ls.length c7), (by simp [upd, plV, e1, e4, e7]), ⟨.slice A4 P.kept.length c4, .slice A7 P.ls.length c7, rfl, by rw [← e4]; exact H4.out, by rw [← e7]; exact H7.out⟩, Below.refl _ _⟩
    · refine OpStep.of rfl ?_
      unfold Oper.wp
      go_simp
      exact ⟨_, (by simp [upd]), ⟨_, rfl, hS.out.size, heap_alloc_new _ _⟩, (Below.refl _ _).alloc (Nat.le_refl _) _⟩
  · intro op ho f' w' hS hd
    obtain ⟨g9, e9, hn9, hg9⟩ : VN W #[.bool false, .int .u64 0, .int .u64 0, .int .i64 0, .slice none 0 0, .slice none 0 0] 53 w' (f' 9) := hd 9 (by omega)
    obtain ⟨K8, L8, e8, hk8, hl8⟩ : VPl W.heap.size P w' (f' 8) := hd 8 (by omega)
    obtain ⟨AK2, ck2, rfl, -⟩ := px_own hk8
    obtain ⟨AL2, cl2, rfl, -⟩ := le_own hl8
    unfold plV at e8
    have HK8 := Lib.hid hk8
    have HL8 := Lib.hid hl8
    have HG9 := Lib.hid hg9
    have HX := Lib.hid (HB.out.trans (hS.out.mono HB.out.size))
    have HW := Lib.hid hS.out.size
    have BP2 := Lib.hid ((hS.out.block _ (lt_of_block BP.out)).trans BP.out)
    have BR2 := Lib.hid ((hS.out.block _ (lt_of_block BR.out)).trans BR.out)
    obtain ⟨⟨z0, z1, z2, z3, z4, z5⟩, m0, m1, m2, m3, m4, m5⟩ := res6r hg9
    clear hd hk8 hl8 hg9
    replace ho := Option.some.inj ho
    subst ho
    refine ⟨rfl, ?_⟩
    unfold Oper.wp
    go_simp
    -- R2
    clear z0 z1 z2 z3 z4 z5 m0 m1 m2 m3 m4 m5
    generalize hW2 : World.setCell _ _ _ = W2
    have hr := re6q HG9.out hW2
    have HG2 := Lib.hid hr.blk
    have HK2 : Hid (pxOwn W2 W.heap.size (.slice AK2 P.kept.length ck2) P.kept) := Lib.hid (rw_same HK8.out fun k hk => hr.oth k fun e => own_neT HK8.out HG9.out (by decide) (by rw [hk, e]))
    have HL2 : Hid (leOwn W2 W.heap.size (.slice AL2 P.ls.length cl2) P.ls) := Lib.hid (rw_same HL8.out fun k hk => hr.oth k fun e => own_neT HL8.out HG9.out (by decide) (by rw [hk, e]))
    have hs1 := HS0.out
    have hbp := lt_of_block BP.out
    have hbr := lt_of_block BR.out
    have BP3 := Lib.hid ((hr.oth _ (by omega)).trans BP2.out)
    have BR3 := Lib.hid ((hr.oth _ (by omega)).trans BR2.out)
    have HB2 : Hid (Below w.heap.size w W2) := Lib.hid (hr.below HX.out (by omega))
    have hw2 : W.heap.size ≤ W2.heap.size := by rw [hr.size]; exact HW.out
    have hg9 := lt_of_block HG2.out
    have HN9 := Lib.hid hn9
    clear hr hW2 HG9 HK8 HL8 BP2 BR2 HX HW hS x0 x1 x2 x3 x4 x5
    obtain ⟨⟨z0, z1, z2, z3, z4, z5⟩, m0, m1, m2, m3, m4, m5⟩ := res6r HG2.out
    obtain ⟨⟨p0, p1, p2, p3⟩, -⟩ := res4 BP3.out
    go_wp2_with (at_builtin; refine wpList_append_own _ rfl (.tmp 18) (.tmp 22) 51 rfl W.heap.size 67 i0 (.agg #[.string ⟨#[]⟩, .bool false, .int .u64 0, .int .u64 0, .int .i64 0]) 5 48 Tryz.underlying51 hi0 hz0 hz1 hz2 rfl (by decide) _ _ _ rfl (World.ownsRow.alloc HL2.out _) ⟨W2.heap.size, 0, none⟩ 1 1 (leC ⟨key, x⟩) rfl rfl (cells_blk (heap_alloc_new W2 (.cells #[.string ⟨key.toArray⟩, .bool x.six, .int .u64 x.hi, .int .u64 x.lo, .int .i64 x.bits] 67 (0, 0)))) (leC_one ⟨key, x⟩) (by unfold maxLen; omega) (by omega) (by first | omega | (simp; omega)) ?_)
    intro v' w5 ho5 hg5 _
    have hap : ∀ k, (Value.slice AK2 P.kept.length ck2).ownBlock = some k → some k ≠ (Value.slice AL2 P.ls.length cl2).ownBlock := fun k hk e => own_two HK2.out HL2.out (by decide) k hk e.symm
    have hlk : ∀ k, (Value.slice AK2 P.kept.length ck2).ownBlock = some k → k < W2.heap.size := fun k hk => (HK2.out.lt k hk).2
    have HK5 : Hid (pxOwn w5 W.heap.size (.slice AK2 P.kept.length ck2) P.kept) := Lib.hid (rw_same HK2.out fun k hk => (hg5.block k (by have := hlk k hk; simp; omega) (hap k hk)).trans (heap_alloc_old _ _ (hlk k hk)))
    have hne9 : some g9 ≠ (Value.slice AL2 P.ls.length cl2).ownBlock := fun e => own_neT HL2.out HG2.out (by decide) e.symm
    have HG5 := Lib.hid ((hg5.block g9 (by simp; omega) hne9).trans ((heap_alloc_old _ _ hg9).trans HG2.out))
    have hlo : ∀ j, (Value.slice AL2 P.ls.length cl2).ownBlock = some j → W.heap.size ≤ j := fun j hj => (HL2.out.lt j hj).1
    have BR5 := Lib.hid ((hg5.block (w.heap.size + 2) (by simp; omega) (fun e => by have := hlo _ e.symm; omega)).trans ((heap_alloc_old _ _ (by omega)).trans BR3.out))
    have HO5 : Hid (leOwn w5 W.heap.size v' (P.ls ++ [⟨key, x⟩])) := Lib.hid (own_asT ho5 (by simp) (by simp [rwC]))
    have HB5 : Hid (Below w.heap.size w w5) := Lib.hid ((HB2.out.alloc HB2.out.size _).grown hg5 (HB2.out.alloc HB2.out.size _).size (fun j hj => Nat.le_trans hs1 (hlo j hj)))
    have hw5 : W2.heap.size ≤ w5.heap.size := by have := hg5.size; simp at this; omega
    clear ho5 hg5 hap hlk hne9 hlo z0 z1 z2 z3 z4 z5 m0 m1 m2 m3 m4 m5 p0 p1 p2 p3 HK2 HL2 HG2 BP3 BR3 HB2
    obtain ⟨A5, c5, rfl, -⟩ := le_own HO5.out
    have hlen : (P.ls ++ [(⟨key, x⟩ : Le)]).length = P.ls.length + 1 := by simp
    have e5 : (Value.slice A5 (P.ls ++ [(⟨key, x⟩ : Le)]).length c5) = .slice A5 (P.ls.length + 1) c5 := by rw [hlen]
    have HO7 : Hid (leOwn w5 W.heap.size (.slice A5 (P.ls.length + 1) c5) (P.ls ++ [⟨key, x⟩])) := Lib.hid (e5 ▸ HO5.out)
    have HLEN := Lib.hid hlen
    clear hlen e5 HO5
    obtain ⟨⟨z0, z1, z2, z3, z4, z5⟩, m0, m1, m2, m3, m4, m5⟩ := res6r HG5.out
    go_wp2_with fail
    clear z0 z1 z2 z3 z4 z5 m0 m1 m2 m3 m4 m5
    generalize hW6 : World.setCell _ _ _ = W6
    have hr := (Re.refl HG5.out).set 5 (.slice A5 (P.ls.length + 1) c5)
    rw [hW6] at hr
    have HG6 := Lib.hid hr.blk
    have HK6 : Hid (pxOwn W6 W.heap.size (.slice AK2 P.kept.length ck2) P.kept) := Lib.hid (rw_same HK5.out fun k hk => hr.oth k fun e => own_neT HK5.out HG5.out (by decide) (by rw [hk, e]))
    have HO6 : Hid (leOwn W6 W.heap.size (.slice A5 (P.ls.length + 1) c5) (P.ls ++ [⟨key, x⟩])) := Lib.hid (rw_same HO7.out fun k hk => hr.oth k fun e => own_neT HO7.out HG5.out (by decide) (by rw [hk, e]))
    have hn9' := HN9.out
    have BR6 := Lib.hid ((hr.oth _ (by omega)).trans BR5.out)
    have HB6 : Hid (Below w.heap.size w W6) := Lib.hid (hr.below HB5.out (by omega))
    have hw6 : w5.heap.size ≤ W6.heap.size := by rw [hr.size]; omega
    have hg6 := lt_of_block HG6.out
    clear hr hW6 HG5 HK5 HO7 BR5 HB5
    simp only [List.setIfInBounds_toArray, List.set_cons_succ, List.set_cons_zero] at HG6
    have hso := le_sortFunc A5 c5 (P.ls ++ [⟨key, x⟩]) 123 #[] cmpK W6 entersL1 (by rw [HLEN.out]; exact own_base HO6.out (Nat.zero_le _)) (by rw [HLEN.out]; omega) (fun wr _ V y z _ _ _ => leased1_any y z V)
    rw [HLEN.out] at hso
    obtain ⟨⟨z0, z1, z2, z3, z4, z5⟩, -⟩ := res6r HG6.out
    go_wp2_with fail
    refine hso.mono ?_
    rintro e w7 ⟨rfl, hg7, ho7⟩
    have hls : (isortL (leLt cmpK) (P.ls ++ [(⟨key, x⟩ : Le)])).length = P.ls.length + 1 := by rw [isortL_length]; exact HLEN.out
    have HLS := Lib.hid hls
    rw [hls] at hg7
    have ho7' : leOwn w7 0 (.slice A5 (P.ls.length + 1) c5) (isortL (leLt cmpK) (P.ls ++ [⟨key, x⟩])) := by
      have e : (Value.slice A5 (isortL (leLt cmpK) (P.ls ++ [(⟨key, x⟩ : Le)])).length c5) = .slice A5 (P.ls.length + 1) c5 := by rw [hls]
      exact e ▸ ho7
    have HO7 := Lib.hid ho7'
    have HK7 : Hid (pxOwn w7 W.heap.size (.slice AK2 P.kept.length ck2) P.kept) := Lib.hid (rw_same HK6.out fun k hk => hg7.block k (HK6.out.lt k hk).2 (fun e => own_two HK6.out HO6.out (by decide) k hk e.symm))
    have HG7 := Lib.hid ((hg7.block g9 hg6 (fun e => own_neT HO6.out HG6.out (by decide) e.symm)).trans HG6.out)
    have hlo6 : ∀ j, (Value.slice A5 (P.ls.length + 1) c5).ownBlock = some j → W.heap.size ≤ j := fun j hj => (HO6.out.lt j hj).1
    have BR7 := Lib.hid ((hg7.block (w.heap.size + 2) (by omega) (fun e => by have := hlo6 _ e.symm; omega)).trans BR6.out)
    have HB7 : Hid (Below w.heap.size w w7) := Lib.hid (HB6.out.grown hg7 HB6.out.size (fun j hj => Nat.le_trans hs1 (hlo6 j hj)))
    have HLO := Lib.hid hlo6
    clear hso hg7 ho7 ho7' hls hlo6 z0 z1 z2 z3 z4 z5 HG6 HK6 HO6 BR6 HB6
    obtain ⟨⟨z0, z1, z2, z3, z4, z5⟩, -⟩ := res6r HG7.out
    obtain ⟨⟨r0, r1, r2, r3, r4, r5⟩, m0, m1, m2, m3, m4, m5⟩ := res6r BR7.out
    go_wp2_with fail
    clear z0 z1 z2 z3 z4 z5 r0 r1 r2 r3 r4 r5 m0 m1 m2 m3 m4 m5
    generalize hW8 : World.setCell _ _ _ = W8
    have hr := re6q BR7.out hW8
    have k1 : pxOwn W8 W.heap.size (.slice AK2 P.kept.length ck2) P.kept := rw_same HK7.out fun k hk => hr.oth k fun e => own_neT HK7.out BR7.out (by decide) (by rw [hk, e])
    have k2 : leOwn W8 0 (.slice A5 (isortL (leLt cmpK) (P.ls ++ [(⟨key, x⟩ : Le)])).length c5) (isortL (leLt cmpK) (P.ls ++ [⟨key, x⟩])) := by
      rw [HLS.out]
      exact rw_same HO7.out fun k hk => hr.oth k fun e => own_neT HO7.out BR7.out (by decide) (by rw [hk, e])
    have hfin : LeasedIs w P key x (.returned (plV P.pf (.slice AK2 P.kept.length ck2) (.slice A5 (P.ls.length + 1) c5))) W8 := ⟨AK2, A5, ck2, c5, rfl, ⟨rw_at' pxC_len k1, fun e => by subst e; exact List.length_eq_zero_iff.1 (own_none k1), rw_at' leC_len k2, fun e => by subst e; exact List.length_eq_zero_iff.1 (own_none k2), own_cap k2⟩, ⟨fun a ha => Nat.le_trans hs1 (k1.lt a.block (by rw [ha]; rfl)).1, fun a ha => Nat.le_trans hs1 (HLO.out a.block (by rw [ha]; rfl))⟩, hr.below HB7.out (by omega)⟩
    obtain ⟨⟨y0, y1, y2, y3, y4, y5⟩, -⟩ := res6r hr.blk
    refine bodyPost_ret (v := .agg #[.bool P.pf.six, .int .u64 P.pf.hi, .int .u64 P.pf.lo, .int .i64 P.pf.bits, .slice AK2 P.kept.length ck2, .slice A5 (P.ls.length + 1) c5]) (by simp [results, Tryz.results71, go_sem, y0, y1, y2, y3, y4, y5]) rfl hfin
    -- END R2
  -- END R1
end Go.Proofs.YtajifionclpphaaGreatDoor
