/- Caches: the object; closures; timeFault, nameFault; pass, Many, New. -/
import Derived.Test.YtedpjecbfcogcaaGreatDoorCaF
import Derived.Test.YtedpjecbfcogcaaGreatDoorCaK
namespace Go.Proofs.YtedpjecbfcogcaaGreatDoor
open Go.RowKit Go.Hw Go.Shelf

theorem run_eq_asking (d : Nat) (a b : ByteArray) (x y : Int) (w : World) : (Op.equalIn (d + 2) 63 (.agg #[.string a, .int .i64 x]) (.agg #[.string b, .int .i64 y])).run Tryz.prog w = .ok (a.toList == b.toList && x == y) w := by
  have u1 := Tryz.underlying9
  have u2 := Tryz.underlying3
  have hA : Tryz.prog.underlying 63 = some (.struct (Tryz.prog.fieldsOf 63)) := by kernel_rfl
  have pA : Tryz.prog.stoodInHeld 63 = false := by kernel_rfl
  rw [run_equalIn_agg w (d + 1) 63 _ _ hA pA]
  simp only [Program.fieldsOf, Tryz.underlying63]
  go_simp
  by_cases h1 : a.toList = b.toList <;> by_cases h2 : x = y <;> simp [h1, h2]
theorem guard_asking : Tryz.prog.eqGuardType Tryz.prog.depth 63 = false := by kernel_rfl

/-- Does an entry go? -/
def goesB (at_ : Int) (e : Kp) : Bool := decide (at_ - e.put ≥ e.life)
def sameB (n : ByteArray) (k : Int) (e : Kp) : Bool := e.name.toList == n.toList && e.kind == k
/-- Moments that are small. -/
def KpIn (L : List Kp) : Prop := ∀ e ∈ L, 0 ≤ e.put ∧ e.put ≤ 1000000

set_option maxRecDepth 100000 in
set_option maxHeartbeats 1000000 in
theorem passPredK (ba : Nat) (at_ : Int) (L : List Kp) (w : World) (ha : w.heap[ba]? = some (.cells #[.int .i64 at_] 3 (0, 0))) (h0 : 0 ≤ at_) (h1 : at_ ≤ 1000000) (hL : KpIn L) :
    kpPred 43 #[.pointer (some ⟨ba, 0, none⟩)] (goesB at_) L w := by
  intro W e he hb
  obtain ⟨hl0, hl1⟩ := hL e he
  obtain ⟨a0, -⟩ := res1 ((hb.block ba (lt_of_block ha)).trans ha)
  have hal := lt_of_block ((hb.block ba (lt_of_block ha)).trans ha)
  have hB : Below W.heap.size W (W.alloc (.cells #[.string e.name, .int .i64 e.kind, .int .i64 e.put, .int .i64 e.life, .int .i64 e.used, .slice e.lA e.recs.length e.lcap] 66)) := (Below.refl _ _).alloc (Nat.le_refl _) _
  have HB := Lib.hid hB
  have s0 : IntKind.i64.wrap (at_ - e.put) = at_ - e.put := IntWalk.i64_in _ (by omega)
  clear ha hL he hb hB
  show Calls Tryz.prog 43 #[.agg #[.string e.name, .int .i64 e.kind, .int .i64 e.put, .int .i64 e.life, .int .i64 e.used, .slice e.lA e.recs.length e.lcap], .pointer (some ⟨ba, 0, none⟩)] W _
  go_enter Tryz.func43, Tryz.ntmps43
  go_wp2_with fail
  go_ret
  exact ⟨rfl, HB.out⟩
set_option maxRecDepth 100000 in
set_option maxHeartbeats 1000000 in
theorem putPredK (ba : Nat) (n : ByteArray) (k : Int) (L : List Kp) (w : World) (ha : w.heap[ba]? = some (.cells #[.string n, .int .i64 k] 63 (0, 0))) :
    kpPred 22 #[.pointer (some ⟨ba, 0, none⟩)] (sameB n k) L w := by
  intro W e he hb
  obtain ⟨⟨a0, a1⟩, -⟩ := res2 ((hb.block ba (lt_of_block ha)).trans ha)
  have hal := lt_of_block ((hb.block ba (lt_of_block ha)).trans ha)
  have hB : Below W.heap.size W (W.alloc (.cells #[.string e.name, .int .i64 e.kind, .int .i64 e.put, .int .i64 e.life, .int .i64 e.used, .slice e.lA e.recs.length e.lcap] 66)) := (Below.refl _ _).alloc (Nat.le_refl _) _
  have HB := Lib.hid hB
  have hg := guard_asking
  have hrq := fun d W => run_eq_asking d e.name n e.kind k W
  clear ha he hb hB
  show Calls Tryz.prog 22 #[.agg #[.string e.name, .int .i64 e.kind, .int .i64 e.put, .int .i64 e.life, .int .i64 e.used, .slice e.lA e.recs.length e.lcap], .pointer (some ⟨ba, 0, none⟩)] W _
  go_enter Tryz.func22, Tryz.ntmps22
  go_wp2_with fail
  go_ret
  exact ⟨rfl, HB.out⟩
set_option maxRecDepth 100000 in
set_option maxHeartbeats 1000000 in
theorem getPredK (ba bb : Nat) (n : ByteArray) (k : Int) (L : List Kp) (w : World) (ha : w.heap[ba]? = some (.cells #[.string n] 9 (0, 0))) (hb' : w.heap[bb]? = some (.cells #[.int .i64 k] 3 (0, 0))) :
    kpPred 26 #[.pointer (some ⟨ba, 0, none⟩), .pointer (some ⟨bb, 0, none⟩)] (sameB n k) L w := by
  intro W e he hb
  obtain ⟨a0, -⟩ := res1 ((hb.block ba (lt_of_block ha)).trans ha)
  obtain ⟨a1, -⟩ := res1 ((hb.block bb (lt_of_block hb')).trans hb')
  have hal := lt_of_block ((hb.block ba (lt_of_block ha)).trans ha)
  have hbl := lt_of_block ((hb.block bb (lt_of_block hb')).trans hb')
  have hB : Below W.heap.size W (W.alloc (.cells #[.string e.name, .int .i64 e.kind, .int .i64 e.put, .int .i64 e.life, .int .i64 e.used, .slice e.lA e.recs.length e.lcap] 66)) := (Below.refl _ _).alloc (Nat.le_refl _) _
  have HB := Lib.hid hB
  have hg := guard_asking
  have hrq := fun d W => run_eq_asking d e.name n e.kind k W
  clear ha he hb hB hb'
  show Calls Tryz.prog 26 #[.agg #[.string e.name, .int .i64 e.kind, .int .i64 e.put, .int .i64 e.life, .int .i64 e.used, .slice e.lA e.recs.length e.lcap], .pointer (some ⟨ba, 0, none⟩), .pointer (some ⟨bb, 0, none⟩)] W _
  go_enter Tryz.func26, Tryz.ntmps26
  go_wp2_with fail
  go_ret
  exact ⟨rfl, HB.out⟩
theorem entersPass : ∀ args w, (callFunc 43 args).run Tryz.prog w = .ok (.enter 43 args) w := enters_of Tryz.func43 (by kernel_rfl) rfl
theorem entersPut : ∀ args w, (callFunc 22 args).run Tryz.prog w = .ok (.enter 22 args) w := enters_of Tryz.func22 (by kernel_rfl) rfl
theorem entersGet : ∀ args w, (callFunc 26 args).run Tryz.prog w = .ok (.enter 26 args) w := enters_of Tryz.func26 (by kernel_rfl) rfl

/-- A cache's object. -/
def caObj (most now calls : Int) (lv : Value) : Obj := .cells #[.int .i64 most, .int .i64 now, .int .i64 calls, lv] 56 (0, 0)
/-- Block of an address. -/
def aB (A : Option Addr) : Option Nat := A.map Addr.block
theorem own_aB (A : Option Addr) (n c : Nat) : (Value.slice A n c).ownBlock = aB A := by cases A <;> rfl
/-- A cache lies in memory. -/
structure CaAt (w : World) (T : Nat) (most now calls : Int) (A : Option Addr) (cap : Nat) (L : List Kp) : Prop where
  blk : w.heap[T]? = some (caObj most now calls (.slice A L.length cap))
  own : kpOwn w 0 (.slice A L.length cap) L
  ne : aB A ≠ some T
theorem CaAt.lt {w : World} {T : Nat} {most now calls : Int} {A : Option Addr} {cap : Nat} {L : List Kp} (h : CaAt w T most now calls A cap L) : T < w.heap.size := lt_of_block h.blk
theorem CaAt.ltA {w : World} {T : Nat} {most now calls : Int} {A : Option Addr} {cap : Nat} {L : List Kp} (h : CaAt w T most now calls A cap L) {k : Nat} (hk : aB A = some k) : k < w.heap.size := (h.own.lt k (by rw [own_aB]; exact hk)).2
theorem CaAt.keep {w w' : World} {T : Nat} {most now calls : Int} {A : Option Addr} {cap : Nat} {L : List Kp} (h : CaAt w T most now calls A cap L) (hT : w'.heap[T]? = w.heap[T]?) (hA : ∀ k, aB A = some k → w'.heap[k]? = w.heap[k]?) : CaAt w' T most now calls A cap L :=
  ⟨hT.trans h.blk, rw_same h.own fun k hk => hA k (by rw [own_aB] at hk; exact hk), h.ne⟩
theorem CaAt.below {w w' : World} {T : Nat} {most now calls : Int} {A : Option Addr} {cap : Nat} {L : List Kp} (h : CaAt w T most now calls A cap L) (hb : Below w.heap.size w w') : CaAt w' T most now calls A cap L :=
  h.keep (hb.block T h.lt) fun k hk => hb.block k (h.ltA hk)
theorem CaAt.kp {w : World} {T : Nat} {most now calls : Int} {A : Option Addr} {cap : Nat} {L : List Kp} (h : CaAt w T most now calls A cap L) : kpAt w A L := rw_at' kpC_len h.own
theorem ca_res {w : World} {T : Nat} {most now calls : Int} {lv : Value} (h : w.heap[T]? = some (caObj most now calls lv)) : (w.cell? ⟨T, 0, none⟩ = some (.int .i64 most) ∧ w.cell? ⟨T, 1, none⟩ = some (.int .i64 now) ∧ w.cell? ⟨T, 2, none⟩ = some (.int .i64 calls) ∧ w.cell? ⟨T, 3, none⟩ = some lv) ∧ w.frozen? ⟨T, 0, none⟩ = false ∧ w.frozen? ⟨T, 1, none⟩ = false ∧ w.frozen? ⟨T, 2, none⟩ = false ∧ w.frozen? ⟨T, 3, none⟩ = false := res4 h
theorem ca_set3 {w : World} {T : Nat} {most now calls : Int} {lv : Value} (h : w.heap[T]? = some (caObj most now calls lv)) (v : Value) : (w.setCell ⟨T, 3, none⟩ v).heap[T]? = some (caObj most now calls v) := by
  unfold caObj at h ⊢
  simpa using heap_set h 3 v
/-- The blocks that a cache may change. -/
def CaF (T : Nat) (A : Option Addr) (k : Nat) : Prop := k = T ∨ aB A = some k
theorem isMomentK (n : Int) (w : World) (h0 : 0 ≤ n) (h1 : n ≤ 1000000) :
    Calls Tryz.prog 44 #[.int .i64 n] w fun e w' => e = .returned (.bool true) ∧ w = w' := by
  have e : decide (n < 345686400) = true := by simp; omega
  go_enter Tryz.func44, Tryz.ntmps44
  go_wp2
  go_ret
  exact ⟨rfl, rfl⟩
theorem timeFaultK (T : Nat) (most now calls : Int) (lv : Value) (at_ : Int) (w : World) (h : w.heap[T]? = some (caObj most now calls lv)) (h0 : now ≤ at_) (h1 : 0 ≤ at_) (h2 : at_ ≤ 1000000) :
    Calls Tryz.prog 27 #[.pointer (some ⟨T, 0, none⟩), .int .i64 at_] w fun e w' => e = .returned (.int .i64 0) ∧ w = w' := by
  obtain ⟨⟨c0, c1, c2, c3⟩, -⟩ := ca_res h
  have hl := lt_of_block h
  have hd : decide (at_ < now) = false := by simp; omega
  go_enter Tryz.func27, Tryz.ntmps27
  go_wp2_with fail
  refine (isMomentK _ _ h1 h2).mono ?_
  rintro e w' ⟨rfl, rfl⟩
  go_wp2_with fail
  go_ret
  exact ⟨rfl, rfl⟩
/-- A name that is right. -/
structure NameOk (n : ByteArray) : Prop where
  size : n.size ≤ 253
  parts : ∀ x ∈ Lib.split n.data.toList [46], Plain x
theorem nameFaultK (T : Nat) (most now calls : Int) (lv : Value) (at_ m : Int) (n : ByteArray) (w : World) (h : w.heap[T]? = some (caObj most now calls lv)) (h0 : now ≤ at_) (h1 : 0 ≤ at_) (h2 : at_ ≤ 1000000) (hn : NameOk n)
    (hm : w.cell? ⟨2, 0, none⟩ = some (.int .i64 m)) :
    Calls Tryz.prog 18 #[.pointer (some ⟨T, 0, none⟩), .int .i64 at_, .string n, .int .i64 1] w fun e w' => e = .returned (.int .i64 0) ∧ Below w.heap.size w w' := by
  have ht := timeFaultK T most now calls lv at_ w h h0 h1 h2
  have hc := checkDomain_any n _ m w hm rfl hn.parts hn.size
  clear h hn hm
  go_enter Tryz.func18, Tryz.ntmps18
  go_wp2_with fail
  refine ht.mono ?_
  rintro e w' ⟨rfl, rfl⟩
  go_wp2_with fail
  refine hc.mono ?_
  rintro e w2 ⟨rfl, hb⟩
  go_wp2_with fail
  refine (isKind_any 1 w2).mono ?_
  rintro e w3 ⟨rfl, rfl⟩
  have hk : isKindB 1 = true := rfl
  rw [hk]
  go_wp2_with fail
  go_ret
  exact ⟨rfl, hb⟩

set_option maxRecDepth 100000 in
set_option maxHeartbeats 2000000 in
theorem passK (T : Nat) (most now calls : Int) (A : Option Addr) (cap : Nat) (L : List Kp) (at_ : Int) (w : World) (h : CaAt w T most now calls A cap L) (hl : L.length ≤ 1000) (h0 : 0 ≤ at_) (h1 : at_ ≤ 1000000) (hc0 : 0 ≤ calls) (hc1 : calls ≤ 1000000) (hL : KpIn L) :
    Calls Tryz.prog 20 #[.pointer (some ⟨T, 0, none⟩), .int .i64 at_] w
      fun e w' => e = .returned (.tuple #[]) ∧ CaAt w' T most at_ (calls + 1) A cap (L.filter (fun e => !goesB at_ e)) ∧ Rchg (CaF T A) w w' := by
  have H := Lib.hid h
  have hTl := h.lt
  have hb0 := h.blk
  obtain ⟨⟨c0, c1, c2, c3⟩, f0, f1, f2, f3⟩ := ca_res hb0
  have s0 : IntKind.i64.wrap (calls + 1) = calls + 1 := IntWalk.i64_in _ (by omega)
  have hne := h.ne
  have HL := Lib.hid hL
  clear h hL
  go_enter Tryz.func20, Tryz.ntmps20
  go_wp2_with fail
  generalize hW : World.alloc _ _ = W
  have e1 := heap_set (show w.heap[T]? = some (.cells _ _ _) from hb0) 1 (.int .i64 at_)
  have e2 := heap_set e1 2 (.int .i64 (calls + 1))
  have hsz : ((w.setCell ⟨T, 1, none⟩ (.int .i64 at_)).setCell ⟨T, 2, none⟩ (.int .i64 (calls + 1))).heap.size = w.heap.size := by simp
  have hT : W.heap[T]? = some (caObj most at_ (calls + 1) (.slice A L.length cap)) := by
    rw [← hW]
    exact (heap_alloc_old _ _ (by rw [hsz]; exact hTl)).trans e2
  have hB : W.heap[w.heap.size]? = some (.cells #[.int .i64 at_] 3 (0, 0)) := by
    rw [← hW]
    have := heap_alloc_new ((w.setCell ⟨T, 1, none⟩ (.int .i64 at_)).setCell ⟨T, 2, none⟩ (.int .i64 (calls + 1))) (.cells #[.int .i64 at_] 3 (0, 0))
    rw [hsz] at this
    exact this
  have hg : w.grownBy W (some T) := by
    rw [← hW]
    exact (rw_gset (rw_gset (World.grownBy.refl _ _) 1 _) 2 _).andThen (World.grownBy_alloc _ _ _) (fun _ h => .inr h)
  clear e1 e2 hsz
  have ho : kpOwn W 0 (.slice A L.length cap) L := rw_same H.out.own fun k hk => hg.block k (H.out.own.lt k hk).2 (fun c => hne (by rw [own_aB] at hk; rw [hk]; exact c))
  have hnB : (Value.slice A L.length cap).ownBlock ≠ some w.heap.size := fun e => by have := (H.out.own.lt _ e).2; omega
  have hnT : (Value.slice A L.length cap).ownBlock ≠ some T := by rw [own_aB]; exact hne
  have hdel := kp_del A cap L 43 #[.pointer (some ⟨w.heap.size, 0, none⟩)] (goesB at_) W entersPass ho (by omega)
    (fun wr hg2 => passPredK w.heap.size at_ L wr ((hg2.block _ (lt_of_block hB) (fun e => hnB e.symm)).trans hB) h0 h1 HL.out)
  have HT := Lib.hid hT
  have HG := Lib.hid hg
  have hWT := lt_of_block hT
  clear c0 c1 c2 c3 f0 f1 f2 f3
  obtain ⟨⟨c0, c1, c2, c3⟩, f0, f1, f2, f3⟩ := ca_res hT
  clear hb0 hT hg ho hB hnB hW
  go_wp2_with fail
  refine hdel.mono ?_
  rintro e W2 ⟨rfl, hg2, ho2⟩
  have hT2 : W2.heap[T]? = some (caObj most at_ (calls + 1) (.slice A L.length cap)) := (hg2.block T hWT (fun c => hnT c.symm)).trans HT.out
  have HG2 := Lib.hid hg2
  have HO2 := Lib.hid ho2
  clear c0 c1 c2 c3 f0 f1 f2 f3 hdel hg2 ho2
  obtain ⟨⟨c0, c1, c2, c3⟩, f0, f1, f2, f3⟩ := ca_res hT2
  have hlt2 := lt_of_block hT2
  go_wp2_with fail
  go_end0
  have hne2 : aB A ≠ some T := hne
  refine ⟨rfl, ⟨ca_set3 hT2 _, rw_same HO2.out fun k hk => Below.heap_setCell _ _ _ _ (fun c => hne2 (by rw [own_aB] at hk; rw [hk]; exact congrArg some c)), hne2⟩, ?_⟩
  refine Rchg.set ?_ (fun _ => .inl rfl) 3 _
  refine (Rchg.of_grown HG.out (fun k e _ => .inl (by injection e with e; exact e.symm))).trans (Rchg.of_grown (F := CaF T A) HG2.out (fun k e _ => .inr (by rw [own_aB] at e; exact e))) (fun _ _ h => h)

set_option maxRecDepth 100000 in
set_option maxHeartbeats 2000000 in
theorem manyK (T : Nat) (most now calls : Int) (A : Option Addr) (cap : Nat) (L : List Kp) (at_ : Int) (w : World) (h : CaAt w T most now calls A cap L) (hl : L.length ≤ 1000) (hnow : now ≤ at_) (h0 : 0 ≤ at_) (h1 : at_ ≤ 1000000) (hc0 : 0 ≤ calls) (hc1 : calls ≤ 1000000) (hL : KpIn L) :
    Calls Tryz.prog 13 #[.pointer (some ⟨T, 0, none⟩), .int .i64 at_] w
      fun e w' => e = .returned (.tuple #[.int .i64 (L.filter (fun e => !goesB at_ e)).length, .int .i64 0]) ∧ CaAt w' T most at_ (calls + 1) A cap (L.filter (fun e => !goesB at_ e)) ∧ Rchg (CaF T A) w w' := by
  have ht := timeFaultK T most now calls _ at_ w h.blk hnow h0 h1
  have hp := passK T most now calls A cap L at_ w h hl h0 h1 hc0 hc1 hL
  clear h hL
  go_enter Tryz.func13, Tryz.ntmps13
  go_wp2_with fail
  refine ht.mono ?_
  rintro e w' ⟨rfl, rfl⟩
  go_wp2_with fail
  refine hp.mono ?_
  rintro e W2 ⟨rfl, hca, hch⟩
  obtain ⟨⟨c0, c1, c2, c3⟩, -⟩ := ca_res hca.blk
  have hlt2 := hca.lt
  have HC := Lib.hid hca
  clear hca hp ht
  go_wp2_with fail
  go_ret2
  exact ⟨rfl, HC.out, hch⟩

theorem newK (most : Int) (w : World) (h1 : 1 ≤ most) (h2 : most ≤ 500) :
    Calls Tryz.prog 5 #[.int .i64 most] w fun e w' => e = .returned (.tuple #[.pointer (some ⟨w.heap.size, 0, none⟩), .int .i64 0]) ∧ w' = w.alloc (.cells #[.int .i64 most, .int .i64 0, .int .i64 0, .slice none 0 0] 56 (0, 0)) := by
  have d1 : decide (most < 1) = false := by simp; omega
  have d2 : decide (500 < most) = false := by simp; omega
  go_enter Tryz.func5, Tryz.ntmps5
  go_wp2_with fail
  refine (outside_any most 1 500 w).mono ?_
  rintro e w1 ⟨rfl, rfl⟩
  rw [d1, d2]
  go_wp2_with fail
  go_ret2
  exact ⟨rfl, rfl⟩
end Go.Proofs.YtedpjecbfcogcaaGreatDoor
