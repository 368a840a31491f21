/- Stream.Reports (printed by gen_rps.py). -/
import Derived.Test.YthjfnlbekbhmgaaGreatDoorRpQ
import Derived.Test.YthjfnlbekbhmgaaGreatDoorRpM
import Derived.Test.YthjfnlbekbhmgaaGreatDoorSome
namespace Go.Proofs.YthjfnlbekbhmgaaGreatDoor
open Go.RowKit Go.Hw

section
variable {w0 w : World} {b : Nat} {A : Option Addr} {cap : Nat} {l : List Int} {at_ m : Int} {bs : List Bk}
/-- Some of strings that lie in a block. -/
theorem DS.someB (h : DS w0 w b A cap l at_ m bs) (hm : at_ + m < 1099511627776) {g : Nat} (vs : List ByteArray) (hb : w.heap[g]? = some (.cells (vs.map Value.string).toArray 9 (0, 0))) (hgb : g ≠ b) (hv : vs ≠ []) (hl : vs.length ≤ 1000000) (n c : Nat) (hn : n = vs.length) :
    Calls Tryz.prog 21 #[.pointer (some ⟨b, 0, none⟩), .slice (some ⟨g, 0, none⟩) n c] w fun e w' => (∃ d, d ∈ vs ∧ e = .returned (.string d)) ∧ DS w0 w' b A cap l at_ (m + 1) bs ∧ w.grownBy w' (some b) := by
  have hp : 0 < vs.length := List.length_pos_iff.2 hv
  refine (h.call (Q := fun e w' => ∃ d, d ∈ vs ∧ e = .returned (.string d)) (k := 1) fun x _ hx hs => (some_any b A cap l x w hs (by omega) g vs hb hgb hv hl n c hn).mono fun e w' ⟨he, hs, hg⟩ => ⟨⟨_, getD_mem ?_, he⟩, strTo_one hs hg⟩)
  have := draw_low l x vs.length (by omega); have := draw_high l x vs.length (by omega); omega
theorem DS.sm {g : Nat} {cs : Array Value} (h : DS w0 w b A cap l at_ m bs) (hm : at_ + m < 1099511627776) (vs : List ByteArray) (hg : g = w.heap.size) (hc : cs = (vs.map Value.string).toArray) (hv : vs ≠ []) (hl : vs.length ≤ 1000000) (n c : Nat) (hn : n = vs.length) :
    Calls Tryz.prog 21 #[.pointer (some ⟨b, 0, none⟩), .slice (some ⟨g, 0, none⟩) n c] (w.alloc (.cells cs 9)) fun e w' => (∃ d, d ∈ vs ∧ e = .returned (.string d)) ∧ DS w0 w' b A cap l at_ (m + 1) bs ∧ w.grownBy w' (some b) := by
  subst hg
  subst hc
  have hn' := h.blt
  exact ((h.alo (.cells (vs.map Value.string).toArray 9)).someB hm vs (heap_alloc_new w _) (by omega) hv hl n c hn).mono fun e w' ⟨h1, h2, h3⟩ => ⟨h1, h2, grown_alloc_then h3⟩
end
/-- The flow of a round. -/
def RsF (w w' : World) (b : Nat) (A : Option Addr) (cap : Nat) (l : List Int) (at_ m : Int) (F : Nat) : Prop := ∃ f : Fl, FlT f ∧ DS w w' b A cap l at_ m [(F, flA f, 37)]
/-- A report and its flow. -/
def RsR (w w' : World) (b : Nat) (A : Option Addr) (cap : Nat) (l : List Int) (at_ m : Int) (R F : Nat) (f : Fl) : Prop := ∃ r : Rp, (RpT r ∧ r.f = f) ∧ DS w w' b A cap l at_ m [(R, rpA r, 39), (F, flA f, 37)]
/-- The reports so far, and the stream. -/
def RsI (w wr : World) (b : Nat) (A : Option Addr) (cap : Nat) (l : List Int) (at_ : Int) (k : Nat) (v5 : Value) : Prop :=
  ∃ (M : List Rp) (g : Option Addr) (pc : Nat) (x : Int), v5 = .slice g M.length pc ∧ M.length ≤ 2 * k ∧ (∀ r ∈ M, RpT r) ∧ (at_ ≤ x ∧ x ≤ at_ + 100 * k) ∧ Str wr b A cap l x ∧ w.grownBy wr (some b) ∧ rpOwn wr w.heap.size (.slice g M.length pc) M
def VStr (L : List ByteArray) : World → Value → Prop := fun _ v => ∃ t, t ∈ L ∧ v = .string t
theorem VStr.stab (b : Nat) (L : List ByteArray) : Stab b (VStr L) := fun _ _ _ h _ => h
def VFlip : World → Value → Prop := fun _ v => ∃ y : Bool, v = .bool y
theorem VFlip.stab (b : Nat) : Stab b VFlip := fun _ _ _ h _ => h
def RsP (f : Fl) (v : Value) : Prop := ∃ r : Rp, (RpT r ∧ r.f = f) ∧ v = .agg (rpA r)
theorem flH {W : World} {F : Nat} {T : TypeId} {f : Fl} (h : W.heap[F]? = some (.cells (flA f) T (0, 0))) :
    W.cell? ⟨F, 0, none⟩ = some (.int .i64 f.proto) ∧ W.cell? ⟨F, 1, none⟩ = some (.bool f.s6) ∧ W.cell? ⟨F, 2, none⟩ = some (.int .u64 f.sh) ∧ W.cell? ⟨F, 3, none⟩ = some (.int .u64 f.sl) ∧ W.cell? ⟨F, 4, none⟩ = some (.bool f.t6) ∧ W.cell? ⟨F, 5, none⟩ = some (.int .u64 f.th) ∧ W.cell? ⟨F, 6, none⟩ = some (.int .u64 f.tl) ∧ W.cell? ⟨F, 7, none⟩ = some (.int .i64 f.fp) ∧ W.cell? ⟨F, 8, none⟩ = some (.int .i64 f.tp) :=
  ⟨cell_of h 0, cell_of h 1, cell_of h 2, cell_of h 3, cell_of h 4, cell_of h 5, cell_of h 6, cell_of h 7, cell_of h 8⟩
theorem rs_name (i : Nat) (h1 : 1 ≤ i) (h4 : i ≤ 4) : ∃ t : ByteArray, t.size ≤ 1000 ∧ ∀ w : World, (w.alloc (.cells #[.string ⟨#[]⟩, .string ⟨#[110, 97]⟩, .string ⟨#[110, 98]⟩, .string ⟨#[110, 99]⟩, .string ⟨#[110, 100]⟩] 9)).cell? ⟨w.heap.size, i, none⟩ = some (.string t) := by
  have hc : i = 1 ∨ i = 2 ∨ i = 3 ∨ i = 4 := by omega
  rcases hc with rfl | rfl | rfl | rfl <;> exact ⟨_, by decide, fun w => cell_of (heap_alloc_new w _) _⟩
theorem u64_bd (n : Int) : 0 ≤ IntKind.u64.wrap n ∧ IntKind.u64.wrap n ≤ 18446744073709551615 := by
  simp only [IntKind.wrap, IntKind.bits, IntKind.signed]
  simp
  omega
/-- Behind an append to the row: the stream and what the world keeps. -/
theorem rs_app {w wr W3 W4 : World} {b : Nat} {A : Option Addr} {cap : Nat} {l : List Int} {x m : Int} {bs : List Bk} {g : Option Addr} {pc : Nat} {M : List Rp} {o : Obj} (hE : DS wr W3 b A cap l x m bs)
    (hg : (W3.alloc o).grownBy W4 (Value.slice g M.length pc).ownBlock) (ho : rpOwn wr w.heap.size (.slice g M.length pc) M) (hbw : b < w.heap.size) (hgr : w.grownBy W3 (some b)) :
    ∃ x', (x ≤ x' ∧ x' ≤ x + m) ∧ Str W4 b A cap l x' ∧ w.grownBy W4 (some b) := by
  obtain ⟨x', h1, h2, h3, -⟩ := hE.to
  exact ⟨x', ⟨h1, h2⟩, (h3.alloc o).grown hg (fun k e => Nat.lt_of_lt_of_le hbw (ho.lt k e).1), (hgr.andThen (World.grownBy_alloc _ _ (some b)) (fun _ h => .inr h)).andThen hg (fun k e => .inl (ho.lt k e).1)⟩
/-- A block made in the round stays behind an append to the row. -/
theorem rs_old {wr W3 W4 : World} {base : Nat} {g : Option Addr} {pc B : Nat} {M : List Rp} {o p : Obj} (hb : W3.heap[B]? = some p) (hg : (W3.alloc o).grownBy W4 (Value.slice g M.length pc).ownBlock) (ho : rpOwn wr base (.slice g M.length pc) M) (hB : wr.heap.size ≤ B) : W4.heap[B]? = some p :=
  (hg.block B (lt_of_block (old1 (a := o) hb)) (fun e => by have := (ho.lt B e.symm).2; omega)).trans (old1 hb)
/-- A round ends. -/
theorem rs_end {w W4 W5 : World} {b : Nat} {A : Option Addr} {cap : Nat} {l : List Int} {at_ x x4 m : Int} {bs : List Bk} {g : Option Addr} {pc k : Nat} {M : List Rp} (hD : DS W4 W5 b A cap l x4 m bs) (ho : rpOwn W4 w.heap.size (.slice g M.length pc) M) (hnb : ¬ (Value.slice g M.length pc).ownBlock = some b)
    (hM : ∀ q ∈ M, RpT q) (hl : M.length ≤ 2 * k + 1) (hx4 : x ≤ x4 ∧ x4 ≤ x + 40) (hx0 : at_ ≤ x) (hx1 : x ≤ at_ + 100 * k) (hg : w.grownBy W4 (some b)) (hm : m ≤ 20 := by omega) : RsI w W5 b A cap l at_ (k + 1) (.slice g M.length pc) := by
  obtain ⟨x', h1, h2, h3, h4⟩ := hD.to
  exact ⟨M, g, pc, x', rfl, by omega, hM, ⟨by omega, by omega⟩, h3, hg.andThen h4 (fun _ h => .inr h), ho.kept h4 (.inr hnb)⟩
theorem rs_end2 {w W4 W9 W12 : World} {b : Nat} {A : Option Addr} {cap : Nat} {l : List Int} {at_ x x4 m : Int} {bs : List Bk} {g : Option Addr} {pc k : Nat} {M : List Rp} {o : Obj} {v5 : Value} {r : Rp} (hD : DS W4 W9 b A cap l x4 m bs) (hg : (W9.alloc o).grownBy W12 (Value.slice g M.length pc).ownBlock)
    (ho : W12.ownsRow w.heap.size 39 14 v5 (M.length + 1) (rwC rpC M ++ rpC r)) (ho4 : rpOwn W4 w.heap.size (.slice g M.length pc) M) (hbw : b < w.heap.size) (hgr : w.grownBy W9 (some b)) (hM : ∀ q ∈ M, RpT q) (hr : RpT r) (hl : M.length ≤ 2 * k + 1)
    (hx4 : x ≤ x4 ∧ x4 ≤ x + 40) (hx0 : at_ ≤ x) (hx1 : x ≤ at_ + 100 * k) (hm : m ≤ 30 := by omega) : RsI w W12 b A cap l at_ (k + 1) v5 := by
  obtain ⟨x', ⟨h1, h2⟩, h3, h4⟩ := rs_app hD hg ho4 hbw hgr
  obtain ⟨g', pc', rfl, -, -⟩ := own_slice ho
  refine ⟨M ++ [r], g', pc', x', by simp, by simp; omega, fun q hq => (List.mem_append.1 hq).elim (hM q) (fun h => by rw [List.mem_singleton.1 h]; exact hr), ⟨by omega, by omega⟩, h3, h4, ?_⟩
  unfold rpOwn
  rw [show rwC rpC (M ++ [r]) = rwC rpC M ++ rpC r by simp [rwC], show (M ++ [r]).length = M.length + 1 by simp]
  exact ho
/-- The reports behind the rounds. -/
def RsE (w W : World) (b : Nat) (A : Option Addr) (cap : Nat) (l : List Int) (at_ m : Int) (g : Option Addr) (pc n : Nat) : Prop :=
  ∃ (M : List Rp) (x : Int), M.length = n ∧ (∀ r ∈ M, RpT r) ∧ (at_ ≤ x ∧ x ≤ at_ + m) ∧ Str W b A cap l x ∧ w.grownBy W (some b) ∧ rpOwn W w.heap.size (.slice g M.length pc) M
theorem rs_base {w : World} {base : Nat} {e : TypeId} {size : Nat} {v : Value} {n : Nat} {xs : List Value} (h : w.ownsRow 0 e size v n xs) (hb : ∀ k, v.ownBlock = some k → base ≤ k) : w.ownsRow base e size v n xs := by
  refine ⟨h.1, ?_⟩
  rcases h.2 with h1 | ⟨g, cap, cur, h1, h2, h3⟩
  · exact .inl h1
  · exact .inr ⟨g, cap, cur, h1, hb g (by rw [h1]; rfl), h3⟩
theorem RsE.next {w W W2 : World} {b : Nat} {A : Option Addr} {cap : Nat} {l : List Int} {at_ m : Int} {g : Option Addr} {pc n : Nat} {M2 : List Rp} (h : RsE w W b A cap l at_ m g pc n) (hbw : b < w.heap.size)
    (hs : rpSoA W g pc M2 W2) (hn : M2.length = n) (ht : ∀ r ∈ M2, RpT r) : RsE w W2 b A cap l at_ m g pc n := by
  obtain ⟨M, x, hm, -, hx, hst, hg, ho⟩ := h
  obtain ⟨hg2, ho2⟩ := hs
  have hob : ∀ k, (Value.slice g M2.length pc).ownBlock = some k → w.heap.size ≤ k := fun k e => (ho.lt k (by rw [hm, ← hn]; exact e)).1
  exact ⟨M2, x, hn, ht, hx, hst.grown hg2 (fun k e => Nat.lt_of_lt_of_le hbw (hob k e)), hg.andThen hg2 (fun k e => .inl (hob k e)), rs_base ho2 hob⟩
theorem RsE.next2 {w W W2 : World} {b : Nat} {A : Option Addr} {cap : Nat} {l : List Int} {at_ m : Int} {gb pc n : Nat} {L : List Rp} (h : RsE w W b A cap l at_ m (some ⟨gb, 0, none⟩) pc n) (hbw : b < w.heap.size)
    (hs : rpSo W gb pc L W2) (ht : ∀ r ∈ L, RpT r) (_ : L.length ≤ n) : RsE w W2 b A cap l at_ m (some ⟨gb, 0, none⟩) pc L.length := by
  obtain ⟨M, x, hm, -, hx, hst, hg, ho⟩ := h
  obtain ⟨hg2, ho2⟩ := hs
  have hgb : w.heap.size ≤ gb := (ho.lt gb rfl).1
  exact ⟨L, x, rfl, ht, hx, hst.grown hg2 (fun k e => by injection e with e; omega), hg.andThen hg2 (fun k e => .inl (by injection e with e; omega)), rs_base ho2 (fun k e => by have e' : gb = k := Option.some.inj e; omega)⟩
theorem RsE.step {w W W2 : World} {b : Nat} {A : Option Addr} {cap : Nat} {l : List Int} {at_ m x k : Int} {g : Option Addr} {pc n : Nat} {bs : List Bk} (h : RsE w W b A cap l at_ m g pc n) (hbw : b < w.heap.size) (hD : DS W W2 b A cap l x k bs) (hx9 : at_ ≤ x ∧ x ≤ at_ + m) : RsE w W2 b A cap l at_ (m + k) g pc n := by
  obtain ⟨M, y, hm, ht, hx, hst, hg, ho⟩ := h
  obtain ⟨x', h1, h2, h3, h4⟩ := hD.to
  exact ⟨M, x', hm, ht, ⟨by omega, by omega⟩, h3, hg.andThen h4 (fun _ h => .inr h), ho.kept h4 (.inr (own_ne ho hbw))⟩
theorem rs_fin {w W : World} {b : Nat} {A : Option Addr} {cap : Nat} {l : List Int} {at_ m : Int} {g : Option Addr} {pc n : Nat} (h : RsE w W b A cap l at_ m g pc n) (hm : m ≤ 2000) (hn : n ≤ 20) :
    ∃ v M, Ending.returned (.slice g n pc) = .returned v ∧ M.length ≤ 20 ∧ (∀ r ∈ M, RpT r) ∧ rpOwn W w.heap.size v M ∧ StrTo w W b A cap l at_ 2000 := by
  obtain ⟨M, x, rfl, ht, hx, hst, hg, ho⟩ := h
  exact ⟨_, M, rfl, hn, ht, ho, x, hx.1, by omega, hst, hg⟩
theorem rwSets_app : ∀ (vs a b : List Value) (j : Nat), j + vs.length ≤ a.length → rwSets (a ++ b) j vs = rwSets a j vs ++ b
  | [], _, _, _, _ => rfl
  | v :: vs, a, b, j, h => by
    have h : j + (vs.length + 1) ≤ a.length := h
    show rwSets ((a ++ b).set j v) (j + 1) vs = rwSets (a.set j v) (j + 1) vs ++ b
    rw [List.set_append_left _ _ (by omega)]
    exact rwSets_app vs (a.set j v) b (j + 1) (by simp; omega)
theorem rwSets_in {α : Type} {c : α → List Value} {n : Nat} (hc : ∀ x, (c x).length = n) (d : α) (vs : List Value) (j : Nat) (e' : α) (hj : j + vs.length ≤ n) : ∀ (M : List α) (i : Nat), i < M.length → c e' = rwSets (c (M.getD i d)) j vs → rwSets (rwC c M) (i * n + j) vs = rwC c (M.set i e')
  | x :: M, 0, _, he => by
    have he : c e' = rwSets (c x) j vs := he
    show rwSets (c x ++ rwC c M) (0 * n + j) vs = c e' ++ rwC c M
    rw [Nat.zero_mul, Nat.zero_add, rwSets_app _ _ _ _ (by rw [hc]; exact hj), he]
  | x :: M, i + 1, hi, he => by
    have ih := rwSets_in hc d vs j e' hj M i (by simpa using hi) he
    show rwSets (c x ++ rwC c M) ((i + 1) * n + j) vs = c x ++ rwC c (M.set i e')
    rw [Nat.succ_mul, Nat.add_comm (i * n) n, Nat.add_assoc, rwSets_shift _ (hc x), ih]
theorem rs_cells {w W3 W : World} {b : Nat} {A : Option Addr} {cap : Nat} {l : List Int} {x m : Int} {bs : List Bk} {gb pc i n : Nat} {M : List Rp} {r : Rp} (hE : DS W3 W b A cap l x m bs) (ho : rpOwn W3 w.heap.size (.slice (some ⟨gb, 0, none⟩) M.length pc) M) (_ : w.heap.size ≤ gb) (hbw : b < w.heap.size)
    (hm : M.length = n) (hi : i < n) (hr : M.getD i noRp = r) : RwCells W gb (i * 14) (rpC r) ∧ ∀ j, W.frozen? ⟨gb, j, none⟩ = false := by
  have ho' : rpOwn W w.heap.size (.slice (some ⟨gb, 0, none⟩) M.length pc) M := ho.kept hE.grown (.inr (own_ne ho hbw))
  refine ⟨?_, fun j => rw_froz ho' j⟩
  obtain ⟨g', off', e, _, hx⟩ := rw_at' (d := noRp) rpC_len ho' i (by omega)
  injection e with e
  simp only [Addr.mk.injEq, and_true] at e
  obtain ⟨rfl, rfl⟩ := e
  rw [Nat.zero_add, hr] at hx
  exact hx
theorem rs_puts {w W3 W : World} {b : Nat} {A : Option Addr} {cap : Nat} {l : List Int} {at_ x m : Int} {bs : List Bk} {gb pc i n : Nat} {M : List Rp} {r : Rp} (hE : DS W3 W b A cap l x m bs) (hg : w.grownBy W3 (some b)) (ho : rpOwn W3 w.heap.size (.slice (some ⟨gb, 0, none⟩) M.length pc) M) (hbw : b < w.heap.size)
    (ht : ∀ q ∈ M, RpT q) (hx : at_ ≤ x ∧ x ≤ at_ + 1000) (hm : M.length = n) (hi : i < n) (hr : M.getD i noRp = r) (j : Nat) (vs : List Value) (r' : Rp) (he : rpC r' = rwSets (rpC r) j vs) (hr' : RpT r') (hj : j + vs.length ≤ 14) :
    RsE w (W.setCells gb (i * 14 + j) vs) b A cap l at_ (1000 + m) (some ⟨gb, 0, none⟩) pc n := by
  have ho' : rpOwn W w.heap.size (.slice (some ⟨gb, 0, none⟩) M.length pc) M := ho.kept hE.grown (.inr (own_ne ho hbw))
  have hgb : w.heap.size ≤ gb := (ho.lt gb rfl).1
  have hG := rw_gsets vs (i * 14 + j) W (World.grownBy.refl W (some gb))
  have hput := rw_setCells vs (i * 14 + j) W _ ho'
  rw [rwSets_in rpC_len noRp vs j r' hj M i (by omega) (by rw [hr]; exact he)] at hput
  obtain ⟨x', h1, h2, h3, h4⟩ := hE.to
  refine ⟨M.set i r', x', by rw [List.length_set]; exact hm, fun q hq => (List.mem_or_eq_of_mem_set hq).elim (ht q) (fun e => e ▸ hr'), ⟨by omega, by omega⟩, h3.grown hG (fun k e => by injection e with e; omega), (hg.andThen h4 (fun _ h => .inr h)).andThen hG (fun k e => .inl (by injection e with e; omega)), ?_⟩
  unfold rpOwn
  rw [List.length_set]
  exact hput
theorem entersSR : ∀ args w, (callFunc 25 args).run Tryz.prog w = .ok (.enter 25 args) w := enters_of Tryz.func25 (by kernel_rfl) rfl
set_option maxHeartbeats 1000000 in
theorem compact_nil (g : Option Addr) (cap : Nat) (f : Value) (w : World) :
    Calls Tryz.prog 24 #[.slice g 0 cap, f] w fun e W => e = .returned (.slice g 0 cap) ∧ W = w := by
  go_enter Tryz.func24, Tryz.ntmps24
  go_wp2_with fail
  go_ret
  exact ⟨rfl, rfl⟩
set_option maxRecDepth 100000 in
set_option maxHeartbeats 4000000 in
theorem reports_any (b : Nat) (A : Option Addr) (cap : Nat) (l : List Int) (at_ : Int) (N : Nat) (w : World) (h : Str w b A cap l at_) (hh : at_ < 1099511600000) (hN : N ≤ 10) :
    Calls Tryz.prog 5 #[.pointer (some ⟨b, 0, none⟩), .int .i64 N] w fun e w' => ∃ v M, e = .returned v ∧ M.length ≤ 20 ∧ (∀ r ∈ M, RpT r) ∧ rpOwn w' w.heap.size v M ∧ StrTo w w' b A cap l at_ 2000 := by
  have hbw := h.lt
  go_enter Tryz.func5, Tryz.ntmps5
  go_wp2_with fail
  go_loopw [5, 15] (fun v5 v15 wr => ∃ k : Nat, k ≤ N ∧ v15 = .int .i64 k ∧ RsI w wr b A cap l at_ k v5) (fun _ v15 _ => N - (intOf v15).toNat)
  case atStart => exact ⟨0, Nat.zero_le _, rfl, [], none, 0, at_, rfl, by simp, by simp, by omega, h, World.grownBy.refl _ _, World.ownsRow_nil _ _ _ _⟩
  case round =>
    clear h
    obtain ⟨k, hk, rfl, M, g, pc, x, rfl, hML, hMT, ⟨hx0, hx1⟩, hs, hg, ho⟩ := hrel
    by_cases hlt : k < N
    · have hd : decide ((k : Int) < (N : Int)) = true := by simp; omega
      have HO := Lib.hid ho
      have HMT := Lib.hid hMT
      have HML := Lib.hid hML
      have HG := Lib.hid hg
      have HX0 := Lib.hid hx0
      have HX1 := Lib.hid hx1
      have hx : x < 1099511610000 := by omega
      have hk10 : k < 10 := by omega
      have HNB := Lib.hid (own_ne ho hbw)
      have D0 := DS.start hs
      clear hMT hML hg hx0 hx1 hs ho
      go_wp2_with fail
      refine (D0.pk (by omega) [6, 6, 6, 17, 1] (by simp) rfl (by simp) (by simp) 5 5 rfl).mono ?_
      rintro e W1 ⟨⟨d1, hd1, rfl⟩, D1, -⟩
      clear D0
      go_wp2_with fail
      refine (D1.range (by omega) 1 4 (by omega) (by omega) (by omega) (by omega)).mono ?_
      rintro e W2 ⟨⟨d2, h20, h25, rfl⟩, D2, -⟩
      clear D1
      go_wp2_with fail
      refine (at_any d2 W2 (by omega) (by omega)).mono ?_
      rintro e W3 ⟨rfl, hb3⟩
      have D3 := D2.bl hb3
      clear D2 hb3
      go_wp2_with fail
      refine (D3.range (by omega) 1 4 (by omega) (by omega) (by omega) (by omega)).mono ?_
      rintro e W4 ⟨⟨d3, h30, h35, rfl⟩, D4, -⟩
      clear D3
      go_wp2_with fail
      refine (at_any d3 W4 (by omega) (by omega)).mono ?_
      rintro e W5 ⟨rfl, hb5⟩
      have D5 := (D4.bl hb5).al (flA ⟨d1, false, 0, 1681915904 + d2, false, 0, 1681915904 + d3, 0, 0⟩) 37
      have M5 : RsF wr (W5.alloc (.cells (flA ⟨d1, false, 0, 1681915904 + d2, false, 0, 1681915904 + d3, 0, 0⟩) 37)) b A cap l x 3 W5.heap.size :=
        ⟨_, ⟨⟨by simp, by simp⟩, ⟨by simp; omega, by simp; omega⟩, ⟨by simp, by simp⟩, ⟨by simp; omega, by simp; omega⟩⟩, D5.le (by omega)⟩
      clear D4 hb5 D5
      go_wp2_with fail
      generalize hW : World.alloc W5 _ = W6
      generalize hF : W5.heap.size = F at *
      obtain ⟨f, hf, D6⟩ := (show RsF wr W6 b A cap l x 3 F from hW ▸ M5)
      clear M5 hW hd1 hF h20 h25 h30 h35
      refine (D6.flip (by omega) 6 (by omega) (by omega)).mono ?_
      rintro e W7 ⟨⟨y, rfl⟩, D7, -⟩
      clear D6
      go_upto_if 28 with (fail)
      go_cut [] from 16 to 34 (fun wc => RsF wr wc b A cap l x 5 F)
      case first =>
        cases y
        · go_wp2_with fail
          go_meet
          exact ⟨f, hf, D7.le (by omega)⟩
        · go_wp2_with fail
          refine (D7.range (by omega) 0 3 (by omega) (by omega) (by omega) (by omega)).mono ?_
          rintro e W8 ⟨⟨d, hd0, hd3, rfl⟩, D8, -⟩
          clear D7
          have e1 : IntKind.u64.wrap d = d := IntWalk.u64_in _ (by omega)
          have e2 : IntKind.u64.wrap (167772160 + d) = 167772160 + d := IntWalk.u64_in _ (by omega)
          obtain ⟨⟨c0, c1, c2, c3, c4, c5, c6, c7, c8⟩, z0, z1, z2, z3, z4, z5, z6, z7, z8⟩ := flA_cells D8
          go_wp2_with fail
          go_meet
          exact ⟨{ f with t6 := false, th := 0, tl := 167772160 + d }, ⟨hf.sh, hf.sl, ⟨by simp, by simp⟩, ⟨by simp; omega, by simp; omega⟩⟩, ((D8.set 0 4 _ rfl).set 0 5 _ rfl).set 0 6 _ rfl⟩
      case rest =>
      obtain ⟨f, hf, D8⟩ := hcut
      clear D7
      obtain ⟨⟨c0, -⟩, -⟩ := flA_cells D8
      obtain ⟨q, hq⟩ : ∃ q : Bool, (f.proto != 1) = q := ⟨_, rfl⟩
      go_upto_if 37 with (fail)
      clear hq c0
      go_cut [] from 35 to 45 (fun wc => RsF wr wc b A cap l x 8 F)
      case first =>
        cases q
        · go_wp2_with fail
          go_meet
          exact ⟨f, hf, D8.le (by omega)⟩
        · go_wp2_with fail
          refine (D8.pk (by omega) [9, 9, 10] (by simp) rfl (by simp) (by simp) 3 3 rfl).mono ?_
          rintro e V1 ⟨⟨p1, hp1, rfl⟩, E1, -⟩
          clear D8
          go_wp2_with fail
          refine (E1.pk (by omega) [80, 80, 443, 22, 23] (by simp) rfl (by simp) (by simp) 5 5 rfl).mono ?_
          rintro e V2 ⟨⟨p2, hp2, rfl⟩, E2, -⟩
          clear E1
          obtain ⟨⟨c0, c1, c2, c3, c4, c5, c6, c7, c8⟩, z0, z1, z2, z3, z4, z5, z6, z7, z8⟩ := flA_cells E2
          go_wp2_with fail
          go_meet
          exact ⟨{ f with fp := p1, tp := p2 }, ⟨hf.sh, hf.sl, hf.th, hf.tl⟩, ((E2.set 0 7 _ rfl).set 0 8 _ rfl).le (by omega)⟩
      case rest =>
      obtain ⟨f, hf, D9⟩ := hcut
      clear D8
      go_upto_region 9 with (fail)
      go_cut [7] from 46 to 61 (fun v7 wc => ∃ R, v7 = .pointer (some ⟨R, 0, none⟩) ∧ RsR wr wc b A cap l x 30 R F f)
      case first =>
        obtain ⟨W9, rfl⟩ : ∃ W9 : World, W9 = wc := ⟨_, rfl⟩
        have hFl : F < W9.heap.size := D9.lt (k := 0) rfl
        have HWS : Hid (wr.heap.size ≤ W9.heap.size) := Lib.hid D9.size
        refine wp_region_drawn 17 (fun f' => ⟨#[.pointer (some ⟨b, 0, none⟩), .int .i64 N, undef, undef, .slice none 0 0, .slice g M.length pc, .pointer (some ⟨F, 0, none⟩), f' 16, u8, u9, u10, u11, u12, undef, .int .i64 N, .int .i64 k, u16, u17, u18, u19, u20, u21, u22, u23, u24, u25, u26, u27, u28, u29, u30, u31, u32, u33, u34, u35, u36, u37, u38, u39, u40, u41, u42, u43, u44, u45, f' 0, f' 1, f' 2, f' 3, f' 4, f' 5, f' 6, f' 7, f' 8, f' 9, f' 10, f' 11, f' 12, f' 13, f' 14, f' 15, u62, u63, u64, u65, u66, u67, u68, u69, u70, u71, u72, u73, u74, u75, u76, u77, u78, u79, u80, u81, u82, u83, u84, u85, u86, u87, u88, u89, u90, u91, u92, u93, u94, u95, u96, u97, u98, u99, u100, u101, u102, u103, u104, u105, u106, u107, u108, u109, u110, u111, u112, u113, u114, u115, u116, u117, u118, u119, u120, u121, u122, u123, u124, u125, u126, u127, u128, u129, u130, u131, u132, u133, u134, u135, u136, undef, undef, undef, undef, undef, undef, undef, undef, undef, undef, undef, undef, undef, undef, undef, undef, undef, undef, undef, undef, undef, undef, undef, undef, undef, undef, undef, undef, undef, undef, undef, undef, undef, undef, undef, undef, undef, undef, undef, undef, undef, undef, undef, undef, undef, undef, undef, undef, undef, undef, undef, undef, undef, undef], []⟩) (VL [VIs (.pointer (some ⟨b, 0, none⟩)), VBox b #[.string ⟨#[110, 97]⟩, .string ⟨#[110, 98]⟩, .string ⟨#[110, 99]⟩, .string ⟨#[110, 100]⟩] 9 4, VStr [⟨#[110, 97]⟩, ⟨#[110, 98]⟩, ⟨#[110, 99]⟩, ⟨#[110, 100]⟩], VIs (.pointer (some ⟨b, 0, none⟩)), VBox b #[.int .i64 0, .int .i64 0, .int .i64 1, .int .i64 1, .int .i64 2, .int .i64 5, .int .i64 23, .int .i64 24, .int .i64 30, .int .i64 50, .int .i64 720] 3 11, VInt (· ∈ ([0, 0, 1, 1, 2, 5, 23, 24, 30, 50, 720] : List Int)), VIs (.pointer (some ⟨b, 0, none⟩)), VFlip, VIs (.agg #[.int .i64 f.proto, .bool f.s6, .int .u64 f.sh, .int .u64 f.sl, .bool f.t6, .int .u64 f.th, .int .u64 f.tl, .int .i64 f.fp, .int .i64 f.tp]), VIs (.pointer (some ⟨b, 0, none⟩)), VBox b #[.int .i64 1, .int .i64 2, .int .i64 10, .int .i64 100] 3 4, VInt (· ∈ ([1, 2, 10, 100] : List Int)), VIs (.pointer (some ⟨b, 0, none⟩)), VBox b #[.int .i64 0, .int .i64 50, .int .i64 100, .int .i64 110, .int .i64 1000, .int .i64 1000000000, .int .i64 1000000001] 3 7, VInt (· ∈ ([0, 50, 100, 110, 1000, 1000000000, 1000000001] : List Int)), VVal (RsP f), VNew b W9.heap.size (rpA noRp) 39]) (GD wr W9 b A cap l x 8 [(F, flA f, 37)]) (fun w w' => w.grownBy w' (some b)) (fun i => match i with | 0 => u46 | 1 => u47 | 2 => u48 | 3 => u49 | 4 => u50 | 5 => u51 | 6 => u52 | 7 => u53 | 8 => u54 | 9 => u55 | 10 => u56 | 11 => u57 | 12 => u58 | 13 => u59 | 14 => u60 | 15 => u61 | 16 => u7 | _ => undef) (show Tryz.prog.follows .mixedOrders = true from by kernel_rfl) (by kernel_rfl) ?_ ?_ ?_ (GD.start D9)
        · exact fun i w w' v h hg => VL.stab (by
            intro p hp
            simp only [List.mem_cons, List.mem_nil_iff, or_false] at hp
            rcases hp with rfl | rfl | rfl | rfl | rfl | rfl | rfl | rfl | rfl | rfl | rfl | rfl | rfl | rfl | rfl | rfl | rfl <;> first | exact VIs.stab _ _ | exact VBox.stab _ _ _ _ | exact VInt.stab _ _ | exact VVal.stab _ _ | exact VStr.stab _ _ | exact VFlip.stab _ | exact VNew.stab _ _ _ _) i w w' v h hg
        · intro i op hi ho f' w' kk hkk hG hd
          obtain ⟨⟨c0, c1, c2, c3, c4, c5, c6, c7, c8⟩, -⟩ := flA_cells hG.1
          have HG := Lib.hid hG
          clear hG
          have hcase : i = 0 ∨ i = 1 ∨ i = 2 ∨ i = 3 ∨ i = 4 ∨ i = 5 ∨ i = 6 ∨ i = 7 ∨ i = 8 ∨ i = 9 ∨ i = 10 ∨ i = 11 ∨ i = 12 ∨ i = 13 ∨ i = 14 ∨ i = 15 ∨ i = 16 := by omega
          rcases hcase with rfl | rfl | rfl | rfl | rfl | rfl | rfl | rfl | rfl | rfl | rfl | rfl | rfl | rfl | rfl | rfl | rfl <;> (replace ho := Option.some.inj ho; subst ho)
          · unfold Oper.wp
            go_simp
            exact ⟨_, (by first | (simp [upd]; done) | (simp [upd]; omega)), rfl, HG.out.same, gr_refl _ _⟩
          · unfold Oper.wp
            go_simp
            exact ⟨_, (by simp [upd]), ⟨_, rfl, al1 _ _, by have := HG.out.1.blt; omega⟩, HG.out.alo _, gr_alo _ _ _⟩
          · have e0 : f' 0 = _ := hd ⟨0, .data⟩ (by simp) rfl
            obtain ⟨g1, e1, hb1, hn1⟩ := hd ⟨1, .data⟩ (by simp) rfl
            unfold Oper.wp
            go_simp
            refine (DS.someB HG.out.1 (by omega) [⟨#[110, 97]⟩, ⟨#[110, 98]⟩, ⟨#[110, 99]⟩, ⟨#[110, 100]⟩] hb1 (fun e => hn1 e.symm) (by simp) (by simp) 4 4 rfl).mono ?_
            rintro e W9 ⟨⟨d, hd9, rfl⟩, D9, hg9⟩
            exact ⟨_, (by simp [upd, e0, e1]), ⟨d, hd9, rfl⟩, HG.out.ext D9 hg9, hg9⟩
          · unfold Oper.wp
            go_simp
            exact ⟨_, (by first | (simp [upd]; done) | (simp [upd]; omega)), rfl, HG.out.same, gr_refl _ _⟩
          · unfold Oper.wp
            go_simp
            exact ⟨_, (by simp [upd]), ⟨_, rfl, al1 _ _, by have := HG.out.1.blt; omega⟩, HG.out.alo _, gr_alo _ _ _⟩
          · have e3 : f' 3 = _ := hd ⟨3, .data⟩ (by simp) rfl
            obtain ⟨g4, e4, hb4, hn4⟩ := hd ⟨4, .data⟩ (by simp) rfl
            unfold Oper.wp
            go_simp
            refine (DS.pickB HG.out.1 (Below.refl _ _) (by omega) [0, 0, 1, 1, 2, 5, 23, 24, 30, 50, 720] hb4 (fun e => hn4 e.symm) (by simp) (by simp) 11 11 rfl).mono ?_
            rintro e W9 ⟨⟨d, hd9, rfl⟩, D9, hg9⟩
            exact ⟨_, (by simp [upd, e3, e4]), ⟨d, by simpa using hd9, rfl⟩, HG.out.ext D9 hg9, hg9⟩
          · unfold Oper.wp
            go_simp
            exact ⟨_, (by first | (simp [upd]; done) | (simp [upd]; omega)), rfl, HG.out.same, gr_refl _ _⟩
          · have e6 : f' 6 = _ := hd ⟨6, .data⟩ (by simp) rfl
            unfold Oper.wp
            go_simp
            refine (DS.flip HG.out.1 (by omega) 2 (by omega) (by omega)).mono ?_
            rintro e W9 ⟨⟨d, rfl⟩, D9, hg9⟩
            exact ⟨_, (by simp [upd, e6]), ⟨d, rfl⟩, HG.out.ext D9 hg9, hg9⟩
          · unfold Oper.wp
            go_simp
            exact ⟨_, (by first | (simp [upd]; done) | (simp [upd]; omega)), rfl, HG.out.same, gr_refl _ _⟩
          · unfold Oper.wp
            go_simp
            exact ⟨_, (by first | (simp [upd]; done) | (simp [upd]; omega)), rfl, HG.out.same, gr_refl _ _⟩
          · unfold Oper.wp
            go_simp
            exact ⟨_, (by simp [upd]), ⟨_, rfl, al1 _ _, by have := HG.out.1.blt; omega⟩, HG.out.alo _, gr_alo _ _ _⟩
          · have e9 : f' 9 = _ := hd ⟨9, .data⟩ (by simp) rfl
            obtain ⟨g10, e10, hb10, hn10⟩ := hd ⟨10, .data⟩ (by simp) rfl
            unfold Oper.wp
            go_simp
            refine (DS.pickB HG.out.1 (Below.refl _ _) (by omega) [1, 2, 10, 100] hb10 (fun e => hn10 e.symm) (by simp) (by simp) 4 4 rfl).mono ?_
            rintro e W9 ⟨⟨d, hd9, rfl⟩, D9, hg9⟩
            exact ⟨_, (by simp [upd, e9, e10]), ⟨d, by simpa using hd9, rfl⟩, HG.out.ext D9 hg9, hg9⟩
          · unfold Oper.wp
            go_simp
            exact ⟨_, (by first | (simp [upd]; done) | (simp [upd]; omega)), rfl, HG.out.same, gr_refl _ _⟩
          · unfold Oper.wp
            go_simp
            exact ⟨_, (by simp [upd]), ⟨_, rfl, al1 _ _, by have := HG.out.1.blt; omega⟩, HG.out.alo _, gr_alo _ _ _⟩
          · have e12 : f' 12 = _ := hd ⟨12, .data⟩ (by simp) rfl
            obtain ⟨g13, e13, hb13, hn13⟩ := hd ⟨13, .data⟩ (by simp) rfl
            unfold Oper.wp
            go_simp
            refine (DS.pickB HG.out.1 (Below.refl _ _) (by omega) [0, 50, 100, 110, 1000, 1000000000, 1000000001] hb13 (fun e => hn13 e.symm) (by simp) (by simp) 7 7 rfl).mono ?_
            rintro e W9 ⟨⟨d, hd9, rfl⟩, D9, hg9⟩
            exact ⟨_, (by simp [upd, e12, e13]), ⟨d, by simpa using hd9, rfl⟩, HG.out.ext D9 hg9, hg9⟩
          · obtain ⟨t2, ht2, e2⟩ := hd ⟨2, .data⟩ (by simp) rfl
            obtain ⟨d5, hd5, e5⟩ := hd ⟨5, .data⟩ (by simp) rfl
            obtain ⟨y7, e7⟩ := hd ⟨7, .data⟩ (by simp) rfl
            have e8 : f' 8 = _ := hd ⟨8, .data⟩ (by simp) rfl
            obtain ⟨d11, hd11, e11⟩ := hd ⟨11, .data⟩ (by simp) rfl
            obtain ⟨d14, hd14, e14⟩ := hd ⟨14, .data⟩ (by simp) rfl
            unfold Oper.wp
            go_simp
            have hs2 : t2.size ≤ 1000 := by simp only [List.mem_cons, List.mem_nil_iff, or_false] at ht2; rcases ht2 with h | h | h | h <;> (rw [h]; decide)
            exact ⟨_, (by first | (simp [upd, e2, e5, e7, e8, e11, e14, rpA]; done) | (simp [upd, e2, e5, e7, e8, e11, e14, rpA, flA]; done)), ⟨⟨t2, d5, y7, f, d11, d14⟩, ⟨⟨hs2, hf.sh, hf.sl, hf.th, hf.tl⟩, rfl⟩, rfl⟩, HG.out.same, gr_refl _ _⟩
          · unfold Oper.wp
            go_simp
            exact ⟨_, (by simp [upd]), ⟨_, rfl, al1 _ _, HG.out.2, by have := HG.out.1.blt; omega⟩, HG.out.alo _, gr_alo _ _ _⟩
        · intro op ho f' w' kk hkk hG hd
          obtain ⟨⟨c0, c1, c2, c3, c4, c5, c6, c7, c8⟩, -⟩ := flA_cells hG.1
          have HG := Lib.hid hG
          clear hG
          obtain ⟨r15, hr15, e15⟩ := hd 15 (by omega)
          obtain ⟨P16, e16, hP16, hPb16, hPn16⟩ := hd 16 (by omega)
          replace ho := Option.some.inj ho
          subst ho
          refine store_step e16 e15 hP16 rfl (by kernel_rfl) (by simp [Value.oneCell', rpA]) (fun W hr => ?_)
          first | (go_step; go_step; go_meet) | (go_step; go_meet) | go_meet
          exact ⟨P16, e16, r15, hr15, ((HG.out.1.view hP16 (Nat.le_trans HWS.out hPb16) (by intro p hp; rw [List.mem_singleton.1 hp]; show F ≠ P16; omega)).re 0 rfl hr).le (by omega)⟩
      case rest =>
      obtain ⟨R, rfl, r, ⟨hr, hrf0⟩, E1⟩ := hcut
      have hrf := Lib.hid hrf0
      clear hrf0
      obtain ⟨Wa, rfl⟩ : ∃ Wa : World, Wa = wc := ⟨_, rfl⟩
      clear D9
      go_wp2_with fail
      refine (E1.flip (by omega) 5 (by omega) (by omega)).mono ?_
      rintro e W2 ⟨⟨y, rfl⟩, E2, -⟩
      clear E1
      go_upto_if 64 with (fail)
      go_cut [8, 9] from 62 to 84 (fun v8 v9 wc => RsR wr wc b A cap l x 40 R F f)
      case first =>
        cases y
        · skip
          have HFa := Lib.hid (E2.blk _ (List.mem_of_getElem? (i := 1) rfl))
          obtain ⟨-, c1, c2, c3, c4, c5, c6, -⟩ := flH HFa.out
          have lFa := lt_of_block HFa.out
          have lQa : R < W2.heap.size := E2.lt (k := 0) rfl
          obtain ⟨ob, hob⟩ : ∃ ob : Bool, r.out = ob := ⟨_, rfl⟩
          have cq : W2.cell? ⟨R, 2, none⟩ = some (.bool ob) := by rw [← hob]; exact E2.cell 0 2 rfl rfl
          clear hob
          have DAa := E2.al #[.bool f.t6, .int .u64 f.th, .int .u64 f.tl] 35
          have HFAa := Lib.hid (old1 (a := .cells #[.bool f.t6, .int .u64 f.th, .int .u64 f.tl] 35) HFa.out)
          go_upto_if 68 with (fail)
          generalize hW : World.alloc W2 _ = Xa at DAa HFAa ⊢
          generalize hP : W2.heap.size = Pa at DAa ⊢
          have HNPa := Lib.hid (show F < Pa ∧ R < Pa by omega)
          clear hW hP c4 c5 c6 c1 c2 c3 cq
          obtain ⟨-, c1, c2, c3, -⟩ := flH HFAa.out
          have cp0 : Xa.cell? ⟨Pa, 0, none⟩ = some (.bool f.t6) := DAa.cell 0 0 rfl rfl
          have cp1 : Xa.cell? ⟨Pa, 1, none⟩ = some (.int .u64 f.th) := DAa.cell 0 1 rfl rfl
          have cp2 : Xa.cell? ⟨Pa, 2, none⟩ = some (.int .u64 f.tl) := DAa.cell 0 2 rfl rfl
          have zp0 : Xa.frozen? ⟨Pa, 0, none⟩ = false := DAa.froz 0 0 rfl
          have zp1 : Xa.frozen? ⟨Pa, 1, none⟩ = false := DAa.froz 0 1 rfl
          have zp2 : Xa.frozen? ⟨Pa, 2, none⟩ = false := DAa.froz 0 2 rfl
          go_cut [] from 62 to 70 (fun wc => ∃ (s : Bool) (h lo : Int), U64 lo ∧ DS wr wc b A cap l x 31 [(Pa, #[.bool s, .int .u64 h, .int .u64 lo], 35), (R, rpA r, 39), (F, flA f, 37)])
          case first =>
            cases ob
            · go_wp2_with fail
              go_meet
              exact ⟨_, _, _, hf.tl, DAa⟩
            · go_wp2_with fail
              go_meet
              exact ⟨_, _, _, hf.sl, ((DAa.set 0 0 _ rfl).set 0 1 _ rfl).set 0 2 _ rfl⟩
          case rest =>
          obtain ⟨so, ho, lo, ulo, DBa⟩ := hcut
          clear DAa c1 c2 c3 cp0 cp1 cp2 zp0 zp1 zp2
          have cp2 : wc.cell? ⟨Pa, 2, none⟩ = some (.int .u64 lo) := DBa.cell 0 2 rfl rfl
          have cq0 : wc.cell? ⟨R, 0, none⟩ = some (.string r.node) := DBa.cell 1 0 rfl rfl
          have zq0 : wc.frozen? ⟨R, 0, none⟩ = false := DBa.froz 1 0 rfl
          have lQ2 : R < wc.heap.size := DBa.lt (k := 1) rfl
          obtain ⟨kk, hkk⟩ : ∃ kk, IntKind.u64.wrap (lo - 1681915904) = kk := ⟨_, rfl⟩
          have kb : 0 ≤ kk ∧ kk ≤ 18446744073709551615 := by rw [← hkk]; exact u64_bd _
          clear ulo
          by_cases hc : 1 ≤ kk ∧ kk ≤ 4
          · obtain ⟨i, rfl⟩ : ∃ i : Nat, kk = i := ⟨kk.toNat, by omega⟩
            obtain ⟨tn, htn, hcl⟩ := rs_name i (by omega) (by omega)
            have hcl' := hcl wc
            have i1 : decide ((i : Int) ≥ 1) = true := by simp; omega
            have i2 : decide ((i : Int) ≤ 4) = true := by simp; omega
            have i3 : decide ((1 : Int) ≤ (i : Int)) = true := by simp; omega
            have i4 : (i : Int) < 5 := by omega
            have i5 : i < 5 := by omega
            clear hc kb hcl
            go_wp2_with fail
            clear hkk cp2 cq0 zq0 hcl'
            go_meet
            exact ⟨{ r with node := tn }, ⟨⟨htn, hr.sh, hr.sl, hr.th, hr.tl⟩, hrf.out⟩, (((DBa.set 1 0 (.string tn) rfl).alo (.cells #[.string ⟨#[]⟩, .string ⟨#[110, 97]⟩, .string ⟨#[110, 98]⟩, .string ⟨#[110, 99]⟩, .string ⟨#[110, 100]⟩] 9)).drop).le (by omega)⟩
          · have k1 : kk = 0 ∨ 4 < kk := by omega
            clear hc
            rcases k1 with rfl | k4
            · go_wp2_with fail
              clear hkk cp2 cq0 zq0
              go_meet
              exact ⟨r, ⟨⟨hr.node, hr.sh, hr.sl, hr.th, hr.tl⟩, hrf.out⟩, (DBa.drop).le (by omega)⟩
            · have e1 : decide (kk ≥ 1) = true := by simp; omega
              have e2 : decide (kk ≤ 4) = false := by simp; omega
              have e3 : decide (1 ≤ kk) = true := by simp; omega
              go_wp2_with fail
              clear hkk cp2 cq0 zq0
              go_meet
              exact ⟨r, ⟨⟨hr.node, hr.sh, hr.sl, hr.th, hr.tl⟩, hrf.out⟩, (DBa.drop).le (by omega)⟩
        · go_wp2_with fail
          go_meet
          exact ⟨r, ⟨hr, hrf.out⟩, E2.le (by omega)⟩
      case rest =>
      obtain ⟨r, ⟨hr, hrf0⟩, E3⟩ := hcut
      clear hrf
      have hrf := Lib.hid hrf0
      clear hrf0
      obtain ⟨W3, rfl⟩ : ∃ W3 : World, W3 = wc := ⟨_, rfl⟩
      clear E2
      have HO3 := Lib.hid (HO.out.kept E3.grown (.inr HNB.out))
      have HR3 : Hid (W3.heap[R]? = some (.cells #[.string r.node, .int .i64 r.hour, .bool r.out, .int .i64 r.f.proto, .bool r.f.s6, .int .u64 r.f.sh, .int .u64 r.f.sl, .bool r.f.t6, .int .u64 r.f.th, .int .u64 r.f.tl, .int .i64 r.f.fp, .int .i64 r.f.tp, .int .i64 r.pk, .int .i64 r.by_] 39 (0, 0))) := Lib.hid (E3.blk _ (List.mem_of_getElem? (i := 0) rfl))
      have HF3 := Lib.hid (E3.blk _ (List.mem_of_getElem? (i := 1) rfl))
      have HRo : Hid (wr.heap.size ≤ R) := Lib.hid (E3.own _ (List.mem_of_getElem? (i := 0) rfl))
      have HFo : Hid (wr.heap.size ≤ F) := Lib.hid (E3.own _ (List.mem_of_getElem? (i := 1) rfl))
      have HGr := Lib.hid (HG.out.andThen E3.grown (fun _ h => .inr h))
      have hsz3 : w.heap.size ≤ W3.heap.size := HGr.out.size
      have HE3 := Lib.hid E3
      clear E3
      obtain ⟨i0, hi, hz0, hz1, hz2⟩ := info_parts rp_info
      have hMl : M.length ≤ 18 := by have := HML.out; omega
      go_upto_region 17 with (fail)
      first | refine load_step rfl HR3.out (by kernel_rfl) (by kernel_rfl) ?_ | (go_step; first | refine load_step rfl HR3.out (by kernel_rfl) (by kernel_rfl) ?_ | (go_step; first | refine load_step rfl HR3.out (by kernel_rfl) (by kernel_rfl) ?_ | (go_step; first | refine load_step rfl HR3.out (by kernel_rfl) (by kernel_rfl) ?_ | (go_step; first | refine load_step rfl HR3.out (by kernel_rfl) (by kernel_rfl) ?_ | (go_step; first | refine load_step rfl HR3.out (by kernel_rfl) (by kernel_rfl) ?_ | (go_step; first | refine load_step rfl HR3.out (by kernel_rfl) (by kernel_rfl) ?_ | (go_step; first | refine load_step rfl HR3.out (by kernel_rfl) (by kernel_rfl) ?_ | (go_step; first | refine load_step rfl HR3.out (by kernel_rfl) (by kernel_rfl) ?_ | (go_step; first | refine load_step rfl HR3.out (by kernel_rfl) (by kernel_rfl) ?_ | (go_step; first | refine load_step rfl HR3.out (by kernel_rfl) (by kernel_rfl) ?_ | (go_step; first | refine load_step rfl HR3.out (by kernel_rfl) (by kernel_rfl) ?_ | (go_step; first | refine load_step rfl HR3.out (by kernel_rfl) (by kernel_rfl) ?_ | (go_step; first | refine load_step rfl HR3.out (by kernel_rfl) (by kernel_rfl) ?_ | (go_step; first | refine load_step rfl HR3.out (by kernel_rfl) (by kernel_rfl) ?_ | (go_step; first | refine load_step rfl HR3.out (by kernel_rfl) (by kernel_rfl) ?_ | (go_step; refine load_step rfl HR3.out (by kernel_rfl) (by kernel_rfl) ?_))))))))))))))))
      go_wp2_with (at_builtin; refine wpList_append_own _ rfl (.tmp 85) (.tmp 87) 26 rfl w.heap.size 39 i0 (.agg #[.string ⟨#[]⟩, .int .i64 0, .bool false, .int .i64 0, .bool false, .int .u64 0, .int .u64 0, .bool false, .int .u64 0, .int .u64 0, .int .i64 0, .int .i64 0, .int .i64 0, .int .i64 0]) 14 120 Tryz.underlying26 hi hz0 hz1 hz2 rfl (by decide) _ _ _ rfl (World.ownsRow.alloc HO3.out _) ⟨W3.heap.size, 0, none⟩ 1 1 (rpC r) rfl rfl ?d1 ?d2 ?d3 ?d4 ?d5 ?_)
      case d1 => first | exact cells_new14 W3 (rpC r) _ | exact fun j u h => h
      case d2 => exact rpC_one r
      case d3 => first | (unfold maxLen; simp; done) | (unfold maxLen; omega)
      case d4 => first | (simp; done) | omega
      case d5 => first | (simp; omega) | omega
      intro v5 W4 ho4 hg4 _
      obtain ⟨g4, pc4, rfl, -, -⟩ := own_slice ho4
      have HO4 : Hid (rpOwn W4 w.heap.size (.slice g4 (M ++ [r]).length pc4) (M ++ [r])) := Lib.hid (by
        unfold rpOwn
        rw [show rwC rpC (M ++ [r]) = rwC rpC M ++ rpC r by simp [rwC], show (M ++ [r]).length = M.length + 1 by simp]
        exact ho4)
      have HX4 := Lib.hid (rs_app HE3.out hg4 HO.out hbw HGr.out)
      have HF4 := Lib.hid (rs_old HF3.out hg4 HO.out HFo.out)
      have HR4 := Lib.hid (rs_old HR3.out hg4 HO.out HRo.out)
      have HMT4 : Hid (∀ q ∈ M ++ [r], RpT q) := Lib.hid (fun q hq => (List.mem_append.1 hq).elim (HMT.out q) (fun h => by rw [List.mem_singleton.1 h]; exact hr))
      have hm1 : (M ++ [r]).length = M.length + 1 := by simp
      have HM1 := Lib.hid hm1
      rw [show M.length + 1 = (M ++ [r]).length from hm1.symm]
      have hM4 : (M ++ [r]).length ≤ 2 * k + 1 := by rw [hm1]; have := HML.out; omega
      generalize M ++ [r] = M4 at HO4 HMT4 hM4 HM1 ⊢
      clear hm1 ho4 hg4 HO3 HR3 HF3
      obtain ⟨x4, hx4, hs4, hgw4⟩ := HX4.out
      have HNB4 : Hid (¬ (Value.slice g4 M4.length pc4).ownBlock = some b) := Lib.hid (own_ne HO4.out hbw)
      have HX4' := Lib.hid hx4
      have hx40 : x4 < 1099511620000 := by omega
      have D4 := DS.start hs4
      have HRb : Hid (b ≠ R) := Lib.hid (by have := HRo.out; have := HG.out.size; omega)
      have HFb : Hid (b ≠ F) := Lib.hid (by have := HFo.out; have := HG.out.size; omega)
      have HG4 := Lib.hid hgw4
      clear hs4 hx4 HX4 hgw4
      go_wp2_with fail
      refine (D4.flip (by omega) 2 (by omega) (by omega)).mono ?_
      rintro e W5 ⟨⟨y, rfl⟩, D5, -⟩
      clear D4
      cases y
      · go_wp2_with fail
        have HI := Lib.hid (rs_end D5 HO4.out HNB4.out HMT4.out hM4 HX4'.out HX0.out HX1.out HG4.out)
        clear D5
        go_roundw
        case rel => exact ⟨k + 1, by omega, by go_num, HI.out⟩
        case measure => simp [intOf]; omega
      · skip
        have HR5 : Hid (W5.heap[R]? = some (.cells #[.string r.node, .int .i64 r.hour, .bool r.out, .int .i64 r.f.proto, .bool r.f.s6, .int .u64 r.f.sh, .int .u64 r.f.sl, .bool r.f.t6, .int .u64 r.f.th, .int .u64 r.f.tl, .int .i64 r.f.fp, .int .i64 r.f.tp, .int .i64 r.pk, .int .i64 r.by_] 39 (0, 0))) := Lib.hid (gk D5.grown HR4.out HRb.out)
        have HF5 := Lib.hid (gk D5.grown HF4.out HFb.out)
        have h3 := al1 W5 (.cells (rpA noRp) 39)
        go_upto_region 19 with (fail)
        first | refine load_step rfl HR5.out (by kernel_rfl) (by kernel_rfl) ?_ | (go_step; first | refine load_step rfl HR5.out (by kernel_rfl) (by kernel_rfl) ?_ | (go_step; first | refine load_step rfl HR5.out (by kernel_rfl) (by kernel_rfl) ?_ | (go_step; first | refine load_step rfl HR5.out (by kernel_rfl) (by kernel_rfl) ?_ | (go_step; first | refine load_step rfl HR5.out (by kernel_rfl) (by kernel_rfl) ?_ | (go_step; first | refine load_step rfl HR5.out (by kernel_rfl) (by kernel_rfl) ?_ | (go_step; first | refine load_step rfl HR5.out (by kernel_rfl) (by kernel_rfl) ?_ | (go_step; first | refine load_step rfl HR5.out (by kernel_rfl) (by kernel_rfl) ?_ | (go_step; first | refine load_step rfl HR5.out (by kernel_rfl) (by kernel_rfl) ?_ | (go_step; first | refine load_step rfl HR5.out (by kernel_rfl) (by kernel_rfl) ?_ | (go_step; first | refine load_step rfl HR5.out (by kernel_rfl) (by kernel_rfl) ?_ | (go_step; first | refine load_step rfl HR5.out (by kernel_rfl) (by kernel_rfl) ?_ | (go_step; first | refine load_step rfl HR5.out (by kernel_rfl) (by kernel_rfl) ?_ | (go_step; first | refine load_step rfl HR5.out (by kernel_rfl) (by kernel_rfl) ?_ | (go_step; first | refine load_step rfl HR5.out (by kernel_rfl) (by kernel_rfl) ?_ | (go_step; first | refine load_step rfl HR5.out (by kernel_rfl) (by kernel_rfl) ?_ | (go_step; refine load_step rfl HR5.out (by kernel_rfl) (by kernel_rfl) ?_))))))))))))))))
        first | refine store_step (vs := rpA r) rfl rfl h3 (by rfl) (by kernel_rfl) (by simp [Value.oneCell', rpA]) (fun W6 hr9 => ?_) | (go_step; first | refine store_step (vs := rpA r) rfl rfl h3 (by rfl) (by kernel_rfl) (by simp [Value.oneCell', rpA]) (fun W6 hr9 => ?_) | (go_step; first | refine store_step (vs := rpA r) rfl rfl h3 (by rfl) (by kernel_rfl) (by simp [Value.oneCell', rpA]) (fun W6 hr9 => ?_) | (go_step; first | refine store_step (vs := rpA r) rfl rfl h3 (by rfl) (by kernel_rfl) (by simp [Value.oneCell', rpA]) (fun W6 hr9 => ?_) | (go_step; first | refine store_step (vs := rpA r) rfl rfl h3 (by rfl) (by kernel_rfl) (by simp [Value.oneCell', rpA]) (fun W6 hr9 => ?_) | (go_step; first | refine store_step (vs := rpA r) rfl rfl h3 (by rfl) (by kernel_rfl) (by simp [Value.oneCell', rpA]) (fun W6 hr9 => ?_) | (go_step; first | refine store_step (vs := rpA r) rfl rfl h3 (by rfl) (by kernel_rfl) (by simp [Value.oneCell', rpA]) (fun W6 hr9 => ?_) | (go_step; first | refine store_step (vs := rpA r) rfl rfl h3 (by rfl) (by kernel_rfl) (by simp [Value.oneCell', rpA]) (fun W6 hr9 => ?_) | (go_step; first | refine store_step (vs := rpA r) rfl rfl h3 (by rfl) (by kernel_rfl) (by simp [Value.oneCell', rpA]) (fun W6 hr9 => ?_) | (go_step; first | refine store_step (vs := rpA r) rfl rfl h3 (by rfl) (by kernel_rfl) (by simp [Value.oneCell', rpA]) (fun W6 hr9 => ?_) | (go_step; first | refine store_step (vs := rpA r) rfl rfl h3 (by rfl) (by kernel_rfl) (by simp [Value.oneCell', rpA]) (fun W6 hr9 => ?_) | (go_step; first | refine store_step (vs := rpA r) rfl rfl h3 (by rfl) (by kernel_rfl) (by simp [Value.oneCell', rpA]) (fun W6 hr9 => ?_) | (go_step; first | refine store_step (vs := rpA r) rfl rfl h3 (by rfl) (by kernel_rfl) (by simp [Value.oneCell', rpA]) (fun W6 hr9 => ?_) | (go_step; first | refine store_step (vs := rpA r) rfl rfl h3 (by rfl) (by kernel_rfl) (by simp [Value.oneCell', rpA]) (fun W6 hr9 => ?_) | (go_step; first | refine store_step (vs := rpA r) rfl rfl h3 (by rfl) (by kernel_rfl) (by simp [Value.oneCell', rpA]) (fun W6 hr9 => ?_) | (go_step; first | refine store_step (vs := rpA r) rfl rfl h3 (by rfl) (by kernel_rfl) (by simp [Value.oneCell', rpA]) (fun W6 hr9 => ?_) | (go_step; refine store_step (vs := rpA r) rfl rfl h3 (by rfl) (by kernel_rfl) (by simp [Value.oneCell', rpA]) (fun W6 hr9 => ?_)))))))))))))))))
        have hbl := hr9.blk
        have HB9 := Lib.hid (hr9.below (bl_alloc W5 _) (Nat.le_refl _))
        have D6 : DS W4 W6 b A cap l x4 1 [(W5.heap.size, rpA r, 39)] := (D5.al (rpA noRp) 39).re 0 rfl hr9 |>.le (by omega)
        generalize hO : W5.heap.size = O at D6 ⊢
        have HR6 := Lib.hid (gk D6.grown HR4.out HRb.out)
        have HF6 := Lib.hid (gk D6.grown HF4.out HFb.out)
        have lO6 : O < W6.heap.size := D6.lt (k := 0) rfl
        clear h3 hr9 hbl hO D5 HR5 HF5 HB9
        have cr2 : W6.cell? ⟨R, 2, none⟩ = some (.bool r.out) := cell_of HR6.out 2
        have co2 : W6.cell? ⟨O, 2, none⟩ = some (.bool r.out) := D6.cell 0 2 rfl rfl
        have zo2 : W6.frozen? ⟨O, 2, none⟩ = false := D6.froz 0 2 rfl
        go_upto_region 21 with (fail)
        generalize hW : World.setCell _ _ _ = W7
        have D7' : DS W4 W7 b A cap l x4 1 [(O, rpA { r with out := !r.out }, 39)] := by rw [← hW]; exact D6.set 0 2 _ rfl
        have hoT : RpT { r with out := !r.out } := ⟨hr.node, hr.sh, hr.sl, hr.th, hr.tl⟩
        clear hW D6 HR6 HF6 cr2 co2 zo2 lO6
        generalize ({ r with out := !r.out } : Rp) = o at D7' hoT
        obtain ⟨D7, -⟩ : DS W4 W7 b A cap l x4 1 [(O, rpA o, 39)] ∧ True := ⟨D7', trivial⟩
        clear D7'
        have HFb := Lib.hid (gk D7.grown HF4.out HFb.out)
        obtain ⟨-, c1, c2, c3, c4, c5, c6, -⟩ := flH HFb.out
        have lFb := lt_of_block HFb.out
        have lQb : O < W7.heap.size := D7.lt (k := 0) rfl
        obtain ⟨ob, hob⟩ : ∃ ob : Bool, o.out = ob := ⟨_, rfl⟩
        have cq : W7.cell? ⟨O, 2, none⟩ = some (.bool ob) := by rw [← hob]; exact D7.cell 0 2 rfl rfl
        clear hob
        have DAb := D7.al #[.bool f.t6, .int .u64 f.th, .int .u64 f.tl] 35
        have HFAb := Lib.hid (old1 (a := .cells #[.bool f.t6, .int .u64 f.th, .int .u64 f.tl] 35) HFb.out)
        go_upto_if 99 with (fail)
        generalize hW : World.alloc W7 _ = Xb at DAb HFAb ⊢
        generalize hP : W7.heap.size = Pb at DAb ⊢
        have HNPb := Lib.hid (show F < Pb ∧ O < Pb by omega)
        clear hW hP c4 c5 c6 c1 c2 c3 cq
        obtain ⟨-, c1, c2, c3, -⟩ := flH HFAb.out
        have cp0 : Xb.cell? ⟨Pb, 0, none⟩ = some (.bool f.t6) := DAb.cell 0 0 rfl rfl
        have cp1 : Xb.cell? ⟨Pb, 1, none⟩ = some (.int .u64 f.th) := DAb.cell 0 1 rfl rfl
        have cp2 : Xb.cell? ⟨Pb, 2, none⟩ = some (.int .u64 f.tl) := DAb.cell 0 2 rfl rfl
        have zp0 : Xb.frozen? ⟨Pb, 0, none⟩ = false := DAb.froz 0 0 rfl
        have zp1 : Xb.frozen? ⟨Pb, 1, none⟩ = false := DAb.froz 0 1 rfl
        have zp2 : Xb.frozen? ⟨Pb, 2, none⟩ = false := DAb.froz 0 2 rfl
        go_cut [] from 85 to 101 (fun wc => ∃ (s : Bool) (h lo : Int), U64 lo ∧ DS W4 wc b A cap l x4 1 [(Pb, #[.bool s, .int .u64 h, .int .u64 lo], 35), (O, rpA o, 39)])
        case first =>
          cases ob
          · go_wp2_with fail
            go_meet
            exact ⟨_, _, _, hf.tl, DAb⟩
          · go_wp2_with fail
            go_meet
            exact ⟨_, _, _, hf.sl, ((DAb.set 0 0 _ rfl).set 0 1 _ rfl).set 0 2 _ rfl⟩
        case rest =>
        obtain ⟨so, ho, lo, ulo, DBb⟩ := hcut
        clear DAb c1 c2 c3 cp0 cp1 cp2 zp0 zp1 zp2
        have cp2 : wc.cell? ⟨Pb, 2, none⟩ = some (.int .u64 lo) := DBb.cell 0 2 rfl rfl
        have cq0 : wc.cell? ⟨O, 0, none⟩ = some (.string o.node) := DBb.cell 1 0 rfl rfl
        have zq0 : wc.frozen? ⟨O, 0, none⟩ = false := DBb.froz 1 0 rfl
        have lQ2 : O < wc.heap.size := DBb.lt (k := 1) rfl
        obtain ⟨kk, hkk⟩ : ∃ kk, IntKind.u64.wrap (lo - 1681915904) = kk := ⟨_, rfl⟩
        have kb : 0 ≤ kk ∧ kk ≤ 18446744073709551615 := by rw [← hkk]; exact u64_bd _
        clear ulo
        obtain ⟨cv, hcv⟩ : ∃ cv : Bool, decide (1 ≤ kk ∧ kk ≤ 4) = cv := ⟨_, rfl⟩
        go_upto_region 25 with (fail)
        clear hkk
        obtain ⟨WBb, rfl⟩ : ∃ WB : World, WB = wc := ⟨_, rfl⟩
        go_cut [110] from 102 to 109 (fun v110 wc => v110 = .bool cv ∧ wc = WBb)
        case first =>
          by_cases hc : 1 ≤ kk ∧ kk ≤ 4
          · have e1 : decide (kk ≥ 1) = true := by simp; omega
            have e2 : decide (kk ≤ 4) = true := by simp; omega
            have e3 : decide (1 ≤ kk) = true := by simp; omega
            have hcv' : cv = true := by rw [← hcv]; simp; omega
            have HCV := Lib.hid hcv'
            clear hcv hcv' hc
            go_wp2_with fail
            go_meet
            exact ⟨by rw [HCV.out], rfl⟩
          · have hcv' : cv = false := by rw [← hcv]; simp; omega
            have HCV := Lib.hid hcv'
            have k1 : kk = 0 ∨ 4 < kk := by omega
            clear hc hcv hcv'
            rcases k1 with rfl | k4
            · go_wp2_with fail
              go_meet
              exact ⟨by rw [HCV.out], rfl⟩
            · have e1 : decide (kk ≥ 1) = true := by simp; omega
              have e2 : decide (kk ≤ 4) = false := by simp; omega
              have e3 : decide (1 ≤ kk) = true := by simp; omega
              go_wp2_with fail
              go_meet
              exact ⟨by rw [HCV.out], rfl⟩
        case rest =>
        obtain ⟨rfl, rfl⟩ := hcut
        go_upto_if 110 with (fail)
        go_cut [] from 110 to 115 (fun wc => ∃ o : Rp, RpT o ∧ DS W4 wc b A cap l x4 3 [(O, rpA o, 39)])
        case first =>
          cases cv
          · go_wp2_with fail
            clear cp2 cq0 zq0
            go_meet
            exact ⟨o, hoT, (DBb.drop).le (by omega)⟩
          · have hc4 : 1 ≤ kk ∧ kk ≤ 4 := by simpa using hcv
            clear hcv
            obtain ⟨i, rfl⟩ : ∃ i : Nat, kk = i := ⟨kk.toNat, by omega⟩
            obtain ⟨tn, htn, hcl⟩ := rs_name i (by omega) (by omega)
            have hcl' := hcl wc
            have i1 : decide ((i : Int) ≥ 1) = true := by simp; omega
            have i2 : decide ((i : Int) ≤ 4) = true := by simp; omega
            have i3 : decide ((1 : Int) ≤ (i : Int)) = true := by simp; omega
            have i4 : (i : Int) < 5 := by omega
            have i5 : i < 5 := by omega
            clear hc4 kb hcl
            go_wp2_with fail
            clear cp2 cq0 zq0 hcl'
            go_meet
            exact ⟨{ o with node := tn }, ⟨htn, hoT.sh, hoT.sl, hoT.th, hoT.tl⟩, (((DBb.set 1 0 (.string tn) rfl).alo (.cells #[.string ⟨#[]⟩, .string ⟨#[110, 97]⟩, .string ⟨#[110, 98]⟩, .string ⟨#[110, 99]⟩, .string ⟨#[110, 100]⟩] 9)).drop).le (by omega)⟩
        case rest =>
        obtain ⟨o2, hoT, D9⟩ := hcut
        obtain ⟨W9, rfl⟩ : ∃ W9 : World, W9 = wc := ⟨_, rfl⟩
        go_upto_region 27 with (fail)
        go_cut [] from 116 to 123 (fun wc => ∃ o : Rp, RpT o ∧ DS W4 wc b A cap l x4 12 [(O, rpA o, 39)])
        case first =>
          refine wp_region_drawn 8 (fun f' => ⟨#[.pointer (some ⟨b, 0, none⟩), .int .i64 N, undef, undef, .slice none 0 0, .slice g4 M4.length pc4, .pointer (some ⟨F, 0, none⟩), .pointer (some ⟨R, 0, none⟩), u8, u9, .pointer (some ⟨O, 0, none⟩), .pointer (some ⟨Pb, 0, none⟩), .int .u64 kk, undef, .int .i64 N, .int .i64 k, u16, u17, u18, u19, u20, u21, u22, u23, u24, u25, u26, u27, u28, u29, u30, u31, u32, u33, u34, u35, u36, u37, u38, u39, u40, u41, u42, u43, u44, u45, u46, u47, u48, u49, u50, u51, u52, u53, u54, u55, u56, u57, u58, u59, u60, u61, u62, u63, u64, u65, u66, u67, u68, u69, u70, u71, u72, u73, u74, u75, u76, u77, u78, u79, u80, u81, u82, u83, u84, u85, u86, u87, u88, u89, u90, u91, u92, u93, u94, u95, u96, u97, u98, u99, u100, u101, u102, u103, u104, u105, u106, u107, u108, u109, u110, u111, u112, u113, u114, u115, f' 0, f' 1, f' 2, f' 3, f' 4, f' 5, f' 6, f' 7, u124, u125, u126, u127, u128, u129, u130, u131, u132, u133, u134, u135, u136, undef, undef, undef, undef, undef, undef, undef, undef, undef, undef, undef, undef, undef, undef, undef, undef, undef, undef, undef, undef, undef, undef, undef, undef, undef, undef, undef, undef, undef, undef, undef, undef, undef, undef, undef, undef, undef, undef, undef, undef, undef, undef, undef, undef, undef, undef, undef, undef, undef, undef, undef, undef, undef, undef], []⟩) (VL [VIs (.pointer (some ⟨R, 12, none⟩)), VIs (.int .i64 r.pk), VIs (.pointer (some ⟨b, 0, none⟩)), VBox b #[.int .i64 0, .int .i64 0, .int .i64 (-1), .int .i64 (-5), .int .i64 1] 3 5, VInt (· ∈ ([0, 0, -1, -5, 1] : List Int)), VInt (fun _ => True), VInt (fun _ => True), VIs (.pointer (some ⟨O, 12, none⟩))]) (GD W4 W9 b A cap l x4 3 [(O, rpA o2, 39)]) (fun w w' => w.grownBy w' (some b)) (fun i => match i with | 0 => u116 | 1 => u117 | 2 => u118 | 3 => u119 | 4 => u120 | 5 => u121 | 6 => u122 | 7 => u123 | _ => undef) (show Tryz.prog.follows .mixedOrders = true from by kernel_rfl) (by kernel_rfl) ?_ ?_ ?_ (GD.start D9)
          · exact fun i w w' v h hg => VL.stab (by
              intro p hp
              simp only [List.mem_cons, List.mem_nil_iff, or_false] at hp
              rcases hp with rfl | rfl | rfl | rfl | rfl | rfl | rfl | rfl <;> first | exact VIs.stab _ _ | exact VBox.stab _ _ _ _ | exact VInt.stab _ _ | exact VVal.stab _ _ | exact VStr.stab _ _ | exact VFlip.stab _ | exact VNew.stab _ _ _ _) i w w' v h hg
          · intro i op hi ho f' w' kk hkk hG hd
            have HRw := gk hG.1.grown HR4.out HRb.out
            have cR : w'.cell? ⟨R, 12, none⟩ = some (.int .i64 r.pk) := cell_of HRw 12
            have cO : w'.cell? ⟨O, 12, none⟩ = some (.int .i64 o2.pk) := hG.1.cell 0 12 rfl rfl
            have zO : w'.frozen? ⟨O, 12, none⟩ = false := hG.1.froz 0 12 rfl
            clear HRw
            have HG := Lib.hid hG
            clear hG
            have hcase : i = 0 ∨ i = 1 ∨ i = 2 ∨ i = 3 ∨ i = 4 ∨ i = 5 ∨ i = 6 ∨ i = 7 := by omega
            rcases hcase with rfl | rfl | rfl | rfl | rfl | rfl | rfl | rfl <;> (replace ho := Option.some.inj ho; subst ho)
            · unfold Oper.wp
              go_simp
              exact ⟨_, (by first | (simp [upd]; done) | (simp [upd]; omega)), rfl, HG.out.same, gr_refl _ _⟩
            · have e0 : f' 0 = _ := hd ⟨0, .data⟩ (by simp) rfl
              unfold Oper.wp
              go_simp
              exact ⟨_, (by first | (simp [upd, e0]; done) | (simp [upd, e0]; omega)), rfl, HG.out.same, gr_refl _ _⟩
            · unfold Oper.wp
              go_simp
              exact ⟨_, (by first | (simp [upd]; done) | (simp [upd]; omega)), rfl, HG.out.same, gr_refl _ _⟩
            · unfold Oper.wp
              go_simp
              exact ⟨_, (by simp [upd]), ⟨_, rfl, al1 _ _, by have := HG.out.1.blt; omega⟩, HG.out.alo _, gr_alo _ _ _⟩
            · have e2 : f' 2 = _ := hd ⟨2, .data⟩ (by simp) rfl
              obtain ⟨g3, e3, hb3, hn3⟩ := hd ⟨3, .data⟩ (by simp) rfl
              unfold Oper.wp
              go_simp
              refine (DS.pickB HG.out.1 (Below.refl _ _) (by omega) [0, 0, -1, -5, 1] hb3 (fun e => hn3 e.symm) (by simp) (by simp) 5 5 rfl).mono ?_
              rintro e W9 ⟨⟨d, hd9, rfl⟩, D9, hg9⟩
              exact ⟨_, (by simp [upd, e2, e3]), ⟨d, by simpa using hd9, rfl⟩, HG.out.ext D9 hg9, hg9⟩
            · have e1 : f' 1 = _ := hd ⟨1, .data⟩ (by simp) rfl
              obtain ⟨d4, hd4, e4⟩ := hd ⟨4, .data⟩ (by simp) rfl
              unfold Oper.wp
              go_simp
              exact ⟨.int .i64 (IntKind.i64.wrap (r.pk + d4)), (by simp [upd, e1, e4]), ⟨IntKind.i64.wrap (r.pk + d4), trivial, rfl⟩, HG.out.same, gr_refl _ _⟩
            · obtain ⟨d5, hd5, e5⟩ := hd ⟨5, .data⟩ (by simp) rfl
              unfold Oper.wp
              go_simp
              exact ⟨.int .i64 (max 1 d5), (by simp [upd, e5]), ⟨max 1 d5, trivial, rfl⟩, HG.out.same, gr_refl _ _⟩
            · unfold Oper.wp
              go_simp
              exact ⟨_, (by first | (simp [upd]; done) | (simp [upd]; omega)), rfl, HG.out.same, gr_refl _ _⟩
          · intro op ho f' w' kk hkk hG hd
            have HRw := gk hG.1.grown HR4.out HRb.out
            have cR : w'.cell? ⟨R, 12, none⟩ = some (.int .i64 r.pk) := cell_of HRw 12
            have cO : w'.cell? ⟨O, 12, none⟩ = some (.int .i64 o2.pk) := hG.1.cell 0 12 rfl rfl
            have zO : w'.frozen? ⟨O, 12, none⟩ = false := hG.1.froz 0 12 rfl
            clear HRw
            have HG := Lib.hid hG
            clear hG
            obtain ⟨d6, hd6, e6⟩ := hd 6 (by omega)
            have e7 : f' 7 = _ := hd 7 (by omega)
            replace ho := Option.some.inj ho
            subst ho
            unfold Oper.wp
            go_simp
            first | (go_step; go_meet) | go_meet
            exact ⟨{ o2 with pk := d6 }, ⟨hoT.node, hoT.sh, hoT.sl, hoT.th, hoT.tl⟩, (HG.out.1.set 0 12 _ rfl).le (by omega)⟩
        case rest =>
        clear D9 hoT
        obtain ⟨o3, hoT, D9⟩ := hcut
        obtain ⟨W9, rfl⟩ : ∃ W9 : World, W9 = wc := ⟨_, rfl⟩
        go_upto_region 28 with (fail)
        go_cut [] from 124 to 131 (fun wc => ∃ o : Rp, RpT o ∧ DS W4 wc b A cap l x4 21 [(O, rpA o, 39)])
        case first =>
          refine wp_region_drawn 8 (fun f' => ⟨#[.pointer (some ⟨b, 0, none⟩), .int .i64 N, undef, undef, .slice none 0 0, .slice g4 M4.length pc4, .pointer (some ⟨F, 0, none⟩), .pointer (some ⟨R, 0, none⟩), u8, u9, .pointer (some ⟨O, 0, none⟩), .pointer (some ⟨Pb, 0, none⟩), .int .u64 kk, undef, .int .i64 N, .int .i64 k, u16, u17, u18, u19, u20, u21, u22, u23, u24, u25, u26, u27, u28, u29, u30, u31, u32, u33, u34, u35, u36, u37, u38, u39, u40, u41, u42, u43, u44, u45, u46, u47, u48, u49, u50, u51, u52, u53, u54, u55, u56, u57, u58, u59, u60, u61, u62, u63, u64, u65, u66, u67, u68, u69, u70, u71, u72, u73, u74, u75, u76, u77, u78, u79, u80, u81, u82, u83, u84, u85, u86, u87, u88, u89, u90, u91, u92, u93, u94, u95, u96, u97, u98, u99, u100, u101, u102, u103, u104, u105, u106, u107, u108, u109, u110, u111, u112, u113, u114, u115, u116, u117, u118, u119, u120, u121, u122, u123, f' 0, f' 1, f' 2, f' 3, f' 4, f' 5, f' 6, f' 7, u132, u133, u134, u135, u136, undef, undef, undef, undef, undef, undef, undef, undef, undef, undef, undef, undef, undef, undef, undef, undef, undef, undef, undef, undef, undef, undef, undef, undef, undef, undef, undef, undef, undef, undef, undef, undef, undef, undef, undef, undef, undef, undef, undef, undef, undef, undef, undef, undef, undef, undef, undef, undef, undef, undef, undef, undef, undef, undef], []⟩) (VL [VIs (.pointer (some ⟨R, 13, none⟩)), VIs (.int .i64 r.by_), VIs (.pointer (some ⟨b, 0, none⟩)), VBox b #[.int .i64 0, .int .i64 (-50), .int .i64 (-1), .int .i64 20] 3 4, VInt (· ∈ ([0, -50, -1, 20] : List Int)), VInt (fun _ => True), VInt (fun _ => True), VIs (.pointer (some ⟨O, 13, none⟩))]) (GD W4 W9 b A cap l x4 12 [(O, rpA o3, 39)]) (fun w w' => w.grownBy w' (some b)) (fun i => match i with | 0 => u124 | 1 => u125 | 2 => u126 | 3 => u127 | 4 => u128 | 5 => u129 | 6 => u130 | 7 => u131 | _ => undef) (show Tryz.prog.follows .mixedOrders = true from by kernel_rfl) (by kernel_rfl) ?_ ?_ ?_ (GD.start D9)
          · exact fun i w w' v h hg => VL.stab (by
              intro p hp
              simp only [List.mem_cons, List.mem_nil_iff, or_false] at hp
              rcases hp with rfl | rfl | rfl | rfl | rfl | rfl | rfl | rfl <;> first | exact VIs.stab _ _ | exact VBox.stab _ _ _ _ | exact VInt.stab _ _ | exact VVal.stab _ _ | exact VStr.stab _ _ | exact VFlip.stab _ | exact VNew.stab _ _ _ _) i w w' v h hg
          · intro i op hi ho f' w' kk hkk hG hd
            have HRw := gk hG.1.grown HR4.out HRb.out
            have cR : w'.cell? ⟨R, 13, none⟩ = some (.int .i64 r.by_) := cell_of HRw 13
            have cO : w'.cell? ⟨O, 13, none⟩ = some (.int .i64 o3.by_) := hG.1.cell 0 13 rfl rfl
            have zO : w'.frozen? ⟨O, 13, none⟩ = false := hG.1.froz 0 13 rfl
            clear HRw
            have HG := Lib.hid hG
            clear hG
            have hcase : i = 0 ∨ i = 1 ∨ i = 2 ∨ i = 3 ∨ i = 4 ∨ i = 5 ∨ i = 6 ∨ i = 7 := by omega
            rcases hcase with rfl | rfl | rfl | rfl | rfl | rfl | rfl | rfl <;> (replace ho := Option.some.inj ho; subst ho)
            · unfold Oper.wp
              go_simp
              exact ⟨_, (by first | (simp [upd]; done) | (simp [upd]; omega)), rfl, HG.out.same, gr_refl _ _⟩
            · have e0 : f' 0 = _ := hd ⟨0, .data⟩ (by simp) rfl
              unfold Oper.wp
              go_simp
              exact ⟨_, (by first | (simp [upd, e0]; done) | (simp [upd, e0]; omega)), rfl, HG.out.same, gr_refl _ _⟩
            · unfold Oper.wp
              go_simp
              exact ⟨_, (by first | (simp [upd]; done) | (simp [upd]; omega)), rfl, HG.out.same, gr_refl _ _⟩
            · unfold Oper.wp
              go_simp
              exact ⟨_, (by simp [upd]), ⟨_, rfl, al1 _ _, by have := HG.out.1.blt; omega⟩, HG.out.alo _, gr_alo _ _ _⟩
            · have e2 : f' 2 = _ := hd ⟨2, .data⟩ (by simp) rfl
              obtain ⟨g3, e3, hb3, hn3⟩ := hd ⟨3, .data⟩ (by simp) rfl
              unfold Oper.wp
              go_simp
              refine (DS.pickB HG.out.1 (Below.refl _ _) (by omega) [0, -50, -1, 20] hb3 (fun e => hn3 e.symm) (by simp) (by simp) 4 4 rfl).mono ?_
              rintro e W9 ⟨⟨d, hd9, rfl⟩, D9, hg9⟩
              exact ⟨_, (by simp [upd, e2, e3]), ⟨d, by simpa using hd9, rfl⟩, HG.out.ext D9 hg9, hg9⟩
            · have e1 : f' 1 = _ := hd ⟨1, .data⟩ (by simp) rfl
              obtain ⟨d4, hd4, e4⟩ := hd ⟨4, .data⟩ (by simp) rfl
              unfold Oper.wp
              go_simp
              exact ⟨.int .i64 (IntKind.i64.wrap (r.by_ + d4)), (by simp [upd, e1, e4]), ⟨IntKind.i64.wrap (r.by_ + d4), trivial, rfl⟩, HG.out.same, gr_refl _ _⟩
            · obtain ⟨d5, hd5, e5⟩ := hd ⟨5, .data⟩ (by simp) rfl
              unfold Oper.wp
              go_simp
              exact ⟨.int .i64 (max 0 d5), (by simp [upd, e5]), ⟨max 0 d5, trivial, rfl⟩, HG.out.same, gr_refl _ _⟩
            · unfold Oper.wp
              go_simp
              exact ⟨_, (by first | (simp [upd]; done) | (simp [upd]; omega)), rfl, HG.out.same, gr_refl _ _⟩
          · intro op ho f' w' kk hkk hG hd
            have HRw := gk hG.1.grown HR4.out HRb.out
            have cR : w'.cell? ⟨R, 13, none⟩ = some (.int .i64 r.by_) := cell_of HRw 13
            have cO : w'.cell? ⟨O, 13, none⟩ = some (.int .i64 o3.by_) := hG.1.cell 0 13 rfl rfl
            have zO : w'.frozen? ⟨O, 13, none⟩ = false := hG.1.froz 0 13 rfl
            clear HRw
            have HG := Lib.hid hG
            clear hG
            obtain ⟨d6, hd6, e6⟩ := hd 6 (by omega)
            have e7 : f' 7 = _ := hd 7 (by omega)
            replace ho := Option.some.inj ho
            subst ho
            unfold Oper.wp
            go_simp
            first | (go_step; go_meet) | go_meet
            exact ⟨{ o3 with by_ := d6 }, ⟨hoT.node, hoT.sh, hoT.sl, hoT.th, hoT.tl⟩, (HG.out.1.set 0 13 _ rfl).le (by omega)⟩
        case rest =>
        clear D9 hoT
        obtain ⟨o4, hoT, D9⟩ := hcut
        obtain ⟨W9, rfl⟩ : ∃ W9 : World, W9 = wc := ⟨_, rfl⟩
        have HO9 := Lib.hid (HO4.out.kept D9.grown (.inr HNB4.out))
        have HE9 : Hid (W9.heap[O]? = some (.cells #[.string o4.node, .int .i64 o4.hour, .bool o4.out, .int .i64 o4.f.proto, .bool o4.f.s6, .int .u64 o4.f.sh, .int .u64 o4.f.sl, .bool o4.f.t6, .int .u64 o4.f.th, .int .u64 o4.f.tl, .int .i64 o4.f.fp, .int .i64 o4.f.tp, .int .i64 o4.pk, .int .i64 o4.by_] 39 (0, 0))) := Lib.hid (D9.blk _ (List.mem_of_getElem? (i := 0) rfl))
        have hM4' : M4.length ≤ 19 := by omega
        have HG9 := Lib.hid (HG4.out.andThen D9.grown (fun _ h => .inr h))
        have hsz9 : w.heap.size ≤ W9.heap.size := HG9.out.size
        have HD9 := Lib.hid D9
        clear D9
        go_upto_region 29 with (fail)
        first | refine load_step rfl HE9.out (by kernel_rfl) (by kernel_rfl) ?_ | (go_step; first | refine load_step rfl HE9.out (by kernel_rfl) (by kernel_rfl) ?_ | (go_step; first | refine load_step rfl HE9.out (by kernel_rfl) (by kernel_rfl) ?_ | (go_step; first | refine load_step rfl HE9.out (by kernel_rfl) (by kernel_rfl) ?_ | (go_step; first | refine load_step rfl HE9.out (by kernel_rfl) (by kernel_rfl) ?_ | (go_step; first | refine load_step rfl HE9.out (by kernel_rfl) (by kernel_rfl) ?_ | (go_step; first | refine load_step rfl HE9.out (by kernel_rfl) (by kernel_rfl) ?_ | (go_step; first | refine load_step rfl HE9.out (by kernel_rfl) (by kernel_rfl) ?_ | (go_step; first | refine load_step rfl HE9.out (by kernel_rfl) (by kernel_rfl) ?_ | (go_step; first | refine load_step rfl HE9.out (by kernel_rfl) (by kernel_rfl) ?_ | (go_step; first | refine load_step rfl HE9.out (by kernel_rfl) (by kernel_rfl) ?_ | (go_step; first | refine load_step rfl HE9.out (by kernel_rfl) (by kernel_rfl) ?_ | (go_step; first | refine load_step rfl HE9.out (by kernel_rfl) (by kernel_rfl) ?_ | (go_step; first | refine load_step rfl HE9.out (by kernel_rfl) (by kernel_rfl) ?_ | (go_step; first | refine load_step rfl HE9.out (by kernel_rfl) (by kernel_rfl) ?_ | (go_step; first | refine load_step rfl HE9.out (by kernel_rfl) (by kernel_rfl) ?_ | (go_step; refine load_step rfl HE9.out (by kernel_rfl) (by kernel_rfl) ?_))))))))))))))))
        go_wp2_with (at_builtin; refine wpList_append_own _ rfl (.tmp 132) (.tmp 134) 26 rfl w.heap.size 39 i0 (.agg #[.string ⟨#[]⟩, .int .i64 0, .bool false, .int .i64 0, .bool false, .int .u64 0, .int .u64 0, .bool false, .int .u64 0, .int .u64 0, .int .i64 0, .int .i64 0, .int .i64 0, .int .i64 0]) 14 120 Tryz.underlying26 hi hz0 hz1 hz2 rfl (by decide) _ _ _ rfl (World.ownsRow.alloc HO9.out _) ⟨W9.heap.size, 0, none⟩ 1 1 (rpC o4) rfl rfl ?d1 ?d2 ?d3 ?d4 ?d5 ?_)
        case d1 => first | exact cells_new14 W9 (rpC o4) _ | exact fun j u h => h
        case d2 => exact rpC_one o4
        case d3 => first | (unfold maxLen; simp; done) | (unfold maxLen; omega)
        case d4 => first | (simp; done) | omega
        case d5 => first | (simp; omega) | omega
        intro v5 W12 ho12 hg12 _
        have HI := Lib.hid (rs_end2 HD9.out hg12 ho12 HO4.out hbw HG9.out HMT4.out hoT hM4 HX4'.out HX0.out HX1.out)
        clear ho12 hg12
        go_wp2_with fail
        go_roundw
        case rel => exact ⟨k + 1, by omega, by go_num, HI.out⟩
        case measure => simp [intOf]; omega
    · have hkn : k = N := by omega
      subst hkn
      have hd : decide ((k : Int) < (k : Int)) = false := by simp
      go_wp2_with fail
      have hl20 : M.length ≤ 20 := by omega
      have HMT := Lib.hid hMT
      have hss := rp_sortStable g pc M 23 #[] refR wr entersRO (own_weak ho (Nat.zero_le _)) hl20 (fun wq _ W p q hp hq _ => (reportOrder_any p q W (HMT.out p hp) (HMT.out q hq)).mono fun e w' h => h)
      have HK : Hid (RsE w wr b A cap l at_ 1000 g pc M.length) := Lib.hid ⟨M, x, rfl, hMT, ⟨hx0, by omega⟩, hs, hg, ho⟩
      have HL20 := Lib.hid hl20
      clear hML hMT hx0 hx1 hs hg ho hl20
      refine hss.mono ?_
      rintro e W2 ⟨rfl, hs2⟩
      have hK2 := HK.out.next hbw hs2 (isortL_length _ _) (fun r hr => HMT.out r (isortL_mem.1 hr))
      clear hss HK HMT hs2
      generalize hn : M.length = n at hK2 HL20 ⊢
      clear hn
      go_upto_region 32 with (fail)
      go_cut [5] from 137 to 140 (fun v5 wc => ∃ (g : Option Addr) (pc n : Nat), v5 = .slice g n pc ∧ n ≤ 20 ∧ RsE w wc b A cap l at_ 1000 g pc n)
      case first =>
        have HK2 := Lib.hid hK2
        by_cases h0 : n = 0
        · subst h0
          clear hK2
          go_wp2_with fail
          refine (compact_nil g pc _ W2).mono ?_
          rintro e W3 ⟨rfl, rfl⟩
          go_wp2_with fail
          go_meet
          exact ⟨g, pc, 0, rfl, by omega, HK2.out⟩
        · obtain ⟨M2, x2, hm2, ht2, hx2, hs2, hg2, ho2⟩ := hK2
          obtain ⟨gb, rfl, hgb, hgl⟩ := own_some ho2 (by omega)
          have HT2 := Lib.hid ht2
          have hcm := compact_any gb pc M2 25 #[] (fun p q => refR p q == 0) W2 entersSR (own_weak ho2 (Nat.zero_le _)) (by have := HL20.out; omega) (fun wq _ W p q hp hq _ => sameR_any p q W (HT2.out p hp) (HT2.out q hq))
          have HM2 := Lib.hid hm2
          rw [hm2] at hcm
          clear hm2 ht2 hx2 hs2 hg2 ho2 hgb hgl h0
          go_wp2_with fail
          refine hcm.mono ?_
          rintro e W3 ⟨L', rfl, hL1, hL2, hs3⟩
          have HK3 := Lib.hid (HK2.out.next2 hbw hs3 (fun r hr => HT2.out r (hL1 r hr)) hL2)
          have HL2 := Lib.hid hL2
          clear hs3 hL1 hL2 hcm
          go_wp2_with fail
          go_meet
          exact ⟨_, pc, L'.length, rfl, by have := HL20.out; have := HL2.out; omega, HK3.out⟩
      case rest =>
      obtain ⟨g, pc, n, rfl, hn20, hK3⟩ := hcut
      obtain ⟨W3, rfl⟩ : ∃ W3 : World, W3 = wc := ⟨_, rfl⟩
      clear hK2
      have HK3 := Lib.hid hK3
      by_cases h0 : n = 0
      · subst h0
        clear hK3
        go_wp2_with fail
        go_ret
        exact rs_fin HK3.out (by omega) (by omega)
      · have h1 : decide ((n : Int) > 0) = true := by simp; omega
        have h2 : 0 < n := by omega
        have h3 : decide ((0 : Int) < (n : Int)) = true := by simp; omega
        obtain ⟨M, x, hm, ht, hx, hs, hg, ho⟩ := hK3
        obtain ⟨gb, rfl, hgb, hgl⟩ := own_some ho (by omega)
        have HM := Lib.hid hm
        have HT := Lib.hid ht
        have HX := Lib.hid hx
        have HG := Lib.hid hg
        have HO := Lib.hid ho
        have HGB := Lib.hid hgb
        have hx9 : x < 1099511600000 + 1000 := by omega
        have E0 := DS.start hs
        clear hm ht hx hs hg ho h0
        go_wp2_with fail
        refine (E0.flip (by omega) 15 (by omega) (by omega)).mono ?_
        rintro e W4 ⟨⟨y, rfl⟩, E1, -⟩
        clear E0
        cases y
        · go_wp2_with fail
          go_ret
          exact rs_fin (HK3.out.step hbw E1 HX.out) (by omega) (by omega)
        · go_wp2_with fail
          refine (E1.next (by omega) n (by omega) (by omega)).mono ?_
          rintro e W5 ⟨⟨d, hd0, hdn, rfl⟩, E2, -⟩
          clear E1
          obtain ⟨i, rfl⟩ : ∃ i : Nat, d = i := ⟨d.toNat, by omega⟩
          have hin : i < n := by omega
          go_wp2_with fail
          refine (E2.next (by omega) 5 (by omega) (by omega)).mono ?_
          rintro e W6 ⟨⟨q, hq0, hq5, rfl⟩, E3, -⟩
          clear E2
          have hc : q = 0 ∨ q = 1 ∨ q = 2 ∨ q = 3 ∨ q = 4 := by omega
          clear hq0 hq5
          obtain ⟨r, hr⟩ : ∃ r, M.getD i noRp = r := ⟨_, rfl⟩
          have HR := Lib.hid hr
          have HRT : Hid (RpT r) := Lib.hid (by rw [← hr]; exact HT.out _ (rw_mem (by rw [HM.out]; exact hin)))
          clear hr
          rcases hc with rfl | rfl | rfl | rfl | rfl
          · go_wp2_with fail
            refine (E3.sm (by omega) [⟨#[]⟩, ⟨#[65]⟩, ⟨#[110, 97]⟩] rfl rfl (by simp) (by simp) 3 3 rfl).mono ?_
            rintro e W7 ⟨⟨t, ht, rfl⟩, E4, -⟩
            clear E3
            have hcw := rs_cells E4 HO.out HGB.out hbw HM.out hin HR.out
            have c0 : W7.cell? ⟨gb, i * 14, none⟩ = some _ := hcw.1 0 _ rfl
            have z0 : W7.frozen? ⟨gb, i * 14, none⟩ = false := hcw.2 (i * 14 + 0)
            clear hcw
            go_wp2_with fail
            go_ret
            exact rs_fin (rs_puts E4 HG.out HO.out hbw HT.out HX.out HM.out hin HR.out 0 [.string t] { r with node := t } rfl ⟨(by simp only [List.mem_cons, List.mem_nil_iff, or_false] at ht; show t.size ≤ 1000; rcases ht with h | h | h <;> (rw [h]; decide)), HRT.out.sh, HRT.out.sl, HRT.out.th, HRT.out.tl⟩ (by simp)) (by omega) (by omega)
          · go_wp2_with fail
            refine (E3.odd (by omega) 0 96023 (by omega) (by omega) (by omega)).mono ?_
            rintro e W7 ⟨⟨d, rfl⟩, E4, -⟩
            clear E3
            have hcw := rs_cells E4 HO.out HGB.out hbw HM.out hin HR.out
            have c1 : W7.cell? ⟨gb, i * 14 + 1, none⟩ = some _ := hcw.1 1 _ rfl
            have z1 : W7.frozen? ⟨gb, i * 14 + 1, none⟩ = false := hcw.2 (i * 14 + 1)
            clear hcw
            go_wp2_with fail
            go_ret
            exact rs_fin (rs_puts E4 HG.out HO.out hbw HT.out HX.out HM.out hin HR.out 1 [.int .i64 d] { r with hour := d } rfl ⟨HRT.out.node, HRT.out.sh, HRT.out.sl, HRT.out.th, HRT.out.tl⟩ (by simp)) (by omega) (by omega)
          · go_wp2_with fail
            refine (E3.aflow (by omega)).mono ?_
            rintro e W7 ⟨⟨f, hf, rfl⟩, E4, -⟩
            clear E3
            have hcw := rs_cells E4 HO.out HGB.out hbw HM.out hin HR.out
            have c3 : W7.cell? ⟨gb, i * 14 + 3, none⟩ = some _ := hcw.1 3 _ rfl
            have z3 : W7.frozen? ⟨gb, i * 14 + 3, none⟩ = false := hcw.2 (i * 14 + 3)
            have c4 : W7.cell? ⟨gb, i * 14 + 4, none⟩ = some _ := hcw.1 4 _ rfl
            have z4 : W7.frozen? ⟨gb, i * 14 + 4, none⟩ = false := hcw.2 (i * 14 + 4)
            have c5 : W7.cell? ⟨gb, i * 14 + 5, none⟩ = some _ := hcw.1 5 _ rfl
            have z5 : W7.frozen? ⟨gb, i * 14 + 5, none⟩ = false := hcw.2 (i * 14 + 5)
            have c6 : W7.cell? ⟨gb, i * 14 + 6, none⟩ = some _ := hcw.1 6 _ rfl
            have z6 : W7.frozen? ⟨gb, i * 14 + 6, none⟩ = false := hcw.2 (i * 14 + 6)
            have c7 : W7.cell? ⟨gb, i * 14 + 7, none⟩ = some _ := hcw.1 7 _ rfl
            have z7 : W7.frozen? ⟨gb, i * 14 + 7, none⟩ = false := hcw.2 (i * 14 + 7)
            have c8 : W7.cell? ⟨gb, i * 14 + 8, none⟩ = some _ := hcw.1 8 _ rfl
            have z8 : W7.frozen? ⟨gb, i * 14 + 8, none⟩ = false := hcw.2 (i * 14 + 8)
            have c9 : W7.cell? ⟨gb, i * 14 + 9, none⟩ = some _ := hcw.1 9 _ rfl
            have z9 : W7.frozen? ⟨gb, i * 14 + 9, none⟩ = false := hcw.2 (i * 14 + 9)
            have c10 : W7.cell? ⟨gb, i * 14 + 10, none⟩ = some _ := hcw.1 10 _ rfl
            have z10 : W7.frozen? ⟨gb, i * 14 + 10, none⟩ = false := hcw.2 (i * 14 + 10)
            have c11 : W7.cell? ⟨gb, i * 14 + 11, none⟩ = some _ := hcw.1 11 _ rfl
            have z11 : W7.frozen? ⟨gb, i * 14 + 11, none⟩ = false := hcw.2 (i * 14 + 11)
            clear hcw
            go_wp2_with fail
            go_ret
            exact rs_fin (rs_puts E4 HG.out HO.out hbw HT.out HX.out HM.out hin HR.out 3 [.int .i64 f.proto, .bool f.s6, .int .u64 f.sh, .int .u64 f.sl, .bool f.t6, .int .u64 f.th, .int .u64 f.tl, .int .i64 f.fp, .int .i64 f.tp] { r with f := f } rfl ⟨HRT.out.node, hf.sh, hf.sl, hf.th, hf.tl⟩ (by simp)) (by omega) (by omega)
          · go_wp2_with fail
            refine (E3.odd (by omega) 1 1000000000000 (by omega) (by omega) (by omega)).mono ?_
            rintro e W7 ⟨⟨d, rfl⟩, E4, -⟩
            clear E3
            have hcw := rs_cells E4 HO.out HGB.out hbw HM.out hin HR.out
            have c12 : W7.cell? ⟨gb, i * 14 + 12, none⟩ = some _ := hcw.1 12 _ rfl
            have z12 : W7.frozen? ⟨gb, i * 14 + 12, none⟩ = false := hcw.2 (i * 14 + 12)
            clear hcw
            go_wp2_with fail
            go_ret
            exact rs_fin (rs_puts E4 HG.out HO.out hbw HT.out HX.out HM.out hin HR.out 12 [.int .i64 d] { r with pk := d } rfl ⟨HRT.out.node, HRT.out.sh, HRT.out.sl, HRT.out.th, HRT.out.tl⟩ (by simp)) (by omega) (by omega)
          · go_wp2_with fail
            refine (E3.odd (by omega) 0 1000000000000 (by omega) (by omega) (by omega)).mono ?_
            rintro e W7 ⟨⟨d, rfl⟩, E4, -⟩
            clear E3
            have hcw := rs_cells E4 HO.out HGB.out hbw HM.out hin HR.out
            have c13 : W7.cell? ⟨gb, i * 14 + 13, none⟩ = some _ := hcw.1 13 _ rfl
            have z13 : W7.frozen? ⟨gb, i * 14 + 13, none⟩ = false := hcw.2 (i * 14 + 13)
            clear hcw
            go_wp2_with fail
            go_ret
            exact rs_fin (rs_puts E4 HG.out HO.out hbw HT.out HX.out HM.out hin HR.out 13 [.int .i64 d] { r with by_ := d } rfl ⟨HRT.out.node, HRT.out.sh, HRT.out.sl, HRT.out.th, HRT.out.tl⟩ (by simp)) (by omega) (by omega)
end Go.Proofs.YthjfnlbekbhmgaaGreatDoor
