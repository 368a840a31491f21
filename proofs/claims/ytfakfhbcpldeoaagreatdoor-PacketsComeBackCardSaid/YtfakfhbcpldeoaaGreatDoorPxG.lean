/- Packets as bytes: partOf and partSum of any packet; words for write. -/
import Derived.Test.YtfakfhbcpldeoaaGreatDoorPxF
namespace Go.Proofs.YtfakfhbcpldeoaaGreatDoor
open Go.RowKit Go.Hw

/-- The fields of a packet lie in their bounds. -/
structure PkR (p : Pk) : Prop where
  proto : 0 ≤ p.f.proto ∧ p.f.proto ≤ 255
  six : p.f.t6 = p.f.s6
  ad : 0 ≤ p.f.sh ∧ 0 ≤ p.f.sl ∧ 0 ≤ p.f.th ∧ 0 ≤ p.f.tl
  fp : 0 ≤ p.f.fp ∧ p.f.fp ≤ 65535
  tp : 0 ≤ p.f.tp ∧ p.f.tp ≤ 65535
  seq : 0 ≤ p.seq ∧ p.seq ≤ 4294967295
  ack : 0 ≤ p.ack ∧ p.ack ≤ 4294967295
  id : 0 ≤ p.id ∧ p.id ≤ 65535
  hops : 0 ≤ p.hops ∧ p.hops ≤ 255
theorem PkOk.r {p : Pk} (h : PkOk p) : PkR p :=
  ⟨by rcases h.known with e | e | e <;> omega, h.fl.six, ⟨h.fl.src.1, h.fl.src.2.2.1, h.fl.dst.1, h.fl.dst.2.2.1⟩, h.fl.fp, h.fl.tp, h.seq, h.ack, h.id, h.hops⟩
/-- A payload. -/
structure PayAt (w : World) (p : Pk) (pay : List UInt8) : Prop where
  at_ : bAt w p.pA pay
  len : pay.length = p.pn
  nil : p.pA = none → p.pc = 0
  le : p.pn ≤ 5000
theorem PayAt.below {w w' : World} {p : Pk} {pay : List UInt8} (h : PayAt w p pay) (hb : Below w.heap.size w w') : PayAt w' p pay := ⟨h.at_.below hb, h.len, h.nil, h.le⟩
theorem partOf_any (p : Pk) (h : PkR p) (pay : List UInt8) (w : World) (hp : PayAt w p pay) :
    Calls Tryz.prog 25 #[.agg (pkA p)] w fun e w' => ∃ A n cap, e = .returned (.slice A n cap) ∧ bOwn w' (w.heap.size + 1) A n cap (partP p pay) ∧ Below w.heap.size w w' := by
  obtain ⟨⟨proto, s6, sh, sl, t6, th, tl, fp, tp⟩, hops, syn, fin, rst, has, seq, ack, reply, id_, pA, pn, pc⟩ := p
  obtain ⟨h1, -, -, h2, h3, h4, h5, h6, -⟩ := h
  dsimp only at h1 h2 h3 h4 h5 h6
  obtain ⟨fp, rfl⟩ : ∃ n : Nat, fp = n := ⟨fp.toNat, by omega⟩
  obtain ⟨tp, rfl⟩ : ∃ n : Nat, tp = n := ⟨tp.toNat, by omega⟩
  obtain ⟨seq, rfl⟩ : ∃ n : Nat, seq = n := ⟨seq.toNat, by omega⟩
  obtain ⟨ack, rfl⟩ : ∃ n : Nat, ack = n := ⟨ack.toNat, by omega⟩
  obtain ⟨id_, rfl⟩ : ∃ n : Nat, id_ = n := ⟨id_.toNat, by omega⟩
  by_cases e6 : proto = 6
  · subst e6
    exact partTcp s6 sh sl t6 th tl fp tp hops syn fin rst has seq ack reply id_ pA pn pc pay w hp.at_ hp.len hp.nil (Nat.le_trans hp.le (by omega)) (by omega) _ rfl
  · by_cases e17 : proto = 17
    · subst e17
      exact partUdp s6 sh sl t6 th tl fp tp hops syn fin rst has seq ack reply id_ pA pn pc pay w hp.at_ hp.len hp.nil (Nat.le_trans hp.le (by omega)) (by omega) _ rfl
    · exact partIcmp s6 sh sl t6 th tl fp tp hops syn fin rst has seq ack reply id_ pA pn pc pay proto w hp.at_ hp.len hp.nil (Nat.le_trans hp.le (by omega)) (by omega) _ rfl e6 e17
theorem partSum_any (p : Pk) (h : PkR p) (q : Option Addr) (qn qc : Nat) (part : List UInt8) (w : World) (hp : bAt w q part) (hl : part.length = qn) (hn : q = none → qc = 0) (hs : qn ≤ 10000) :
    Calls Tryz.prog 24 #[.agg (pkA p), .slice q qn qc] w fun e w' => e = .returned (.int .i64 (partSumP p part)) ∧ Below w.heap.size w w' := by
  obtain ⟨⟨proto, s6, sh, sl, t6, th, tl, fp, tp⟩, hops, syn, fin, rst, has, seq, ack, reply, id_, pA, pn, pc⟩ := p
  obtain ⟨h1, h6, ⟨a1, a2, a3, a4⟩, -⟩ := h
  dsimp only at h1 h6 a1 a2 a3 a4
  subst h6
  cases t6
  · by_cases e1 : proto = 1
    · exact sum1 proto sh sl th tl fp tp hops syn fin rst has seq ack reply id_ pA pn pc q qn qc part w hp hl hn hs h1 a1 a2 a3 a4 _ rfl e1
    · exact sum4 proto sh sl th tl fp tp hops syn fin rst has seq ack reply id_ pA pn pc q qn qc part w hp hl hn hs h1 a1 a2 a3 a4 _ rfl e1
  · exact sum6 proto sh sl th tl fp tp hops syn fin rst has seq ack reply id_ pA pn pc q qn qc part w hp hl hn hs h1 a1 a2 a3 a4 _ rfl
theorem step_load {P : Program} {ops : Array Oper} {a : Act} {w : World} {K : Act → World → Prop} {Q : Exit → Act → World → Prop} {E : Prop} {T T' ty : TypeId} {x : Operand} {d : Option Tmp} {pos : String} {after : Array Edge} {R : Nat} {cs : Array Value}
    (hx : a.eval x = .pointer (some ⟨R, 0, none⟩)) (hb : w.heap[R]? = some (.cells cs T' (0, 0))) (ha : (isAgg T).run P w = .ok true w) (hs : (sizeOf T).run P w = .ok cs.size w)
    (hK : K (a.put d (.agg cs)) w) : if Region.wanted { dst := d, op := Op.load T x, type := ty, pos := pos, after := after, guard := none } (yielded ops a.tmps) = true then Oper.wp P { dst := d, op := Op.load T x, type := ty, pos := pos, after := after, guard := none } a w K Q else E := by
  have hw : Region.wanted { dst := d, op := Op.load T x, type := ty, pos := pos, after := after, guard := none } (yielded ops a.tmps) = true := by simp [Region.wanted]
  rw [if_pos hw]
  exact load_step hx hb ha hs hK
theorem bOwn.put {w : World} {base g n cap : Nat} {bs : List UInt8} (h : bOwn w base (some ⟨g, 0, none⟩) n cap bs) (o : Nat) (c : UInt8) : bOwn (w.setCell ⟨g, o, none⟩ (.int .u8 c.toNat)) base (some ⟨g, 0, none⟩) n cap (bs.set o c) := by
  refine ⟨by simp [h.1], ?_⟩
  have hs := (World.ownsRow.stored h.2 o (.int .u8 c.toNat)).1
  have e : bV (bs.set o c) = (bV bs).set o (.int .u8 c.toNat) := by simp [bV, List.map_set]
  rw [e]
  exact hs
theorem bOwn.ex {w : World} {base n cap : Nat} {A : Option Addr} {bs : List UInt8} (h : bOwn w base A n cap bs) (hn : 0 < n) : ∃ g, A = some ⟨g, 0, none⟩ ∧ base ≤ g ∧ g < w.heap.size ∧ n ≤ cap := by
  rcases h.2.2 with ⟨h1, h2⟩ | ⟨g, cap', cur, h1, h3, h4, h5, _⟩
  · omega
  · injection h1 with h1 _ h6
    subst h1
    subst h6
    exact ⟨g, rfl, h3, lt_of_block h4, h5⟩
/-- A literal's block is a row of its own. -/
theorem bOwn.new {w : World} {cs : Array Value} {ys : List UInt8} {base n : Nat} (hy : cs = (bV ys).toArray) (hb : base ≤ w.heap.size) (hn : ys.length = n) (hm : n ≤ 100000) : bOwn (w.alloc (.cells cs 5)) base (some ⟨w.heap.size, 0, none⟩) n n ys := by
  refine ⟨hn, by simp [bV, hn], .inr ⟨w.heap.size, n, cs, rfl, hb, heap_alloc_new w _, Nat.le_refl _, by unfold maxLen; omega, by simp [hy, bV, hn], ?_⟩⟩
  rw [hy]
  exact List.take_of_length_le (by simp [bV, hn])
theorem bOwn.froz {w : World} {base g n cap : Nat} {bs : List UInt8} (h : bOwn w base (some ⟨g, 0, none⟩) n cap bs) (o : Nat) : w.frozen? ⟨g, o, none⟩ = false := by
  rcases h.2.2 with ⟨h1, h2⟩ | ⟨g', cap', cur, h1, h3, h4, h5, _⟩
  · cases h1
  · injection h1 with h1
    injection h1 with h1
    injection h1 with h1
    subst h1
    simp [World.frozen?, h4]
theorem bOwn.cell {w : World} {base g n cap : Nat} {bs : List UInt8} (h : bOwn w base (some ⟨g, 0, none⟩) n cap bs) (o : Nat) (ho : o < n) : ∃ c : UInt8, w.cell? ⟨g, o, none⟩ = some (.int .u8 c.toNat) := by
  have hl := h.1
  obtain ⟨g', off, e, _, hx⟩ := h.at_ o (bs[o]'(by omega)) (by simp)
  injection e with e
  injection e with e1 e2
  subst e1
  subst e2
  exact ⟨_, by rw [Nat.zero_add] at hx; exact hx⟩
theorem pk_res {W : World} {P : Nat} {p : Pk} {T : TypeId} (h : W.heap[P]? = some (.cells (pkA p) T (0, 0))) : W.cell? ⟨P, 0, none⟩ = some (.bool p.f.s6) ∧ W.cell? ⟨P, 1, none⟩ = some (.int .u64 p.f.sh) ∧ W.cell? ⟨P, 2, none⟩ = some (.int .u64 p.f.sl) ∧ W.cell? ⟨P, 3, none⟩ = some (.bool p.f.t6) ∧ W.cell? ⟨P, 4, none⟩ = some (.int .u64 p.f.th) ∧ W.cell? ⟨P, 5, none⟩ = some (.int .u64 p.f.tl) ∧ W.cell? ⟨P, 6, none⟩ = some (.int .i64 p.hops) ∧ W.cell? ⟨P, 7, none⟩ = some (.int .i64 p.f.proto) ∧ W.cell? ⟨P, 8, none⟩ = some (.int .i64 p.f.fp) ∧ W.cell? ⟨P, 9, none⟩ = some (.int .i64 p.f.tp) ∧ W.cell? ⟨P, 10, none⟩ = some (.bool p.syn) ∧ W.cell? ⟨P, 11, none⟩ = some (.bool p.fin) ∧ W.cell? ⟨P, 12, none⟩ = some (.bool p.rst) ∧ W.cell? ⟨P, 13, none⟩ = some (.bool p.has) ∧ W.cell? ⟨P, 14, none⟩ = some (.int .i64 p.seq) ∧ W.cell? ⟨P, 15, none⟩ = some (.int .i64 p.ack) ∧ W.cell? ⟨P, 16, none⟩ = some (.bool p.reply) ∧ W.cell? ⟨P, 17, none⟩ = some (.int .i64 p.id) ∧ W.cell? ⟨P, 18, none⟩ = some (.slice p.pA p.pn p.pc) :=
  ⟨cell_of h 0, cell_of h 1, cell_of h 2, cell_of h 3, cell_of h 4, cell_of h 5, cell_of h 6, cell_of h 7, cell_of h 8, cell_of h 9, cell_of h 10, cell_of h 11, cell_of h 12, cell_of h 13, cell_of h 14, cell_of h 15, cell_of h 16, cell_of h 17, cell_of h 18⟩
theorem load_cells {P : Program} {T' : TypeId} {w : World} {R : Nat} {cs : Array Value} (hb : w.heap[R]? = some (.cells cs T' (0, 0))) : (loadCells ⟨R, 0, none⟩ cs.size).run P w = .ok cs w := by
  have hl := run_loadCells_list (P := P) w ⟨R, 0, none⟩ cs.toList (fun j v hv => by
    have hadd : (⟨R, 0, none⟩ : Addr).add j = ⟨R, j, none⟩ := by unfold Addr.add; split <;> simp_all
    rw [hadd, cell_of hb j]
    simpa using hv)
  simp at hl
  simpa [loadCells] using hl
theorem part_len (p : Pk) (pay : List UInt8) : atP p.f.proto + 1 < (partP p pay).length ∧ (partP p pay).length ≤ 20 + pay.length := by
  unfold partP frontP atP
  split
  · simp [putN_length]; omega
  · split
    · simp [putN_length]; omega
    · simp [putN_length]; omega
theorem byte_hi (n : Nat) : IntKind.u8.wrap ((n : Int) / 256) = (((UInt8.ofNat (n / 256)).toNat : Nat) : Int) := by
  have := byte_shift n 1
  simpa using this
theorem byte_lo (n : Nat) : IntKind.u8.wrap (n : Int) = (((UInt8.ofNat n).toNat : Nat) : Int) := by
  have := byte_shift n 0
  simpa using this
end Go.Proofs.YtfakfhbcpldeoaaGreatDoor
