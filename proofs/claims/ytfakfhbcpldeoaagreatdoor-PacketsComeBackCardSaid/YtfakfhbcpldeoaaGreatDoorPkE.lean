/- The packet that a stream hands out is right. -/
import Derived.Test.YtfakfhbcpldeoaaGreatDoorPkD
import Derived.Test.YtfakfhbcpldeoaaGreatDoorRgV
import Derived.Test.YtfakfhbcpldeoaaGreatDoorRgS
import Derived.Deep.AppendLies
import Derived.Test.YtfakfhbcpldeoaaGreatDoorRwB
namespace Go.Proofs.YtfakfhbcpldeoaaGreatDoor
open Go.RowKit Go.Hw

def noPk0 : Pk := ⟨noFl, 0, false, false, false, false, 0, 0, false, 0, none, 0, 0⟩
def pkA (p : Pk) : Array Value := #[.bool p.f.s6, .int .u64 p.f.sh, .int .u64 p.f.sl, .bool p.f.t6, .int .u64 p.f.th, .int .u64 p.f.tl, .int .i64 p.hops, .int .i64 p.f.proto, .int .i64 p.f.fp, .int .i64 p.f.tp, .bool p.syn, .bool p.fin, .bool p.rst, .bool p.has, .int .i64 p.seq, .int .i64 p.ack, .bool p.reply, .int .i64 p.id, .slice p.pA p.pn p.pc]
theorem pkA_cells {w0 w : World} {b : Nat} {A : Option Addr} {cap : Nat} {l : List Int} {at_ m : Int} {bs : List Bk} {P : Nat} {T : TypeId} {p : Pk} (D : DS w0 w b A cap l at_ m ((P, pkA p, T) :: bs)) :
    (w.cell? ⟨P, 0, none⟩ = some (.bool p.f.s6) ∧ w.cell? ⟨P, 1, none⟩ = some (.int .u64 p.f.sh) ∧ w.cell? ⟨P, 2, none⟩ = some (.int .u64 p.f.sl) ∧ w.cell? ⟨P, 3, none⟩ = some (.bool p.f.t6) ∧ w.cell? ⟨P, 4, none⟩ = some (.int .u64 p.f.th) ∧ w.cell? ⟨P, 5, none⟩ = some (.int .u64 p.f.tl) ∧ w.cell? ⟨P, 6, none⟩ = some (.int .i64 p.hops) ∧ w.cell? ⟨P, 7, none⟩ = some (.int .i64 p.f.proto) ∧ w.cell? ⟨P, 8, none⟩ = some (.int .i64 p.f.fp) ∧ w.cell? ⟨P, 9, none⟩ = some (.int .i64 p.f.tp) ∧ w.cell? ⟨P, 10, none⟩ = some (.bool p.syn) ∧ w.cell? ⟨P, 11, none⟩ = some (.bool p.fin) ∧ w.cell? ⟨P, 12, none⟩ = some (.bool p.rst) ∧ w.cell? ⟨P, 13, none⟩ = some (.bool p.has) ∧ w.cell? ⟨P, 14, none⟩ = some (.int .i64 p.seq) ∧ w.cell? ⟨P, 15, none⟩ = some (.int .i64 p.ack) ∧ w.cell? ⟨P, 16, none⟩ = some (.bool p.reply) ∧ w.cell? ⟨P, 17, none⟩ = some (.int .i64 p.id) ∧ w.cell? ⟨P, 18, none⟩ = some (.slice p.pA p.pn p.pc)) ∧ (w.frozen? ⟨P, 0, none⟩ = false ∧ w.frozen? ⟨P, 1, none⟩ = false ∧ w.frozen? ⟨P, 2, none⟩ = false ∧ w.frozen? ⟨P, 3, none⟩ = false ∧ w.frozen? ⟨P, 4, none⟩ = false ∧ w.frozen? ⟨P, 5, none⟩ = false ∧ w.frozen? ⟨P, 6, none⟩ = false ∧ w.frozen? ⟨P, 7, none⟩ = false ∧ w.frozen? ⟨P, 8, none⟩ = false ∧ w.frozen? ⟨P, 9, none⟩ = false ∧ w.frozen? ⟨P, 10, none⟩ = false ∧ w.frozen? ⟨P, 11, none⟩ = false ∧ w.frozen? ⟨P, 12, none⟩ = false ∧ w.frozen? ⟨P, 13, none⟩ = false ∧ w.frozen? ⟨P, 14, none⟩ = false ∧ w.frozen? ⟨P, 15, none⟩ = false ∧ w.frozen? ⟨P, 16, none⟩ = false ∧ w.frozen? ⟨P, 17, none⟩ = false ∧ w.frozen? ⟨P, 18, none⟩ = false) :=
  ⟨⟨D.cell 0 0 rfl rfl, D.cell 0 1 rfl rfl, D.cell 0 2 rfl rfl, D.cell 0 3 rfl rfl, D.cell 0 4 rfl rfl, D.cell 0 5 rfl rfl, D.cell 0 6 rfl rfl, D.cell 0 7 rfl rfl, D.cell 0 8 rfl rfl, D.cell 0 9 rfl rfl, D.cell 0 10 rfl rfl, D.cell 0 11 rfl rfl, D.cell 0 12 rfl rfl, D.cell 0 13 rfl rfl, D.cell 0 14 rfl rfl, D.cell 0 15 rfl rfl, D.cell 0 16 rfl rfl, D.cell 0 17 rfl rfl, D.cell 0 18 rfl rfl⟩, ⟨D.froz 0 0 rfl, D.froz 0 1 rfl, D.froz 0 2 rfl, D.froz 0 3 rfl, D.froz 0 4 rfl, D.froz 0 5 rfl, D.froz 0 6 rfl, D.froz 0 7 rfl, D.froz 0 8 rfl, D.froz 0 9 rfl, D.froz 0 10 rfl, D.froz 0 11 rfl, D.froz 0 12 rfl, D.froz 0 13 rfl, D.froz 0 14 rfl, D.froz 0 15 rfl, D.froz 0 16 rfl, D.froz 0 17 rfl, D.froz 0 18 rfl⟩⟩
theorem pkz_res {w : World} {P : Nat} {T : TypeId} (h : w.heap[P]? = some (.cells #[.bool false, .int .u64 0, .int .u64 0, .bool false, .int .u64 0, .int .u64 0, .int .i64 0, .int .i64 0, .int .i64 0, .int .i64 0, .bool false, .bool false, .bool false, .bool false, .int .i64 0, .int .i64 0, .bool false, .int .i64 0, .slice none 0 0] T (0, 0))) : (w.cell? ⟨P, 0, none⟩ = some (.bool false) ∧ w.cell? ⟨P, 1, none⟩ = some (.int .u64 0) ∧ w.cell? ⟨P, 2, none⟩ = some (.int .u64 0) ∧ w.cell? ⟨P, 3, none⟩ = some (.bool false) ∧ w.cell? ⟨P, 4, none⟩ = some (.int .u64 0) ∧ w.cell? ⟨P, 5, none⟩ = some (.int .u64 0) ∧ w.cell? ⟨P, 6, none⟩ = some (.int .i64 0) ∧ w.cell? ⟨P, 7, none⟩ = some (.int .i64 0) ∧ w.cell? ⟨P, 8, none⟩ = some (.int .i64 0) ∧ w.cell? ⟨P, 9, none⟩ = some (.int .i64 0) ∧ w.cell? ⟨P, 10, none⟩ = some (.bool false) ∧ w.cell? ⟨P, 11, none⟩ = some (.bool false) ∧ w.cell? ⟨P, 12, none⟩ = some (.bool false) ∧ w.cell? ⟨P, 13, none⟩ = some (.bool false) ∧ w.cell? ⟨P, 14, none⟩ = some (.int .i64 0) ∧ w.cell? ⟨P, 15, none⟩ = some (.int .i64 0) ∧ w.cell? ⟨P, 16, none⟩ = some (.bool false) ∧ w.cell? ⟨P, 17, none⟩ = some (.int .i64 0) ∧ w.cell? ⟨P, 18, none⟩ = some (.slice none 0 0)) ∧ w.frozen? ⟨P, 0, none⟩ = false ∧ w.frozen? ⟨P, 1, none⟩ = false ∧ w.frozen? ⟨P, 2, none⟩ = false ∧ w.frozen? ⟨P, 3, none⟩ = false ∧ w.frozen? ⟨P, 4, none⟩ = false ∧ w.frozen? ⟨P, 5, none⟩ = false ∧ w.frozen? ⟨P, 6, none⟩ = false ∧ w.frozen? ⟨P, 7, none⟩ = false ∧ w.frozen? ⟨P, 8, none⟩ = false ∧ w.frozen? ⟨P, 9, none⟩ = false ∧ w.frozen? ⟨P, 10, none⟩ = false ∧ w.frozen? ⟨P, 11, none⟩ = false ∧ w.frozen? ⟨P, 12, none⟩ = false ∧ w.frozen? ⟨P, 13, none⟩ = false ∧ w.frozen? ⟨P, 14, none⟩ = false ∧ w.frozen? ⟨P, 15, none⟩ = false ∧ w.frozen? ⟨P, 16, none⟩ = false ∧ w.frozen? ⟨P, 17, none⟩ = false ∧ w.frozen? ⟨P, 18, none⟩ = false :=
  ⟨⟨cell_of h 0, cell_of h 1, cell_of h 2, cell_of h 3, cell_of h 4, cell_of h 5, cell_of h 6, cell_of h 7, cell_of h 8, cell_of h 9, cell_of h 10, cell_of h 11, cell_of h 12, cell_of h 13, cell_of h 14, cell_of h 15, cell_of h 16, cell_of h 17, cell_of h 18⟩, by simp [World.frozen?, h], by simp [World.frozen?, h], by simp [World.frozen?, h], by simp [World.frozen?, h], by simp [World.frozen?, h], by simp [World.frozen?, h], by simp [World.frozen?, h], by simp [World.frozen?, h], by simp [World.frozen?, h], by simp [World.frozen?, h], by simp [World.frozen?, h], by simp [World.frozen?, h], by simp [World.frozen?, h], by simp [World.frozen?, h], by simp [World.frozen?, h], by simp [World.frozen?, h], by simp [World.frozen?, h], by simp [World.frozen?, h], by simp [World.frozen?, h]⟩
theorem DS.flow {w0 w : World} {b : Nat} {A : Option Addr} {cap : Nat} {l : List Int} {at_ m : Int} {bs : List Bk} (h : DS w0 w b A cap l at_ m bs) (hm : at_ + m < 1099511620000) :
    Calls Tryz.prog 12 #[.pointer (some ⟨b, 0, none⟩)] w fun e w' => (∃ f : Fl, FlR f ∧ e = .returned (.agg #[.int .i64 f.proto, .bool f.s6, .int .u64 f.sh, .int .u64 f.sl, .bool f.t6, .int .u64 f.th, .int .u64 f.tl, .int .i64 f.fp, .int .i64 f.tp])) ∧ DS w0 w' b A cap l at_ (m + 12) bs ∧ w.grownBy w' (some b) :=
  h.call fun x _ hx hs => (rightFlow_any b A cap l x w hs (by omega)).mono fun e w' ⟨⟨f, hf, he⟩, ht⟩ => ⟨⟨f, hf, he⟩, ht⟩
def PkS (f : Fl) (v : Value) : Prop := ∃ hops proto, hops ∈ ([0, 1, 64, 255] : List Int) ∧ proto ∈ ([6, 6, 17, 1] : List Int) ∧ v = .agg #[.bool f.s6, .int .u64 f.sh, .int .u64 f.sl, .bool f.t6, .int .u64 f.th, .int .u64 f.tl, .int .i64 hops, .int .i64 proto, .int .i64 0, .int .i64 0, .bool false, .bool false, .bool false, .bool false, .int .i64 0, .int .i64 0, .bool false, .int .i64 0, .slice none 0 0]
def PkMid (w w' : World) (b : Nat) (A : Option Addr) (cap : Nat) (l : List Int) (at_ m : Int) (P : Nat) (q : Pk → Prop) : Prop := ∃ p : Pk, q p ∧ DS w w' b A cap l at_ m [(P, pkA p, 31), (w.heap.size, pkA noPk0, 31)]
/-- The packet in its block, its payload so far. -/
def PkLoop (w wr : World) (b : Nat) (A : Option Addr) (cap : Nat) (l : List Int) (at_ : Int) (P : Nat) (p : Pk) (k : Nat) : Prop :=
  ∃ (pay : List UInt8) (pA : Option Addr) (pc : Nat), pay.length = k ∧ DS w wr b A cap l at_ (41 + 2 * k) [(P, pkA { p with pA := pA, pn := k, pc := pc }, 31), (w.heap.size, pkA noPk0, 31)] ∧
    wr.ownsRow w.heap.size 5 1 (.slice pA k pc) k (pay.map fun c => .int .u8 c.toNat)
theorem Tryz.infoByte : (Tryz.prog.info? 5).map (fun i => (i.zero, i.size, i.bytes)) = some (some (.int .u8 0), 1, 1) := by kernel_rfl
theorem DS.row {w0 w w' : World} {b : Nat} {A : Option Addr} {cap : Nat} {l : List Int} {at_ m : Int} {bs : List Bk} {r : Option Nat} (h : DS w0 w b A cap l at_ m bs) (hg : w.grownBy w' r) (hr : ∀ k, r = some k → w0.heap.size ≤ k ∧ ∀ p ∈ bs, p.1 ≠ k) : DS w0 w' b A cap l at_ m bs := by
  obtain ⟨x, h1, h2, h3, h4⟩ := h.to
  have hb0 := h.b0
  exact ⟨⟨x, h1, h2, h3.grown hg (fun k e => by have := (hr k e).1; omega), h4.andThen hg (fun k e => .inl (hr k e).1)⟩, fun p hp => (hg.block p.1 (lt_of_block (h.blk p hp)) (fun e => (hr _ e.symm).2 p hp rfl)).trans (h.blk p hp), h.own, h.ne, h.b0⟩
theorem pk_byte {d1 d2 : Int} (h0 : 0 ≤ d1) (h1 : d1 ≤ 255) (h : d2 ∈ ([0, 255, 65, d1] : List Int)) : 0 ≤ d2 ∧ d2 ≤ 255 := by
  simp at h
  omega
theorem own_tne {w : World} {base : Nat} {e : TypeId} {size : Nat} {v : Value} {n : Nat} {xs : List Value} (h : w.ownsRow base e size v n xs) {B : Nat} {cs : Array Value} {T : TypeId} {fr : Nat × Nat}
    (hB : w.heap[B]? = some (.cells cs T fr)) (ht : T ≠ e) : v.ownBlock ≠ some B := by
  intro hv
  rcases h.2 with ⟨h1, _⟩ | ⟨g, cap, cur, h1, _, h2, _⟩
  · rw [h1] at hv; simp [Value.ownBlock] at hv
  · rw [h1] at hv
    simp [Value.ownBlock] at hv
    subst hv
    rw [h2] at hB
    injection hB with hB
    injection hB with _ hT _
    exact ht hT.symm
theorem pk_next {w V3 W9 : World} {b : Nat} {A : Option Addr} {cap : Nat} {l : List Int} {at_ : Int} {P : Nat} {p : Pk} {k pc cg gg : Nat} {pA : Option Addr} {pay : List UInt8} {d2 : Int}
    (D3 : DS w V3 b A cap l at_ (41 + 2 * k + 1 + 1) [(P, pkA { p with pA := pA, pn := k, pc := pc }, 31), (w.heap.size, pkA noPk0, 31)])
    (hown : V3.ownsRow w.heap.size 5 1 (.slice (some ⟨gg, 0, none⟩) (k + 1) cg) (k + 1) ((pay.map fun c => Value.int .u8 c.toNat) ++ [.int .u8 d2])) (hd : 0 ≤ d2 ∧ d2 ≤ 255) (hpay : pay.length = k) (ht : 31 ≠ 5)
    (hW : V3.setCell ⟨P, 18, none⟩ (.slice (some ⟨gg, 0, none⟩) (k + 1) cg) = W9) : PkLoop w W9 b A cap l at_ P p (k + 1) := by
  subst hW
  have hne := own_tne hown (D3.blk _ (List.mem_of_getElem? (i := 0) rfl)) ht
  refine ⟨pay ++ [UInt8.ofNat d2.toNat], some ⟨gg, 0, none⟩, cg, by simp [hpay], (D3.set 0 18 _ rfl).le (by omega), ?_⟩
  have he : ((pay ++ [UInt8.ofNat d2.toNat]).map fun c => Value.int .u8 c.toNat) = (pay.map fun c => Value.int .u8 c.toNat) ++ [.int .u8 d2] := by
    have : (((UInt8.ofNat d2.toNat).toNat : Nat) : Int) = d2 := by
      simp
      omega
    simp only [List.map_append, List.map_cons, List.map_nil, this]
  rw [he]
  exact rw_same hown (fun j hj => Below.heap_setCell _ _ _ _ (fun e => hne (by rw [hj]; exact congrArg some e)))
theorem pk_row {w V2 V3 : World} {b : Nat} {A : Option Addr} {cap : Nat} {l : List Int} {at_ m : Int} {P R : Nat} {cP cR cb : Array Value} {T : TypeId} {pA : Option Addr} {k pc : Nat} {xs : List Value} (D : DS w V2 b A cap l at_ m [(P, cP, T), (R, cR, T)]) (ho : V2.ownsRow w.heap.size 5 1 (.slice pA k pc) k xs)
    (hg : (V2.alloc (.cells cb 5)).grownBy V3 (Value.slice pA k pc).ownBlock) (ht : T ≠ 5) : DS w V3 b A cap l at_ m [(P, cP, T), (R, cR, T)] :=
  (D.alo (.cells cb 5)).row hg (fun j hj => ⟨(ho.lt j hj).1, fun q hq => by
    have hb := D.blk q hq
    intro e
    rw [e] at hb
    have : q.2.2 = T := by
      rcases List.mem_cons.1 hq with rfl | hq
      · rfl
      · rw [List.mem_singleton.1 hq]
    rw [this] at hb
    exact own_tne ho hb ht hj⟩)
set_option maxRecDepth 100000 in
set_option maxHeartbeats 40000000 in
theorem rightPacket_any (b : Nat) (A : Option Addr) (cap : Nat) (l : List Int) (at_ : Int) (w : World) (h : Str w b A cap l at_) (hh : at_ < 1099511610000) :
    Calls Tryz.prog 4 #[.pointer (some ⟨b, 0, none⟩)] w fun e w' => (∃ (p : Pk) (pay : List UInt8), PkOk p ∧ e = .returned (.agg (pkA p)) ∧ p.pn = pay.length ∧ w'.ownsRow w.heap.size 5 1 (.slice p.pA p.pn p.pc) p.pn (pay.map fun c => .int .u8 c.toNat)) ∧ StrTo w w' b A cap l at_ 100 := by
  have D0 := (DS.start h).al (pkA noPk0) 31
  go_enter Tryz.func4, Tryz.ntmps4
  go_wp2_with fail
  refine (D0.flow (by omega)).mono ?_
  rintro e W1 ⟨⟨f, hf, rfl⟩, D1, -⟩
  clear D0
  have D2 := D1.al (flA f) 45
  go_upto_region 2 with (fail)
  generalize hW : World.alloc W1 _ = W2
  generalize hF : W1.heap.size = F at *
  have D3 : DS w W2 b A cap l at_ 12 [(F, flA f, 45), (w.heap.size, pkA noPk0, 31)] := by rw [← hW]; exact D2
  clear D1 D2 hF hW
  have l3 := D3.lt (k := 0) rfl
  obtain ⟨⟨c0, c1, c2, c3, c4, c5, c6, c7, c8⟩, -⟩ := flA_cells D3
  go_cut [4] (fun v4 wc => ∃ P hops proto, v4 = .pointer (some ⟨P, 0, none⟩) ∧ hops ∈ ([0, 1, 64, 255] : List Int) ∧ proto ∈ ([6, 6, 17, 1] : List Int) ∧ DS w wc b A cap l at_ 24 [(P, pkA { noPk0 with f := { f with proto := proto, fp := 0, tp := 0 }, hops := hops }, 31), (w.heap.size, pkA noPk0, 31)])
  case first =>
    have hFb : b ≠ F := fun e => D3.neb (k := 0) rfl e.symm
    have hRl : w.heap.size < W2.heap.size := D3.lt (k := 1) rfl
    have HBW : b < W2.heap.size := D3.blt
    refine wp_region_drawn 12 (fun f' => ⟨#[.pointer (some ⟨b, 0, none⟩), undef, .pointer (some ⟨w.heap.size, 0, none⟩), .pointer (some ⟨F, 0, none⟩), f' 11, .pointer (some ⟨b, 0, none⟩), .agg #[.int .i64 f.proto, .bool f.s6, .int .u64 f.sh, .int .u64 f.sl, .bool f.t6, .int .u64 f.th, .int .u64 f.tl, .int .i64 f.fp, .int .i64 f.tp], f' 0, f' 1, f' 2, f' 3, f' 4, f' 5, f' 6, f' 7, f' 8, f' 9, f' 10, undef, undef, undef, undef, undef, undef, undef, undef, undef, undef, undef, undef, undef, undef, undef, undef, undef, undef, undef, undef, undef, undef, undef, undef, undef, undef, undef, undef, undef, undef, undef, undef, undef, undef, undef, undef, undef, undef, undef, undef, undef, undef, undef, undef, undef, undef, undef, undef, undef, undef, undef, undef, undef, undef, undef, undef, undef, undef, undef, undef, undef, undef, undef, undef, undef, undef, undef, undef, undef, undef, undef, undef, undef], []⟩) (VL [
      VIs (.pointer (some ⟨F, 1, none⟩)), VIs (.agg #[.bool f.s6, .int .u64 f.sh, .int .u64 f.sl]), VIs (.pointer (some ⟨F, 4, none⟩)), VIs (.agg #[.bool f.t6, .int .u64 f.th, .int .u64 f.tl]),
      VIs (.pointer (some ⟨b, 0, none⟩)), VBox b #[.int .i64 0, .int .i64 1, .int .i64 64, .int .i64 255] 3 4, VInt (· ∈ [0, 1, 64, 255]),
      VIs (.pointer (some ⟨b, 0, none⟩)), VBox b #[.int .i64 6, .int .i64 6, .int .i64 17, .int .i64 1] 3 4, VInt (· ∈ [6, 6, 17, 1]),
      VVal (PkS f),
      VNew b W2.heap.size (pkA noPk0) 31]) (GD w W2 b A cap l at_ 12 [(F, flA f, 45), (w.heap.size, pkA noPk0, 31)]) (fun w w' => w.grownBy w' (some b)) (fun _ => undef) (show Tryz.prog.follows .mixedOrders = true from by kernel_rfl) (by kernel_rfl) ?_ ?_ ?_ (GD.start D3)
    · exact fun i w w' v h hg => VL.stab (by
        intro p hp
        simp only [List.mem_cons, List.mem_nil_iff, or_false] at hp
        rcases hp with rfl | rfl | rfl | rfl | rfl | rfl | rfl | rfl | rfl | rfl | rfl | rfl <;> first | exact VIs.stab _ _ | exact VBox.stab _ _ _ _ | exact VInt.stab _ _ | exact VVal.stab _ _ | exact VNew.stab _ _ _ _) i w w' v h hg
    · intro i o hi ho f' w' k hk hG hd
      obtain ⟨⟨c0, c1, c2, c3, c4, c5, c6, c7, c8⟩, -⟩ := flA_cells hG.1
      have hcase : i = 0 ∨ i = 1 ∨ i = 2 ∨ i = 3 ∨ i = 4 ∨ i = 5 ∨ i = 6 ∨ i = 7 ∨ i = 8 ∨ i = 9 ∨ i = 10 ∨ i = 11 := by omega
      rcases hcase with rfl | rfl | rfl | rfl | rfl | rfl | rfl | rfl | rfl | rfl | rfl | rfl <;> (replace ho := Option.some.inj ho; subst ho)
      · unfold Oper.wp
        go_simp
        exact ⟨_, (by simp [upd]), rfl, hG.same, gr_refl _ _⟩
      · have e0 : f' 0 = _ := hd ⟨0, .data⟩ (by simp) rfl
        unfold Oper.wp
        go_simp
        exact ⟨_, (by simp [upd, e0]), rfl, hG.same, gr_refl _ _⟩
      · unfold Oper.wp
        go_simp
        exact ⟨_, (by simp [upd]), rfl, hG.same, gr_refl _ _⟩
      · have e2 : f' 2 = _ := hd ⟨2, .data⟩ (by simp) rfl
        unfold Oper.wp
        go_simp
        exact ⟨_, (by simp [upd, e2]), rfl, hG.same, gr_refl _ _⟩
      · unfold Oper.wp
        go_simp
        exact ⟨_, (by simp [upd]), rfl, hG.same, gr_refl _ _⟩
      · unfold Oper.wp
        go_simp
        exact ⟨_, (by simp [upd]), ⟨_, rfl, al1 _ _, by have := hG.1.blt; omega⟩, hG.alo _, gr_alo _ _ _⟩
      · have e4 : f' 4 = _ := hd ⟨4, .data⟩ (by simp) rfl
        obtain ⟨g, e5, hb, hn⟩ := hd ⟨5, .data⟩ (by simp) rfl
        unfold Oper.wp
        go_simp
        refine (DS.pickB hG.1 (Below.refl _ _) (by omega) [0, 1, 64, 255] hb (fun e => hn e.symm) (by simp) (by simp) 4 4 rfl).mono ?_
        rintro e W4 ⟨⟨d, hd4, rfl⟩, D4, hg4⟩
        exact ⟨_, (by simp [upd, e4, e5]), ⟨d, by simpa using hd4, rfl⟩, hG.ext D4 hg4, hg4⟩
      · unfold Oper.wp
        go_simp
        exact ⟨_, (by simp [upd]), rfl, hG.same, gr_refl _ _⟩
      · unfold Oper.wp
        go_simp
        exact ⟨_, (by simp [upd]), ⟨_, rfl, al1 _ _, by have := hG.1.blt; omega⟩, hG.alo _, gr_alo _ _ _⟩
      · have e7 : f' 7 = _ := hd ⟨7, .data⟩ (by simp) rfl
        obtain ⟨g, e8, hb, hn⟩ := hd ⟨8, .data⟩ (by simp) rfl
        unfold Oper.wp
        go_simp
        refine (DS.pickB hG.1 (Below.refl _ _) (by omega) [6, 6, 17, 1] hb (fun e => hn e.symm) (by simp) (by simp) 4 4 rfl).mono ?_
        rintro e W4 ⟨⟨d, hd4, rfl⟩, D4, hg4⟩
        exact ⟨_, (by simp [upd, e7, e8]), ⟨d, by simpa using hd4, rfl⟩, hG.ext D4 hg4, hg4⟩
      · have e1 : f' 1 = _ := hd ⟨1, .data⟩ (by simp) rfl
        have e3 : f' 3 = _ := hd ⟨3, .data⟩ (by simp) rfl
        obtain ⟨d6, hd6, e6⟩ := hd ⟨6, .data⟩ (by simp) rfl
        obtain ⟨d9, hd9, e9⟩ := hd ⟨9, .data⟩ (by simp) rfl
        unfold Oper.wp
        go_simp
        exact ⟨_, (by simp [upd, e1, e3, e6, e9]), ⟨d6, d9, hd6, hd9, rfl⟩, hG.same, gr_refl _ _⟩
      · unfold Oper.wp
        go_simp
        exact ⟨_, (by simp [upd]), ⟨_, rfl, al1 _ _, hG.2, by have := hG.1.blt; omega⟩, hG.alo _, gr_alo _ _ _⟩
    · intro o ho f' w' k hk hG hd
      obtain ⟨hops, proto, hho, hpr, e10⟩ := hd 10 (by omega)
      obtain ⟨P, e11, hP, hPb, hPn⟩ := hd 11 (by omega)
      replace ho := Option.some.inj ho
      subst ho
      refine store_step e11 e10 hP rfl (by kernel_rfl) (by simp [Value.oneCell']) (fun W hr => ?_)
      go_step
      go_step
      go_meet
      exact ⟨P, hops, proto, e11, hho, hpr, ((hG.1.drop.view hP (by omega) (by intro p hp; rw [List.mem_singleton.1 hp]; show w.heap.size ≠ P; omega)).re 0 rfl hr).le (by omega)⟩
  case rest =>
    obtain ⟨P, hops, proto, rfl, hho, hpr, D8⟩ := hcut
    clear D3 l3 c0 c1 c2 c3 c4 c5 c6 c7 c8
    go_step
    go_step
    go_cut [] (fun wc => PkMid w wc b A cap l at_ 40 P (fun p => PkOk p ∧ p.pA = none ∧ p.pn = 0 ∧ p.pc = 0))
    case first =>
      have hh1 : 0 ≤ hops ∧ hops ≤ 255 := by simp at hho; omega
      have hsix := hf.six
      have HF := Lib.hid hf.toFlOk
      clear hsix hf hho h
      have hpr' : proto = 6 ∨ proto = 17 ∨ proto = 1 := by simpa using hpr
      clear hpr
      rcases hpr' with rfl | rfl | rfl
      · have E0 : DS w wc b A cap l at_ 24 [(P, pkA ⟨⟨6, f.s6, f.sh, f.sl, f.t6, f.th, f.tl, 0, 0⟩, hops, false, false, false, false, 0, 0, false, 0, none, 0, 0⟩, 31), (w.heap.size, pkA noPk0, 31)] := D8
        clear D8
        obtain ⟨⟨c0, c1, c2, c3, c4, c5, c6, c7, c8, c9, c10, c11, c12, c13, c14, c15, c16, c17, c18⟩, z0, z1, z2, z3, z4, z5, z6, z7, z8, z9, z10, z11, z12, z13, z14, z15, z16, z17, z18⟩ := pkA_cells E0
        go_wp2_with fail
        clear c0 c1 c2 c3 c4 c5 c6 c7 c8 c9 c10 c11 c12 c13 c14 c15 c16 c17 c18 z0 z1 z2 z3 z4 z5 z6 z7 z8 z9 z10 z11 z12 z13 z14 z15 z16 z17 z18
        refine (E0.pk (by omega) [0, 5000, 65535] (by simp) rfl (by simp) (by simp) 3 3 rfl).mono ?_
        rintro e V1 ⟨⟨fp, hfp, rfl⟩, E1, -⟩
        clear E0
        go_wp2_with fail
        refine (E1.pk (by omega) [22, 80, 90, 443] (by simp) rfl (by simp) (by simp) 4 4 rfl).mono ?_
        rintro e V2 ⟨⟨tp, htp, rfl⟩, E2, -⟩
        clear E1
        obtain ⟨⟨c0, c1, c2, c3, c4, c5, c6, c7, c8, c9, c10, c11, c12, c13, c14, c15, c16, c17, c18⟩, z0, z1, z2, z3, z4, z5, z6, z7, z8, z9, z10, z11, z12, z13, z14, z15, z16, z17, z18⟩ := pkA_cells E2
        go_wp2_with fail
        generalize hW : World.setCell _ _ _ = V3
        have E3 : DS w V3 b A cap l at_ 26 [(P, pkA ⟨⟨6, f.s6, f.sh, f.sl, f.t6, f.th, f.tl, fp, tp⟩, hops, false, false, false, false, 0, 0, false, 0, none, 0, 0⟩, 31), (w.heap.size, pkA noPk0, 31)] := by
          rw [← hW]
          exact ((E2.set 0 8 _ rfl).set 0 9 _ rfl)
        have HSV3 := Lib.hid (show V2.heap.size = V3.heap.size from by rw [← hW]; simp)
        clear c0 c1 c2 c3 c4 c5 c6 c7 c8 c9 c10 c11 c12 c13 c14 c15 c16 c17 c18 z0 z1 z2 z3 z4 z5 z6 z7 z8 z9 z10 z11 z12 z13 z14 z15 z16 z17 z18 hW E2
        go_wp2_with fail
        refine (E3.flip (by omega) 3 (by omega) (by omega)).mono ?_
        rintro e V4 ⟨⟨syn, rfl⟩, E4, -⟩
        clear E3
        go_wp2_with fail
        refine (E4.flip (by omega) 8 (by omega) (by omega)).mono ?_
        rintro e V5 ⟨⟨fin, rfl⟩, E5, -⟩
        clear E4
        go_wp2_with fail
        refine (E5.flip (by omega) 12 (by omega) (by omega)).mono ?_
        rintro e V6 ⟨⟨rst, rfl⟩, E6, -⟩
        clear E5
        go_wp2_with fail
        refine (E6.flip (by omega) 2 (by omega) (by omega)).mono ?_
        rintro e V7 ⟨⟨has, rfl⟩, E7, -⟩
        clear E6
        obtain ⟨⟨c0, c1, c2, c3, c4, c5, c6, c7, c8, c9, c10, c11, c12, c13, c14, c15, c16, c17, c18⟩, z0, z1, z2, z3, z4, z5, z6, z7, z8, z9, z10, z11, z12, z13, z14, z15, z16, z17, z18⟩ := pkA_cells E7
        go_wp2_with fail
        generalize hW : World.setCell _ _ _ = V8
        have E8 : DS w V8 b A cap l at_ 30 [(P, pkA ⟨⟨6, f.s6, f.sh, f.sl, f.t6, f.th, f.tl, fp, tp⟩, hops, syn, fin, rst, has, 0, 0, false, 0, none, 0, 0⟩, 31), (w.heap.size, pkA noPk0, 31)] := by
          rw [← hW]
          exact ((((E7.set 0 10 _ rfl).set 0 11 _ rfl).set 0 12 _ rfl).set 0 13 _ rfl)
        have HSV8 := Lib.hid (show V7.heap.size = V8.heap.size from by rw [← hW]; simp)
        clear c0 c1 c2 c3 c4 c5 c6 c7 c8 c9 c10 c11 c12 c13 c14 c15 c16 c17 c18 z0 z1 z2 z3 z4 z5 z6 z7 z8 z9 z10 z11 z12 z13 z14 z15 z16 z17 z18 hW E7
        refine (E8.pk (by omega) [0, 1, 2147483648, 4294967295] HSV8.out rfl (by simp) (by simp) 4 4 rfl).mono ?_
        rintro e V9 ⟨⟨seq, hseq, rfl⟩, E9, -⟩
        clear E8
        obtain ⟨⟨c0, c1, c2, c3, c4, c5, c6, c7, c8, c9, c10, c11, c12, c13, c14, c15, c16, c17, c18⟩, z0, z1, z2, z3, z4, z5, z6, z7, z8, z9, z10, z11, z12, z13, z14, z15, z16, z17, z18⟩ := pkA_cells E9
        cases has
        · go_wp2_with fail
          go_meet
          exact ⟨⟨⟨6, f.s6, f.sh, f.sl, f.t6, f.th, f.tl, fp, tp⟩, hops, syn, fin, rst, false, seq, 0, false, 0, none, 0, 0⟩, ⟨⟨⟨HF.out.six, HF.out.src, HF.out.dst, by simp at hfp ⊢; omega, by simp at htp ⊢; omega⟩, .inl rfl, hh1, by simp at hseq ⊢; omega, by simp, by simp, by simp, by simp, by simp, by simp, by simp, by simp⟩, rfl, rfl, rfl⟩, (E9.set 0 14 _ rfl).le (by omega)⟩
        · go_wp2_with fail
          generalize hW : World.setCell _ _ _ = V10
          have E10 : DS w V10 b A cap l at_ 31 [(P, pkA ⟨⟨6, f.s6, f.sh, f.sl, f.t6, f.th, f.tl, fp, tp⟩, hops, syn, fin, rst, true, seq, 0, false, 0, none, 0, 0⟩, 31), (w.heap.size, pkA noPk0, 31)] := by
            rw [← hW]
            exact (E9.set 0 14 _ rfl)
          have HSV10 := Lib.hid (show V9.heap.size = V10.heap.size from by rw [← hW]; simp)
          clear c0 c1 c2 c3 c4 c5 c6 c7 c8 c9 c10 c11 c12 c13 c14 c15 c16 c17 c18 z0 z1 z2 z3 z4 z5 z6 z7 z8 z9 z10 z11 z12 z13 z14 z15 z16 z17 z18 hW E9
          refine (E10.pk (by omega) [0, 7, 4294967295] HSV10.out rfl (by simp) (by simp) 3 3 rfl).mono ?_
          rintro e V11 ⟨⟨ack, hack, rfl⟩, E11, -⟩
          clear E10
          obtain ⟨⟨c0, c1, c2, c3, c4, c5, c6, c7, c8, c9, c10, c11, c12, c13, c14, c15, c16, c17, c18⟩, z0, z1, z2, z3, z4, z5, z6, z7, z8, z9, z10, z11, z12, z13, z14, z15, z16, z17, z18⟩ := pkA_cells E11
          go_wp2_with fail
          go_meet
          exact ⟨⟨⟨6, f.s6, f.sh, f.sl, f.t6, f.th, f.tl, fp, tp⟩, hops, syn, fin, rst, true, seq, ack, false, 0, none, 0, 0⟩, ⟨⟨⟨HF.out.six, HF.out.src, HF.out.dst, by simp at hfp ⊢; omega, by simp at htp ⊢; omega⟩, .inl rfl, hh1, by simp at hseq ⊢; omega, by simp at hack ⊢; omega, by simp, by simp, by simp, by simp, by simp, fun _ => rfl, by simp⟩, rfl, rfl, rfl⟩, (E11.set 0 15 _ rfl).le (by omega)⟩
      · have E0 : DS w wc b A cap l at_ 24 [(P, pkA ⟨⟨17, f.s6, f.sh, f.sl, f.t6, f.th, f.tl, 0, 0⟩, hops, false, false, false, false, 0, 0, false, 0, none, 0, 0⟩, 31), (w.heap.size, pkA noPk0, 31)] := D8
        clear D8
        obtain ⟨⟨c0, c1, c2, c3, c4, c5, c6, c7, c8, c9, c10, c11, c12, c13, c14, c15, c16, c17, c18⟩, z0, z1, z2, z3, z4, z5, z6, z7, z8, z9, z10, z11, z12, z13, z14, z15, z16, z17, z18⟩ := pkA_cells E0
        go_wp2_with fail
        clear c0 c1 c2 c3 c4 c5 c6 c7 c8 c9 c10 c11 c12 c13 c14 c15 c16 c17 c18 z0 z1 z2 z3 z4 z5 z6 z7 z8 z9 z10 z11 z12 z13 z14 z15 z16 z17 z18
        refine (E0.pk (by omega) [0, 53, 5000] (by simp) rfl (by simp) (by simp) 3 3 rfl).mono ?_
        rintro e V1 ⟨⟨fp, hfp, rfl⟩, E1, -⟩
        clear E0
        go_wp2_with fail
        refine (E1.pk (by omega) [53, 80] (by simp) rfl (by simp) (by simp) 2 2 rfl).mono ?_
        rintro e V2 ⟨⟨tp, htp, rfl⟩, E2, -⟩
        clear E1
        obtain ⟨⟨c0, c1, c2, c3, c4, c5, c6, c7, c8, c9, c10, c11, c12, c13, c14, c15, c16, c17, c18⟩, z0, z1, z2, z3, z4, z5, z6, z7, z8, z9, z10, z11, z12, z13, z14, z15, z16, z17, z18⟩ := pkA_cells E2
        go_wp2_with fail
        go_meet
        exact ⟨⟨⟨17, f.s6, f.sh, f.sl, f.t6, f.th, f.tl, fp, tp⟩, hops, false, false, false, false, 0, 0, false, 0, none, 0, 0⟩, ⟨⟨⟨HF.out.six, HF.out.src, HF.out.dst, by simp at hfp ⊢; omega, by simp at htp ⊢; omega⟩, .inr (.inl rfl), hh1, by simp, by simp, by simp, by simp, by simp, by simp, by simp, by simp, by simp⟩, rfl, rfl, rfl⟩, ((E2.set 0 8 _ rfl).set 0 9 _ rfl).le (by omega)⟩
      · have E0 : DS w wc b A cap l at_ 24 [(P, pkA ⟨⟨1, f.s6, f.sh, f.sl, f.t6, f.th, f.tl, 0, 0⟩, hops, false, false, false, false, 0, 0, false, 0, none, 0, 0⟩, 31), (w.heap.size, pkA noPk0, 31)] := D8
        clear D8
        obtain ⟨⟨c0, c1, c2, c3, c4, c5, c6, c7, c8, c9, c10, c11, c12, c13, c14, c15, c16, c17, c18⟩, z0, z1, z2, z3, z4, z5, z6, z7, z8, z9, z10, z11, z12, z13, z14, z15, z16, z17, z18⟩ := pkA_cells E0
        go_wp2_with fail
        clear c0 c1 c2 c3 c4 c5 c6 c7 c8 c9 c10 c11 c12 c13 c14 c15 c16 c17 c18 z0 z1 z2 z3 z4 z5 z6 z7 z8 z9 z10 z11 z12 z13 z14 z15 z16 z17 z18
        refine (E0.flip (by omega) 2 (by omega) (by omega)).mono ?_
        rintro e V1 ⟨⟨reply, rfl⟩, E1, -⟩
        clear E0
        go_wp2_with fail
        refine (E1.pk (by omega) [0, 7, 65535] (by simp) rfl (by simp) (by simp) 3 3 rfl).mono ?_
        rintro e V2 ⟨⟨id_, hid_, rfl⟩, E2, -⟩
        clear E1
        go_wp2_with fail
        refine (E2.pk (by omega) [0, 1, 65535] (by simp) rfl (by simp) (by simp) 3 3 rfl).mono ?_
        rintro e V3 ⟨⟨seq, hseq, rfl⟩, E3, -⟩
        clear E2
        obtain ⟨⟨c0, c1, c2, c3, c4, c5, c6, c7, c8, c9, c10, c11, c12, c13, c14, c15, c16, c17, c18⟩, z0, z1, z2, z3, z4, z5, z6, z7, z8, z9, z10, z11, z12, z13, z14, z15, z16, z17, z18⟩ := pkA_cells E3
        go_wp2_with fail
        go_meet
        exact ⟨⟨⟨1, f.s6, f.sh, f.sl, f.t6, f.th, f.tl, 0, 0⟩, hops, false, false, false, false, seq, 0, reply, id_, none, 0, 0⟩, ⟨⟨⟨HF.out.six, HF.out.src, HF.out.dst, by simp, by simp⟩, .inr (.inr rfl), hh1, by simp at hseq ⊢; omega, by simp, by simp at hid_ ⊢; omega, by simp at hseq ⊢; omega, by simp, by simp, by simp, by simp, by simp⟩, rfl, rfl, rfl⟩, (((E3.set 0 16 _ rfl).set 0 17 _ rfl).set 0 14 _ rfl).le (by omega)⟩
    case rest =>
      obtain ⟨p, hp, D9⟩ := hcut
      obtain ⟨i0, hi, hz0, hz1, hz2⟩ := info_parts Tryz.infoByte
      have HT := Lib.hid (show 31 ≠ 5 by decide)
      have HPS := Lib.hid hp
      obtain ⟨hp1, hp2, hp3, hp4⟩ := hp
      have hpe : p = { p with pA := none, pn := 0, pc := 0 } := by cases p; simp at hp2 hp3 hp4; simp [hp2, hp3, hp4]
      go_wp2_with fail
      refine (D9.pk (by omega) [0, 0, 1, 2, 3, 20] (by simp) rfl (by simp) (by simp) 6 6 rfl).mono ?_
      rintro e W1 ⟨⟨n, hn, rfl⟩, D10, -⟩
      have hn' : 0 ≤ n ∧ n ≤ 20 := by simp at hn; omega
      obtain ⟨N, rfl⟩ : ∃ N : Nat, n = N := ⟨n.toNat, by omega⟩
      have HL1 : PkLoop w W1 b A cap l at_ P p 0 := ⟨[], none, 0, rfl, by rw [hpe] at D10; exact D10.le (by omega), World.ownsRow_nil _ _ _ _⟩
      clear D9 D10 hn hp1 hp2 hp3 hp4 hpe
      go_wp2_with fail
      go_loopw [76] (fun v wr => ∃ k : Nat, k ≤ N ∧ v = .int .i64 k ∧ PkLoop w wr b A cap l at_ P p k) (fun v _ => N - (intOf v).toNat)
      case atStart => exact ⟨0, by omega, rfl, HL1⟩
      case round =>
        clear HL1
        obtain ⟨k, hk, rfl, pay, pA, pc, hpay, D, ho⟩ := hrel
        by_cases hlt : k < N
        · have hd : decide ((k : Int) < (N : Int)) = true := by simp; omega
          have hlt0 := D.b0
          have hnb := own_ne ho hlt0
          have hkN : k ≤ 19 := by omega
          have zc0 := (pkA_cells D).1
          have hPw : P < wr.heap.size := D.lt (k := 0) rfl
          go_wp2_with fail
          go_region_law (first
            | (go_simp; go_at_call 15; refine (D.dr.range (by omega) 0 255 (by omega) (by omega) (by omega) (by omega)).mono ?_; rintro e V1 ⟨⟨d1, h10, h11, rfl⟩, D1, hg1⟩; have ho1 := ho.kept (drew_grown hg1) (.inr hnb); have zc1 := (pkA_cells D1).1; have l1 : P < V1.heap.size := D1.lt (k := 0) rfl)
            | (go_simp; go_at_call 13; refine (D1.pk (by omega) [0, 255, 65, d1] (by simp) rfl (by simp) (by simp) 4 4 rfl).mono ?_; rintro e V2 ⟨⟨d2, hd2, rfl⟩, D2, hg2⟩; have ho2 := ho1.kept hg2 (.inr hnb); have zc2 := (pkA_cells D2).1; have l2 : P < V2.heap.size := D2.lt (k := 0) rfl; have s2 : IntKind.u8.wrap d2 = d2 := IntWalk.u8_in d2 (pk_byte h10 h11 hd2); have hsz2 := D2.size)
            | (refine step_append_lies _ (by rfl) _ _ 29 (by rfl) w.heap.size 5 i0 _ 1 1 Tryz.underlying29 hi hz0 hz1 hz2 rfl (by omega) (.slice pA k pc) k (pay.map fun c => .int .u8 c.toNat) (by rfl) (ho2.alloc _) ⟨V2.heap.size, 0, none⟩ 1 1 [.int .u8 d2] (by rfl) (by rfl) (World.news_of_block (cs := #[.int .u8 d2]) (t := 5) (fr := (0, 0)) (heap_alloc_new V2 _)) (by simp [Value.oneCell']) (by omega) (by unfold maxLen; omega) (by omega) (by simp; omega) (V2.heap.size + 1) (by simp) ?_; intro gg cg V3 hown hgrow hat hgl; have D3 := pk_row D2 ho2 hgrow HT.out; have zc3 := pkA_cells D3))
          all_goals (
            generalize hW : World.setCell _ _ _ = W9
            have HL := pk_next D3 hown (pk_byte h10 h11 hd2) hpay HT.out hW
            clear hW D3 hown hgrow hat zc3 D2 ho2 zc2 D1 ho1 zc1 D ho zc0
            go_wp2_with fail
            go_roundw
            case rel => exact ⟨k + 1, by omega, by go_num, HL⟩
            case measure => simp [intOf]; omega)
        · have : k = N := by omega
          subst this
          have hd : decide ((k : Int) < (k : Int)) = false := by simp
          go_upto_region 17 with (fail)
          go_step
          go_step
          refine load_step rfl (D.blk _ (List.mem_of_getElem? (i := 0) rfl)) (by kernel_rfl) (by kernel_rfl) ?_
          go_step
          go_step
          refine store_step (vs := pkA { p with pA := pA, pn := k, pc := pc }) rfl rfl (D.blk _ (List.mem_of_getElem? (i := 1) rfl)) (by rfl) (by kernel_rfl) (by simp [Value.oneCell', pkA]) (fun W hr => ?_)
          have E := (D.re 1 rfl hr).tail
          have hneR := own_tne ho (D.blk _ (List.mem_of_getElem? (i := 1) rfl)) HT.out
          have hoW := rw_same ho (fun j hj => hr.oth j (fun e => hneR (by rw [hj, e])))
          clear D ho hr
          go_wp2_with fail
          have h := HPS.out.1
          exact bodyPost_ret (v := .agg (pkA { p with pA := pA, pn := k, pc := pc })) (results_cell Tryz.results4 rfl (E.blk _ (List.mem_of_getElem? (i := 0) rfl)) (by kernel_rfl) (by kernel_rfl)) rfl ⟨⟨{ p with pA := pA, pn := k, pc := pc }, ⟨h.fl, h.known, h.hops, h.seq, h.ack, h.id, h.icmp, h.udp, h.ntcp, h.nicmp, h.acked, by show k ≤ 1400; omega⟩, rfl, pay, hpay.symm, hoW⟩, (E.le (by omega)).to⟩
end Go.Proofs.YtfakfhbcpldeoaaGreatDoor
