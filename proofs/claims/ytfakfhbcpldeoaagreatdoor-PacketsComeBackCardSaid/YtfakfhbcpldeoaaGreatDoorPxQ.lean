/- PacketsComeBack: the walk (printed by gen_pxq.py). -/
import Derived.Test.YtfakfhbcpldeoaaGreatDoorPxO
import Derived.Test.YtfakfhbcpldeoaaGreatDoorPxP
import Derived.Test.YtfakfhbcpldeoaaGreatDoorRyF
namespace Go.Proofs.YtfakfhbcpldeoaaGreatDoor
open Go.RowKit Go.Hw Go.Shelf

theorem write_len (p : Pk) (pay : List UInt8) (h : PkOk p) (hn : pay.length ≤ 1400) : 28 ≤ (writeP p pay).length ∧ (writeP p pay).length ≤ 1460 := by
  have h1 := partW_len p pay h hn
  have h2 : 8 ≤ (partW p pay).length := by
    unfold partW
    rw [put2_len]
    rcases h.known with e | e | e <;> simp [partP, frontP, e, putN_length] <;> omega
  have hs := h.fl.six
  unfold writeP
  split
  next h6 =>
    have h3 : (head6 p (partW p pay).length).length = 40 := by
      rw [h6] at hs
      simp [head6, addrP, putN_length, hs]
    rw [List.length_append, h3]
    omega
  next h6 =>
    have h3 : (head4 p (partW p pay).length).length = 20 := by
      have h6' : p.f.s6 = false := by simpa using h6
      rw [h6'] at hs
      simp [head4, addrP, putN_length, hs]
    rw [List.length_append, put2_len, h3]
    omega
theorem DS.packet2 {w0 w : World} {b : Nat} {A : Option Addr} {cap : Nat} {l : List Int} {at_ m : Int} {bs : List Bk} (h : DS w0 w b A cap l at_ m bs) (hm : at_ + m < 1099511610000) :
    Calls Tryz.prog 4 #[.pointer (some ⟨b, 0, none⟩)] w fun e w' => (∃ (p : Pk) (pay : List UInt8), PkOk p ∧ e = .returned (.agg (pkA p)) ∧ bOwn w' w.heap.size p.pA p.pn p.pc pay) ∧ DS w0 w' b A cap l at_ (m + 100) bs ∧ w.grownBy w' (some b) :=
  h.call fun x _ hx hs => (rightPacket_any b A cap l x w hs (by omega)).mono fun e w' ⟨⟨p, pay, hp, he, hn, ho⟩, ht⟩ => ⟨⟨p, pay, hp, he, hn.symm, ho⟩, ht⟩
theorem xor_bit : ∀ (n : Fin 256) (k : Fin 8), 0 ≤ bits .xor .u8 ((n.val : Nat) : Int) ((2 ^ k.val : Nat) : Int) ∧ bits .xor .u8 ((n.val : Nat) : Int) ((2 ^ k.val : Nat) : Int) < 256 ∧ bits .xor .u8 ((n.val : Nat) : Int) ((2 ^ k.val : Nat) : Int) ≠ ((n.val : Nat) : Int) := by decide +kernel
theorem xor_byte (c : UInt8) (k : Nat) (hk : k < 8) : ∃ d : UInt8, bits .xor .u8 (c.toNat : Int) ((2 ^ k : Nat) : Int) = ((d.toNat : Nat) : Int) ∧ d ≠ c := by
  obtain ⟨h1, h2, h3⟩ := xor_bit ⟨c.toNat, UInt8.toNat_lt c⟩ ⟨k, hk⟩
  dsimp only at h1 h2 h3
  refine ⟨UInt8.ofNat (bits .xor .u8 (c.toNat : Int) ((2 ^ k : Nat) : Int)).toNat, ?_, fun e => ?_⟩
  · rw [UInt8.toNat_ofNat']; omega
  · have h4 := congrArg UInt8.toNat e
    rw [UInt8.toNat_ofNat'] at h4
    omega
theorem wrap_pow8 : ∀ k : Fin 8, IntKind.u8.wrap ((2 : Int) ^ k.val) = ((2 ^ k.val : Nat) : Int) := by decide
/-- A struct that is loaded whole, whatever guards it. -/
theorem wpList_load {P : Program} {ops : Array Oper} {rest : List Oper} {a : Act} {w : World} {Q : Exit → Act → World → Prop} {T T' ty : TypeId} {x : Operand} {d : Option Tmp} {pos : String} {after : Array Edge} {guard : Option (Nat × Bool)} {R : Nat} {cs : Array Value}
    (hx : a.eval x = .pointer (some ⟨R, 0, none⟩)) (hb : w.heap[R]? = some (.cells cs T' (0, 0))) (ha : (isAgg T).run P w = .ok true w) (hs : (sizeOf T).run P w = .ok cs.size w)
    (hw : Region.wanted { dst := d, op := Op.load T x, type := ty, pos := pos, after := after, guard := guard } (yielded ops a.tmps) = true)
    (hK : wpList P ops Q rest (a.put d (.agg cs)) w) : wpList P ops Q ({ dst := d, op := Op.load T x, type := ty, pos := pos, after := after, guard := guard } :: rest) a w := by
  unfold wpList
  rw [if_pos hw]
  exact .inl (load_step hx hb ha hs hK)
/-- What stays where only the stream's block is changed. -/
theorem bAt.gr {w w' : World} {A : Option Addr} {bs : List UInt8} {b : Nat} (h : bAt w A bs) (hg : w.grownBy w' (some b)) (hn : ∀ g off, A = some ⟨g, off, none⟩ → g ≠ b) : bAt w' A bs := fun i c hc => by
  obtain ⟨g, off, e, hl, hx⟩ := h i c hc
  exact ⟨g, off, e, Nat.lt_of_lt_of_le hl hg.size, (World.cell?_of_block (w := w) (a := ⟨g, off + i, none⟩) (hg.block g hl (fun e2 => hn _ _ e (by injection e2)))).trans hx⟩
theorem fin8 {w W8 w' : World} {base x g n cap : Nat} {bs : List UInt8} (ho : bOwn W8 base (some ⟨x, 0, none⟩) n cap bs) (ha : bAt W8 (some ⟨g, 0, none⟩) bs) (hw : Below w.heap.size w W8) (hg : W8.grownBy w' (some w.heap.size)) (hxs : x ≠ w.heap.size) (hgs : g ≠ w.heap.size) (hgx : g ≠ x) (hxw : w.heap.size ≤ x) (_ : True) (z : UInt8) (hgl : g < W8.heap.size) (dn : Nat) :
    bAt (w'.setCell ⟨x, dn, none⟩ (.int .u8 z.toNat)) (some ⟨x, 0, none⟩) (bs.set dn z) ∧ x < (w'.setCell ⟨x, dn, none⟩ (.int .u8 z.toNat)).heap.size ∧ Below w.heap.size w (w'.setCell ⟨x, dn, none⟩ (.int .u8 z.toNat)) ∧ bAt (w'.setCell ⟨x, dn, none⟩ (.int .u8 z.toNat)) (some ⟨g, 0, none⟩) bs ∧ g < (w'.setCell ⟨x, dn, none⟩ (.int .u8 z.toNat)).heap.size := by
  have ho' : bOwn w' base (some ⟨x, 0, none⟩) n cap bs := ⟨ho.1, ho.2.kept hg (.inr (fun e => hxs (by simpa [Value.ownBlock] using e)))⟩
  have hx := (ho.2.lt x rfl).2
  have ha' := ha.gr hg (fun g' off e => by injection e with e; injection e with e; omega)
  refine ⟨(ho'.put dn z).at_, ?_, bl_setAt (hw.grown hg hw.size (fun k hk => by injection hk with hk; omega)) hxw, ha'.rc (Rchg.set Rchg.here (fun _ => rfl) dn _) hgx, ?_⟩
  · have := hg.size; simp [World.setCell]; omega
  · have := hg.size; simp [World.setCell]; omega
set_option maxRecDepth 100000 in
set_option maxHeartbeats 4000000 in
theorem packetsComeBack_any (A : Option Addr) (cap : Nat) (l : List Int) (w : World) (hA : ∀ i, i < l.length → ∃ g off, A = some ⟨g, off, none⟩ ∧ g < w.heap.size ∧ w.cell? ⟨g, off + i, none⟩ = some (.int .i64 (l.getD i 0)))
    (hfits : ∀ i, -9223372036854775808 ≤ l.getD i 0 ∧ l.getD i 0 ≤ 9223372036854775807) (hlong : l.length ≤ 17592186044416) (hmx : MxW w) :
    Calls Tryz.prog 3 #[.slice A l.length cap] w fun e w' => e = .returned (.bool true) ∧ Below w.heap.size w w' := by
  have hs0 : Str (w.alloc (.cells #[.slice A l.length cap, .int .i64 0] 25)) w.heap.size A cap l 0 := {
    cell := heap_alloc_new w _
    ints := fun i hi => by
      obtain ⟨g, off, h1, h2, h3⟩ := hA i hi
      exact ⟨g, off, h1, h2, by rw [World.cell?_alloc_lt _ _ _ h2]; exact h3⟩
    fits := hfits
    long := hlong
    low := by omega
    high := by omega }
  have hB0 : Below w.heap.size w (w.alloc (.cells #[.slice A l.length cap, .int .i64 0] 25)) := (Below.refl _ _).alloc (Nat.le_refl _) _
  have hmw : ∀ W, Below w.heap.size w W → MxW W := fun W hb => by
    obtain ⟨m, hm⟩ := hmx
    exact ⟨m, (hb.cell (p := ⟨0, 0, none⟩) (World.block_lt_of_cell? w _ hm)).trans hm⟩
  have HS := Lib.hid hs0
  have HB := Lib.hid hB0
  have HM := Lib.hid hmw
  clear hs0 hB0 hA hfits hmx hmw
  go_enter Tryz.func3, Tryz.ntmps3
  go_upto_region 2 with (fail)
  have hsz1 : (w.alloc (.cells #[.slice A l.length cap, .int .i64 0] 25)).heap.size = w.heap.size + 1 := by simp
  generalize hW : World.alloc _ _ = W1 at HS HB hsz1 ⊢
  clear hW
  have D0 := DS.start HS.out
  have HZ1 := Lib.hid hsz1
  clear hsz1
  go_wp2_with fail
  refine (D0.packet2 (by omega)).mono ?_
  rintro e W2 ⟨⟨p, pay, hp, rfl, hown⟩, D1, hg2⟩
  have hP := HS.out.lt
  have HLE : Hid (W1.heap.size ≤ W2.heap.size) := Lib.hid hg2.size
  have hat2 : bAt W2 p.pA pay := hown.at_
  have hpaL : ∀ g off, p.pA = some ⟨g, off, none⟩ → W1.heap.size ≤ g ∧ g < W2.heap.size := fun g off e => hown.2.lt g (by rw [e]; rfl)
  have hlen := hown.1
  have hnil := fun e => hown.nilc e
  have hple := hp.pay
  have HPok := Lib.hid hp
  have h3 := al1 W2 (.cells (pkA noPk0) 31)
  have HB2 : Hid (Below w.heap.size w W2) := Lib.hid (HB.out.grown hg2 (by have := HB.out.size; omega) (fun k hk => by injection hk with hk; omega))
  have HD1 := Lib.hid D1
  clear D0 hown hg2 D1
  dsimp only
  first | refine store_step (vs := pkA p) rfl rfl h3 (by rfl) (by kernel_rfl) (by simp [Value.oneCell', pkA]) (fun W3 hr => ?_) | (go_step; first | refine store_step (vs := pkA p) rfl rfl h3 (by rfl) (by kernel_rfl) (by simp [Value.oneCell', pkA]) (fun W3 hr => ?_) | (go_step; first | refine store_step (vs := pkA p) rfl rfl h3 (by rfl) (by kernel_rfl) (by simp [Value.oneCell', pkA]) (fun W3 hr => ?_) | (go_step; first | refine store_step (vs := pkA p) rfl rfl h3 (by rfl) (by kernel_rfl) (by simp [Value.oneCell', pkA]) (fun W3 hr => ?_) | (go_step; first | refine store_step (vs := pkA p) rfl rfl h3 (by rfl) (by kernel_rfl) (by simp [Value.oneCell', pkA]) (fun W3 hr => ?_) | (go_step; first | refine store_step (vs := pkA p) rfl rfl h3 (by rfl) (by kernel_rfl) (by simp [Value.oneCell', pkA]) (fun W3 hr => ?_) | (go_step; first | refine store_step (vs := pkA p) rfl rfl h3 (by rfl) (by kernel_rfl) (by simp [Value.oneCell', pkA]) (fun W3 hr => ?_) | (go_step; first | refine store_step (vs := pkA p) rfl rfl h3 (by rfl) (by kernel_rfl) (by simp [Value.oneCell', pkA]) (fun W3 hr => ?_) | (go_step; first | refine store_step (vs := pkA p) rfl rfl h3 (by rfl) (by kernel_rfl) (by simp [Value.oneCell', pkA]) (fun W3 hr => ?_) | (go_step; first | refine store_step (vs := pkA p) rfl rfl h3 (by rfl) (by kernel_rfl) (by simp [Value.oneCell', pkA]) (fun W3 hr => ?_) | (go_step; first | refine store_step (vs := pkA p) rfl rfl h3 (by rfl) (by kernel_rfl) (by simp [Value.oneCell', pkA]) (fun W3 hr => ?_) | (go_step; first | refine store_step (vs := pkA p) rfl rfl h3 (by rfl) (by kernel_rfl) (by simp [Value.oneCell', pkA]) (fun W3 hr => ?_) | (go_step; first | refine store_step (vs := pkA p) rfl rfl h3 (by rfl) (by kernel_rfl) (by simp [Value.oneCell', pkA]) (fun W3 hr => ?_) | (go_step; first | refine store_step (vs := pkA p) rfl rfl h3 (by rfl) (by kernel_rfl) (by simp [Value.oneCell', pkA]) (fun W3 hr => ?_) | (go_step; refine store_step (vs := pkA p) rfl rfl h3 (by rfl) (by kernel_rfl) (by simp [Value.oneCell', pkA]) (fun W3 hr => ?_)))))))))))))))
  have HR3 := Lib.hid hr.blk
  have HB23 : Hid (Below W2.heap.size W2 W3) := Lib.hid (hr.below (bl_alloc W2 _) (Nat.le_refl _))
  clear hr h3
  have HPA : Hid (PayAt W3 p pay) := Lib.hid ⟨hat2.below HB23.out, hlen, hnil, by omega⟩
  have HPL := Lib.hid hpaL
  have hplen : pay.length ≤ 1400 := by omega
  obtain ⟨bs, hbs⟩ : ∃ bs : List UInt8, writeP p pay = bs := ⟨_, rfl⟩
  have hwl := write_len p pay HPok.out hplen
  rw [hbs] at hwl
  have HBS := Lib.hid hbs
  have hP3 : W2.heap.size < W3.heap.size := lt_of_block HR3.out
  clear hat2 hlen hnil hpaL hbs hple hp
  go_upto_region 3 with (fail)
  first | refine load_step rfl HR3.out (by kernel_rfl) (by kernel_rfl) ?_ | (go_step; first | refine load_step rfl HR3.out (by kernel_rfl) (by kernel_rfl) ?_ | (go_step; first | refine load_step rfl HR3.out (by kernel_rfl) (by kernel_rfl) ?_ | (go_step; first | refine load_step rfl HR3.out (by kernel_rfl) (by kernel_rfl) ?_ | (go_step; first | refine load_step rfl HR3.out (by kernel_rfl) (by kernel_rfl) ?_ | (go_step; first | refine load_step rfl HR3.out (by kernel_rfl) (by kernel_rfl) ?_ | (go_step; first | refine load_step rfl HR3.out (by kernel_rfl) (by kernel_rfl) ?_ | (go_step; first | refine load_step rfl HR3.out (by kernel_rfl) (by kernel_rfl) ?_ | (go_step; first | refine load_step rfl HR3.out (by kernel_rfl) (by kernel_rfl) ?_ | (go_step; first | refine load_step rfl HR3.out (by kernel_rfl) (by kernel_rfl) ?_ | (go_step; first | refine load_step rfl HR3.out (by kernel_rfl) (by kernel_rfl) ?_ | (go_step; first | refine load_step rfl HR3.out (by kernel_rfl) (by kernel_rfl) ?_ | (go_step; first | refine load_step rfl HR3.out (by kernel_rfl) (by kernel_rfl) ?_ | (go_step; first | refine load_step rfl HR3.out (by kernel_rfl) (by kernel_rfl) ?_ | (go_step; refine load_step rfl HR3.out (by kernel_rfl) (by kernel_rfl) ?_))))))))))))))
  go_wp2_with fail
  refine (writeApi_any p HPok.out pay W3 HPA.out).mono ?_
  rintro e W4 ⟨A4, n, cap4, rfl, ho4, hb4⟩
  rw [HBS.out] at ho4
  have hln := ho4.1
  obtain ⟨g, rfl, hg4, hg4l, hnc⟩ := ho4.ex (by omega)
  have HB34 := Lib.hid hb4
  have HA4 := Lib.hid ho4.at_
  clear ho4 hb4
  go_wp2_with fail
  refine (readPacket_any g n cap4 bs W4 HA4.out hln (by omega) hnc (by omega) hg4l).mono ?_
  rintro e W5 ⟨h1, _, hb5⟩
  obtain ⟨q, hq, rfl, hpy5⟩ : ∃ q : Pk, q = { p with pA := q.pA, pn := q.pn, pc := q.pc } ∧ e = .returned (.tuple #[.agg (pkA q), .int .i64 0]) ∧ PayAt W5 q pay := by
    obtain ⟨A5, c5, he, h2⟩ := h1 _ _ (by rw [← HBS.out]; exact read_write p pay HPok.out hplen)
    refine ⟨_, ?_, he, h2⟩
    rfl
  have HQ := Lib.hid hq
  have HB45 := Lib.hid hb5
  have h6 := al1 W5 (.cells (pkA noPk0) 31)
  clear h1 hq hb5
  dsimp only
  first | refine store_step (vs := pkA q) rfl rfl h6 (by rfl) (by kernel_rfl) (by simp [Value.oneCell', pkA]) (fun W6 hr => ?_) | (go_step; first | refine store_step (vs := pkA q) rfl rfl h6 (by rfl) (by kernel_rfl) (by simp [Value.oneCell', pkA]) (fun W6 hr => ?_) | (go_step; first | refine store_step (vs := pkA q) rfl rfl h6 (by rfl) (by kernel_rfl) (by simp [Value.oneCell', pkA]) (fun W6 hr => ?_) | (go_step; first | refine store_step (vs := pkA q) rfl rfl h6 (by rfl) (by kernel_rfl) (by simp [Value.oneCell', pkA]) (fun W6 hr => ?_) | (go_step; first | refine store_step (vs := pkA q) rfl rfl h6 (by rfl) (by kernel_rfl) (by simp [Value.oneCell', pkA]) (fun W6 hr => ?_) | (go_step; first | refine store_step (vs := pkA q) rfl rfl h6 (by rfl) (by kernel_rfl) (by simp [Value.oneCell', pkA]) (fun W6 hr => ?_) | (go_step; first | refine store_step (vs := pkA q) rfl rfl h6 (by rfl) (by kernel_rfl) (by simp [Value.oneCell', pkA]) (fun W6 hr => ?_) | (go_step; first | refine store_step (vs := pkA q) rfl rfl h6 (by rfl) (by kernel_rfl) (by simp [Value.oneCell', pkA]) (fun W6 hr => ?_) | (go_step; first | refine store_step (vs := pkA q) rfl rfl h6 (by rfl) (by kernel_rfl) (by simp [Value.oneCell', pkA]) (fun W6 hr => ?_) | (go_step; first | refine store_step (vs := pkA q) rfl rfl h6 (by rfl) (by kernel_rfl) (by simp [Value.oneCell', pkA]) (fun W6 hr => ?_) | (go_step; first | refine store_step (vs := pkA q) rfl rfl h6 (by rfl) (by kernel_rfl) (by simp [Value.oneCell', pkA]) (fun W6 hr => ?_) | (go_step; first | refine store_step (vs := pkA q) rfl rfl h6 (by rfl) (by kernel_rfl) (by simp [Value.oneCell', pkA]) (fun W6 hr => ?_) | (go_step; first | refine store_step (vs := pkA q) rfl rfl h6 (by rfl) (by kernel_rfl) (by simp [Value.oneCell', pkA]) (fun W6 hr => ?_) | (go_step; first | refine store_step (vs := pkA q) rfl rfl h6 (by rfl) (by kernel_rfl) (by simp [Value.oneCell', pkA]) (fun W6 hr => ?_) | (go_step; refine store_step (vs := pkA q) rfl rfl h6 (by rfl) (by kernel_rfl) (by simp [Value.oneCell', pkA]) (fun W6 hr => ?_)))))))))))))))
  have HR6 := Lib.hid hr.blk
  have HB56 : Hid (Below W5.heap.size W5 W6) := Lib.hid (hr.below (bl_alloc W5 _) (Nat.le_refl _))
  clear hr h6
  have HPY6 := Lib.hid (hpy5.below HB56.out)
  have HPA6 := Lib.hid (((HPA.out.below HB34.out).below HB45.out).below HB56.out)
  have HP6 : Hid (W6.heap[W2.heap.size]? = some (.cells (pkA p) 31 (0, 0))) := Lib.hid ((HB56.out.block _ (Nat.lt_of_lt_of_le hP3 (Nat.le_trans HB34.out.size HB45.out.size))).trans ((HB45.out.block _ (Nat.lt_of_lt_of_le hP3 HB34.out.size)).trans ((HB34.out.block _ hP3).trans HR3.out)))
  clear hpy5
  go_upto_region 5 with (fail)
  first | refine wpList_load rfl HP6.out (by kernel_rfl) (by kernel_rfl) (by first | rfl | simp [Region.wanted, yielded]) ?_ | (go_step; first | refine wpList_load rfl HP6.out (by kernel_rfl) (by kernel_rfl) (by first | rfl | simp [Region.wanted, yielded]) ?_ | (go_step; first | refine wpList_load rfl HP6.out (by kernel_rfl) (by kernel_rfl) (by first | rfl | simp [Region.wanted, yielded]) ?_ | (go_step; first | refine wpList_load rfl HP6.out (by kernel_rfl) (by kernel_rfl) (by first | rfl | simp [Region.wanted, yielded]) ?_ | (go_step; first | refine wpList_load rfl HP6.out (by kernel_rfl) (by kernel_rfl) (by first | rfl | simp [Region.wanted, yielded]) ?_ | (go_step; first | refine wpList_load rfl HP6.out (by kernel_rfl) (by kernel_rfl) (by first | rfl | simp [Region.wanted, yielded]) ?_ | (go_step; first | refine wpList_load rfl HP6.out (by kernel_rfl) (by kernel_rfl) (by first | rfl | simp [Region.wanted, yielded]) ?_ | (go_step; first | refine wpList_load rfl HP6.out (by kernel_rfl) (by kernel_rfl) (by first | rfl | simp [Region.wanted, yielded]) ?_ | (go_step; first | refine wpList_load rfl HP6.out (by kernel_rfl) (by kernel_rfl) (by first | rfl | simp [Region.wanted, yielded]) ?_ | (go_step; first | refine wpList_load rfl HP6.out (by kernel_rfl) (by kernel_rfl) (by first | rfl | simp [Region.wanted, yielded]) ?_ | (go_step; first | refine wpList_load rfl HP6.out (by kernel_rfl) (by kernel_rfl) (by first | rfl | simp [Region.wanted, yielded]) ?_ | (go_step; first | refine wpList_load rfl HP6.out (by kernel_rfl) (by kernel_rfl) (by first | rfl | simp [Region.wanted, yielded]) ?_ | (go_step; first | refine wpList_load rfl HP6.out (by kernel_rfl) (by kernel_rfl) (by first | rfl | simp [Region.wanted, yielded]) ?_ | (go_step; first | refine wpList_load rfl HP6.out (by kernel_rfl) (by kernel_rfl) (by first | rfl | simp [Region.wanted, yielded]) ?_ | (go_step; first | refine wpList_load rfl HP6.out (by kernel_rfl) (by kernel_rfl) (by first | rfl | simp [Region.wanted, yielded]) ?_ | (go_step; first | refine wpList_load rfl HP6.out (by kernel_rfl) (by kernel_rfl) (by first | rfl | simp [Region.wanted, yielded]) ?_ | (go_step; first | refine wpList_load rfl HP6.out (by kernel_rfl) (by kernel_rfl) (by first | rfl | simp [Region.wanted, yielded]) ?_ | (go_step; first | refine wpList_load rfl HP6.out (by kernel_rfl) (by kernel_rfl) (by first | rfl | simp [Region.wanted, yielded]) ?_ | (go_step; first | refine wpList_load rfl HP6.out (by kernel_rfl) (by kernel_rfl) (by first | rfl | simp [Region.wanted, yielded]) ?_ | (go_step; first | refine wpList_load rfl HP6.out (by kernel_rfl) (by kernel_rfl) (by first | rfl | simp [Region.wanted, yielded]) ?_ | (go_step; first | refine wpList_load rfl HP6.out (by kernel_rfl) (by kernel_rfl) (by first | rfl | simp [Region.wanted, yielded]) ?_ | (go_step; first | refine wpList_load rfl HP6.out (by kernel_rfl) (by kernel_rfl) (by first | rfl | simp [Region.wanted, yielded]) ?_ | (go_step; first | refine wpList_load rfl HP6.out (by kernel_rfl) (by kernel_rfl) (by first | rfl | simp [Region.wanted, yielded]) ?_ | (go_step; first | refine wpList_load rfl HP6.out (by kernel_rfl) (by kernel_rfl) (by first | rfl | simp [Region.wanted, yielded]) ?_ | (go_step; first | refine wpList_load rfl HP6.out (by kernel_rfl) (by kernel_rfl) (by first | rfl | simp [Region.wanted, yielded]) ?_ | (go_step; first | refine wpList_load rfl HP6.out (by kernel_rfl) (by kernel_rfl) (by first | rfl | simp [Region.wanted, yielded]) ?_ | (go_step; first | refine wpList_load rfl HP6.out (by kernel_rfl) (by kernel_rfl) (by first | rfl | simp [Region.wanted, yielded]) ?_ | (go_step; first | refine wpList_load rfl HP6.out (by kernel_rfl) (by kernel_rfl) (by first | rfl | simp [Region.wanted, yielded]) ?_ | (go_step; first | refine wpList_load rfl HP6.out (by kernel_rfl) (by kernel_rfl) (by first | rfl | simp [Region.wanted, yielded]) ?_ | (go_step; first | refine wpList_load rfl HP6.out (by kernel_rfl) (by kernel_rfl) (by first | rfl | simp [Region.wanted, yielded]) ?_ | (go_step; refine wpList_load rfl HP6.out (by kernel_rfl) (by kernel_rfl) (by first | rfl | simp [Region.wanted, yielded]) ?_))))))))))))))))))))))))))))))
  first | refine wpList_load rfl HR6.out (by kernel_rfl) (by kernel_rfl) (by first | rfl | simp [Region.wanted, yielded]) ?_ | (go_step; first | refine wpList_load rfl HR6.out (by kernel_rfl) (by kernel_rfl) (by first | rfl | simp [Region.wanted, yielded]) ?_ | (go_step; first | refine wpList_load rfl HR6.out (by kernel_rfl) (by kernel_rfl) (by first | rfl | simp [Region.wanted, yielded]) ?_ | (go_step; first | refine wpList_load rfl HR6.out (by kernel_rfl) (by kernel_rfl) (by first | rfl | simp [Region.wanted, yielded]) ?_ | (go_step; first | refine wpList_load rfl HR6.out (by kernel_rfl) (by kernel_rfl) (by first | rfl | simp [Region.wanted, yielded]) ?_ | (go_step; first | refine wpList_load rfl HR6.out (by kernel_rfl) (by kernel_rfl) (by first | rfl | simp [Region.wanted, yielded]) ?_ | (go_step; refine wpList_load rfl HR6.out (by kernel_rfl) (by kernel_rfl) (by first | rfl | simp [Region.wanted, yielded]) ?_))))))
  go_wp2_with fail
  refine (samePacket_any p q pay W6 HPA6.out HPY6.out HQ.out).mono ?_
  rintro e W7 ⟨rfl, hb7⟩
  have HB67 := Lib.hid hb7
  have HA7 := Lib.hid ((((HA4.out.below HB45.out).below HB56.out).below hb7))
  clear hb7
  go_wp2_with fail
  refine (cloneB_any g 0 n cap4 bs W7 HA7.out hln (by omega)).mono ?_
  rintro e W8 ⟨A8, cap8, rfl, ho8, hb8⟩
  obtain ⟨x, rfl, hx8, hx8l, hxc⟩ := ho8.ex (by omega)
  have HO8 := Lib.hid ho8
  have HB78 := Lib.hid hb8
  have HA8 := Lib.hid (HA7.out.below hb8)
  have hgx : g ≠ x := by
    have h1 := HB45.out.size
    have h2 := HB56.out.size
    have h3 := HB67.out.size
    omega
  clear ho8 hb8
  have HB28 : Hid (Below W2.heap.size W2 W8) := Lib.hid ((((((HB23.out.trans (HB34.out.mono HB23.out.size)).trans (HB45.out.mono (Nat.le_trans HB23.out.size HB34.out.size))).trans (HB56.out.mono (Nat.le_trans HB23.out.size (Nat.le_trans HB34.out.size HB45.out.size)))).trans (HB67.out.mono (Nat.le_trans HB23.out.size (Nat.le_trans HB34.out.size (Nat.le_trans HB45.out.size HB56.out.size))))).trans (HB78.out.mono (Nat.le_trans HB23.out.size (Nat.le_trans HB34.out.size (Nat.le_trans HB45.out.size (Nat.le_trans HB56.out.size HB67.out.size)))))))
  obtain ⟨x0, hx0, hx1, hst2, -⟩ := HD1.out.to
  have hsl : w.heap.size < W2.heap.size := Nat.lt_of_lt_of_le hP HLE.out
  have hst8 : Str W8 w.heap.size A cap l x0 := by
    exact hst2.keep (HB28.out.block _ hsl) (fun p hp => World.cell?_of_block (HB28.out.block p.block (by omega)))
  have hd0 := draw_low l x0 n (by omega)
  have hd1 := draw_high l x0 n (by omega)
  obtain ⟨dn, hdn⟩ : ∃ dn : Nat, drawOf l x0 n = dn := ⟨(drawOf l x0 n).toNat, by omega⟩
  have hk0 := draw_low l (x0 + 1) 8 (by omega)
  have hk1 := draw_high l (x0 + 1) 8 (by omega)
  obtain ⟨kn, hkn⟩ : ∃ kn : Nat, drawOf l (x0 + 1) 8 = kn := ⟨(drawOf l (x0 + 1) 8).toNat, by omega⟩
  rw [hdn] at hd0 hd1
  rw [hkn] at hk0 hk1
  have hdl : dn < n := by omega
  have hkl : kn < 8 := by omega
  have hq8 := HO8.out.at_.get dn (by omega)
  obtain ⟨y, hy⟩ : ∃ y, bs.getD dn 0 = y := ⟨_, rfl⟩
  rw [hy] at hq8
  have HY := Lib.hid hy
  have HC8 : Hid (W8.cell? ⟨x, dn, none⟩ = some (.int .u8 y.toNat)) := Lib.hid (by have := hq8.1; simpa using this)
  obtain ⟨z, hz, hzy⟩ := xor_byte y kn hkl
  have hmk : IntKind.u8.wrap ((2 : Int) ^ kn) = ((2 ^ kn : Nat) : Int) := wrap_pow8 ⟨kn, hkl⟩
  generalize ((2 ^ kn : Nat) : Int) = mk at hz hmk
  have HZY := Lib.hid hzy
  have HX8 := Lib.hid hst8
  have HDN := Lib.hid hdn
  have HKN := Lib.hid hkn
  have ddn : (dn : Int) < (n : Int) := by omega
  have dkn : (kn : Int) < 8 := by omega
  have hxs : x ≠ w.heap.size := by
    have h1 := HB28.out.size
    have h2 := HB78.out.size
    have h3 : W2.heap.size ≤ W7.heap.size := Nat.le_trans HB23.out.size (Nat.le_trans HB34.out.size (Nat.le_trans HB45.out.size (Nat.le_trans HB56.out.size HB67.out.size)))
    omega
  have HBw8 : Hid (Below w.heap.size w W8) := Lib.hid (HB2.out.trans (HB28.out.mono HB2.out.size))
  have hx8w : w.heap.size ≤ x := by
    have h1 := HB2.out.size
    have h3 : W2.heap.size ≤ W7.heap.size := Nat.le_trans HB23.out.size (Nat.le_trans HB34.out.size (Nat.le_trans HB45.out.size (Nat.le_trans HB56.out.size HB67.out.size)))
    omega
  have hg8l : g < W8.heap.size := Nat.lt_of_lt_of_le hg4l (Nat.le_trans HB45.out.size (Nat.le_trans HB56.out.size (Nat.le_trans HB67.out.size HB78.out.size)))
  have hgs : g ≠ w.heap.size := by
    have h3 := HB23.out.size
    omega
  clear hst2 hq8 hy hst8 hdn hkn hzy hd0 hd1 hk0 hk1
  go_upto_region 8 with (fail)
  go_cut [] from 43 to 54 (fun wc => bAt wc (some ⟨x, 0, none⟩) (bs.set dn z) ∧ x < wc.heap.size ∧ Below w.heap.size w wc ∧ bAt wc (some ⟨g, 0, none⟩) bs ∧ g < wc.heap.size)
  case first =>
    refine wp_region_exact 12 (fun f' => ⟨#[.slice A l.length cap, undef, .bool false, .pointer (some ⟨w.heap.size, 0, none⟩), .pointer (some ⟨W2.heap.size, 0, none⟩), .slice (some ⟨g, 0, none⟩) n cap4, .int .i64 0, .pointer (some ⟨W5.heap.size, 0, none⟩), .int .i64 0, .slice (some ⟨x, 0, none⟩) n cap8, undef, undef, undef, undef, .slice A l.length cap, .agg #[Value.slice A l.length cap, Value.int IntKind.i64 0], .pointer (some ⟨w.heap.size, 0, none⟩), .pointer (some ⟨w.heap.size, 0, none⟩), .agg (pkA p), .tuple #[Value.slice (some { block := g, off := 0 }) n cap4, Value.int IntKind.i64 0], .agg (pkA p), .tuple #[Value.slice (some { block := g, off := 0 }) n cap4, Value.int IntKind.i64 0], .slice (some ⟨g, 0, none⟩) n cap4, .int .i64 0, .tuple #[Value.agg (pkA q), Value.int IntKind.i64 0], .slice (some ⟨g, 0, none⟩) n cap4, .tuple #[Value.agg (pkA q), Value.int IntKind.i64 0], .agg (pkA q), .int .i64 0, .int .i64 0, .bool false, .bool false, .int .i64 0, .bool false, .bool false, .bool false, .agg (pkA p), .agg (pkA q), .bool true, .bool false, .bool false, .slice (some ⟨g, 0, none⟩) n cap4, .slice (some ⟨x, 0, none⟩) n cap8, f' 0, f' 1, f' 2, f' 3, f' 4, f' 5, f' 6, f' 7, f' 8, f' 9, f' 10, f' 11, undef, undef, undef, undef, undef, undef, undef, undef, undef, undef, undef, undef, undef, undef, undef, undef, undef, undef, undef, undef, undef, undef, undef, undef, undef, undef, undef, undef, undef], []⟩) (fun i => match i with | 0 => .slice (some ⟨x, 0, none⟩) n cap8 | 1 => .pointer (some ⟨w.heap.size, 0, none⟩) | 2 => .slice (some ⟨x, 0, none⟩) n cap8 | 3 => .int .i64 n | 4 => .int .i64 dn | 5 => .pointer (some ⟨x, dn, none⟩) | 6 => .int .u8 y.toNat | 7 => .pointer (some ⟨w.heap.size, 0, none⟩) | 8 => .int .i64 kn | 9 => .int .u8 mk | 10 => .int .u8 z.toNat | 11 => .pointer (some ⟨x, dn, none⟩) | _ => undef) (fun lb w' => Hid (Str w' w.heap.size A cap l (x0 + (if lb 4 = true then 1 else 0) + (if lb 8 = true then 1 else 0)) ∧ W8.grownBy w' (some w.heap.size) ∧ (lb 8 = true → lb 4 = true))) (fun _ => undef) 10 (show Tryz.prog.follows .mixedOrders = true from by kernel_rfl) (by kernel_rfl) ?_ ?_ (Lib.hid ⟨by simpa using (show Str W8.drew w.heap.size A cap l x0 from ⟨HX8.out.cell, HX8.out.ints, HX8.out.fits, HX8.out.long, HX8.out.low, HX8.out.high⟩), ⟨rfl, rfl, rfl, Nat.le_refl _, fun _ _ _ => rfl⟩, fun c => by cases c⟩)
    · intro i o hi ho lb f' w' hl hS hd
      have c8 : w'.cell? ⟨x, dn, none⟩ = some (.int .u8 y.toNat) := (World.cell?_of_block (w := W8) (a := ⟨x, dn, none⟩) (hS.out.2.1.block x hx8l (fun e => hxs (by injection e)))).trans HC8.out
      have z8 : w'.frozen? ⟨x, dn, none⟩ = false := (World.frozen?_of_block (w := W8) (a := ⟨x, dn, none⟩) (hS.out.2.1.block x hx8l (fun e => hxs (by injection e)))).trans (HO8.out.froz dn)
      have xl8 : x < w'.heap.size := Nat.lt_of_lt_of_le hx8l hS.out.2.1.size
      have hcase : i = 0 ∨ i = 1 ∨ i = 2 ∨ i = 3 ∨ i = 4 ∨ i = 5 ∨ i = 6 ∨ i = 7 ∨ i = 8 ∨ i = 9 ∨ i = 10 ∨ i = 11 := by omega
      rcases hcase with rfl | rfl | rfl | rfl | rfl | rfl | rfl | rfl | rfl | rfl | rfl | rfl <;> (replace ho := Option.some.inj ho; subst ho)
      · refine OpStep.of rfl ?_
        unfold Oper.wp
        go_simp
        exact ⟨by first | (simp [upd]; done) | (simp [upd]; omega), hS⟩
      · refine OpStep.of rfl ?_
        unfold Oper.wp
        go_simp
        exact ⟨by first | (simp [upd]; done) | (simp [upd]; omega), hS⟩
      · refine OpStep.of rfl ?_
        unfold Oper.wp
        go_simp
        exact ⟨by first | (simp [upd]; done) | (simp [upd]; omega), hS⟩
      · have e2 : f' 2 = .slice (some ⟨x, 0, none⟩) n cap8 := (hd ⟨2, .data⟩ (by simp) rfl).2
        refine OpStep.of rfl ?_
        unfold Oper.wp
        go_simp
        exact ⟨by first | (simp [upd, e2]; done) | (simp [upd, e2]; omega), hS⟩
      · have e1 : f' 1 = .pointer (some ⟨w.heap.size, 0, none⟩) := (hd ⟨1, .data⟩ (by simp) rfl).2
        have e3 : f' 3 = .int .i64 n := (hd ⟨3, .data⟩ (by simp) rfl).2
        refine OpStep.of rfl ?_
        unfold Oper.wp
        go_simp
        have h8 : lb 8 = false := by cases h : lb 8; rfl; exact absurd (hS.out.2.2 h) (by rw [hl]; decide)
        have hst : Str w' w.heap.size A cap l x0 := by have := hS.out.1; rw [hl, h8] at this; simpa using this
        refine (next_any w.heap.size A cap l x0 n w' hst (by omega) (by omega) (by omega)).mono ?_
        rintro e w9 ⟨rfl, hs9, hg9⟩
        exact ⟨by simp [upd, HDN.out, e1, e3], Lib.hid ⟨by show Str w9 w.heap.size A cap l (x0 + 1 + (if lb 8 = true then 1 else 0)); rw [h8]; simpa using hs9, hS.out.2.1.andThen hg9 (fun j hj => .inr hj), fun _ => rfl⟩⟩
      · have e0 : f' 0 = .slice (some ⟨x, 0, none⟩) n cap8 := (hd ⟨0, .data⟩ (by simp) rfl).2
        have e4 : f' 4 = .int .i64 dn := (hd ⟨4, .data⟩ (by simp) rfl).2
        refine OpStep.of rfl ?_
        unfold Oper.wp
        go_simp
        exact ⟨by first | (simp [upd, e0, e4]; done) | (simp [upd, e0, e4]; omega), hS⟩
      · have e5 : f' 5 = .pointer (some ⟨x, dn, none⟩) := (hd ⟨5, .data⟩ (by simp) rfl).2
        refine OpStep.of rfl ?_
        unfold Oper.wp
        go_simp
        exact ⟨by first | (simp [upd, e5]; done) | (simp [upd, e5]; omega), hS⟩
      · refine OpStep.of rfl ?_
        unfold Oper.wp
        go_simp
        exact ⟨by first | (simp [upd]; done) | (simp [upd]; omega), hS⟩
      · have e7 : f' 7 = .pointer (some ⟨w.heap.size, 0, none⟩) := (hd ⟨7, .data⟩ (by simp) rfl).2
        refine OpStep.of rfl ?_
        unfold Oper.wp
        go_simp
        have h4 : lb 4 = true := (hd ⟨4, .chain⟩ (by simp) rfl).1
        have hst : Str w' w.heap.size A cap l (x0 + 1) := by have := hS.out.1; rw [hl, h4] at this; simpa using this
        refine (next_any w.heap.size A cap l (x0 + 1) 8 w' hst (by omega) (by omega) (by omega)).mono ?_
        rintro e w9 ⟨rfl, hs9, hg9⟩
        exact ⟨by simp [upd, HKN.out, e7], Lib.hid ⟨by show Str w9 w.heap.size A cap l (x0 + (if lb 4 = true then 1 else 0) + 1); rw [h4]; simpa using hs9, hS.out.2.1.andThen hg9 (fun j hj => .inr hj), fun _ => h4⟩⟩
      · have e8 : f' 8 = .int .i64 kn := (hd ⟨8, .data⟩ (by simp) rfl).2
        refine OpStep.of rfl ?_
        unfold Oper.wp
        go_simp
        exact ⟨by first | (simp [upd, e8]; done) | (simp [upd, e8]; omega), hS⟩
      · have e6 : f' 6 = .int .u8 y.toNat := (hd ⟨6, .data⟩ (by simp) rfl).2
        have e9 : f' 9 = .int .u8 mk := (hd ⟨9, .data⟩ (by simp) rfl).2
        refine OpStep.of rfl ?_
        unfold Oper.wp
        go_simp
        exact ⟨by first | (simp [upd, e6, e9]; done) | (simp [upd, e6, e9]; omega), hS⟩
      · have e0 : f' 0 = .slice (some ⟨x, 0, none⟩) n cap8 := (hd ⟨0, .data⟩ (by simp) rfl).2
        have e4 : f' 4 = .int .i64 dn := (hd ⟨4, .data⟩ (by simp) rfl).2
        refine OpStep.of rfl ?_
        unfold Oper.wp
        go_simp
        exact ⟨by first | (simp [upd, e0, e4]; done) | (simp [upd, e0, e4]; omega), hS⟩
    · intro o ho lb f' w' hd hS
      have c8 : w'.cell? ⟨x, dn, none⟩ = some (.int .u8 y.toNat) := (World.cell?_of_block (w := W8) (a := ⟨x, dn, none⟩) (hS.out.2.1.block x hx8l (fun e => hxs (by injection e)))).trans HC8.out
      have z8 : w'.frozen? ⟨x, dn, none⟩ = false := (World.frozen?_of_block (w := W8) (a := ⟨x, dn, none⟩) (hS.out.2.1.block x hx8l (fun e => hxs (by injection e)))).trans (HO8.out.froz dn)
      have xl8 : x < w'.heap.size := Nat.lt_of_lt_of_le hx8l hS.out.2.1.size
      have e10 : f' 10 = .int .u8 z.toNat := (hd 10 (by omega)).2
      have e11 : f' 11 = .pointer (some ⟨x, dn, none⟩) := (hd 11 (by omega)).2
      replace ho := Option.some.inj ho
      subst ho
      refine ⟨rfl, ?_⟩
      have HFI := Lib.hid (fin8 HO8.out HA8.out HBw8.out hS.out.2.1 hxs hgs hgx hx8w trivial z hg8l dn)
      unfold Oper.wp
      go_simp
      go_step
      go_meet
      exact HFI.out
  case rest =>
  obtain ⟨hbx, hxl, hbw, hbg, hgl⟩ := hcut
  obtain ⟨W9, rfl⟩ : ∃ W9 : World, W9 = wc := ⟨_, rfl⟩
  have HBX := Lib.hid hbx
  have HBW := Lib.hid hbw
  have HBG := Lib.hid hbg
  have hlx : (bs.set dn z).length = n := by rw [List.length_set]; exact hln
  have HNE : Hid (bs.set dn z ≠ bs) := Lib.hid (fun e => by
    have h1 : (bs.set dn z).getD dn 0 = bs.getD dn 0 := by rw [e]
    rw [HY.out, List.getD_eq_getElem?_getD, List.getElem?_set_self (by omega)] at h1
    exact HZY.out h1)
  generalize bs.set dn z = xs at HBX hlx HNE
  clear hbx hbw hbg
  go_wp2_with fail
  refine (readPacket_any x n cap8 xs W9 HBX.out hlx (by omega) hxc (by omega) hxl).mono ?_
  rintro e W10 ⟨h1, h2, hb10⟩
  have hrd := fun W h => ready2 W (HM.out W h)
  have HB10 : Hid (Below w.heap.size w W10) := Lib.hid (HBW.out.trans (hb10.mono HBW.out.size))
  have HBX10 := Lib.hid (HBX.out.below hb10)
  have HBG10 := Lib.hid (HBG.out.below hb10)
  clear hb10
  have h10 := al1 W10 (.cells (pkA noPk0) 31)
  cases hr : readP xs with
  | none =>
    obtain ⟨q3, c3, hc3, rfl⟩ := h2 hr
    have e3 : (c3 == 0) = false := by simp [hc3]
    clear h1 h2 hr hc3
    dsimp only
    first | refine store_step (vs := pkA q3) rfl rfl h10 (by rfl) (by kernel_rfl) (by simp [Value.oneCell', pkA]) (fun W11 hr => ?_) | (go_step; first | refine store_step (vs := pkA q3) rfl rfl h10 (by rfl) (by kernel_rfl) (by simp [Value.oneCell', pkA]) (fun W11 hr => ?_) | (go_step; first | refine store_step (vs := pkA q3) rfl rfl h10 (by rfl) (by kernel_rfl) (by simp [Value.oneCell', pkA]) (fun W11 hr => ?_) | (go_step; first | refine store_step (vs := pkA q3) rfl rfl h10 (by rfl) (by kernel_rfl) (by simp [Value.oneCell', pkA]) (fun W11 hr => ?_) | (go_step; first | refine store_step (vs := pkA q3) rfl rfl h10 (by rfl) (by kernel_rfl) (by simp [Value.oneCell', pkA]) (fun W11 hr => ?_) | (go_step; first | refine store_step (vs := pkA q3) rfl rfl h10 (by rfl) (by kernel_rfl) (by simp [Value.oneCell', pkA]) (fun W11 hr => ?_) | (go_step; first | refine store_step (vs := pkA q3) rfl rfl h10 (by rfl) (by kernel_rfl) (by simp [Value.oneCell', pkA]) (fun W11 hr => ?_) | (go_step; first | refine store_step (vs := pkA q3) rfl rfl h10 (by rfl) (by kernel_rfl) (by simp [Value.oneCell', pkA]) (fun W11 hr => ?_) | (go_step; first | refine store_step (vs := pkA q3) rfl rfl h10 (by rfl) (by kernel_rfl) (by simp [Value.oneCell', pkA]) (fun W11 hr => ?_) | (go_step; first | refine store_step (vs := pkA q3) rfl rfl h10 (by rfl) (by kernel_rfl) (by simp [Value.oneCell', pkA]) (fun W11 hr => ?_) | (go_step; first | refine store_step (vs := pkA q3) rfl rfl h10 (by rfl) (by kernel_rfl) (by simp [Value.oneCell', pkA]) (fun W11 hr => ?_) | (go_step; first | refine store_step (vs := pkA q3) rfl rfl h10 (by rfl) (by kernel_rfl) (by simp [Value.oneCell', pkA]) (fun W11 hr => ?_) | (go_step; first | refine store_step (vs := pkA q3) rfl rfl h10 (by rfl) (by kernel_rfl) (by simp [Value.oneCell', pkA]) (fun W11 hr => ?_) | (go_step; first | refine store_step (vs := pkA q3) rfl rfl h10 (by rfl) (by kernel_rfl) (by simp [Value.oneCell', pkA]) (fun W11 hr => ?_) | (go_step; refine store_step (vs := pkA q3) rfl rfl h10 (by rfl) (by kernel_rfl) (by simp [Value.oneCell', pkA]) (fun W11 hr => ?_)))))))))))))))
    have HB11 : Hid (Below w.heap.size w W11) := Lib.hid (HB10.out.trans ((hr.below (bl_alloc W10 _) (Nat.le_refl _)).mono HB10.out.size))
    clear hr h10
    go_wp2_with fail
    refine (hrd _ HB11.out).mono ?_
    rintro e W12 ⟨rfl, hb12⟩
    have HF := Lib.hid (HB11.out.trans (hb12.mono HB11.out.size))
    clear hb12
    go_wp2_with fail
    go_ret
    exact ⟨rfl, HF.out⟩
  | some qp =>
    obtain ⟨q2, pay2⟩ := qp
    obtain ⟨hok2, hpl2⟩ := readP_ok hr
    have hsp := readP_spec hr
    obtain ⟨q3, hok3, hw3, rfl, hpy3⟩ : ∃ q3 : Pk, PkOk q3 ∧ writeP q3 pay2 = xs ∧ e = .returned (.tuple #[.agg (pkA q3), .int .i64 0]) ∧ PayAt W10 q3 pay2 := by
      obtain ⟨A5, c5, he, h4⟩ := h1 _ _ hr
      refine ⟨_, ?_, ?_, he, h4⟩
      · exact { hok2 with pay := hpl2 }
      · exact hsp
    have HOK3 := Lib.hid hok3
    have HW3 := Lib.hid hw3
    clear h1 h2 hr hok2 hsp hok3 hw3
    dsimp only
    first | refine store_step (vs := pkA q3) rfl rfl h10 (by rfl) (by kernel_rfl) (by simp [Value.oneCell', pkA]) (fun W11 hr => ?_) | (go_step; first | refine store_step (vs := pkA q3) rfl rfl h10 (by rfl) (by kernel_rfl) (by simp [Value.oneCell', pkA]) (fun W11 hr => ?_) | (go_step; first | refine store_step (vs := pkA q3) rfl rfl h10 (by rfl) (by kernel_rfl) (by simp [Value.oneCell', pkA]) (fun W11 hr => ?_) | (go_step; first | refine store_step (vs := pkA q3) rfl rfl h10 (by rfl) (by kernel_rfl) (by simp [Value.oneCell', pkA]) (fun W11 hr => ?_) | (go_step; first | refine store_step (vs := pkA q3) rfl rfl h10 (by rfl) (by kernel_rfl) (by simp [Value.oneCell', pkA]) (fun W11 hr => ?_) | (go_step; first | refine store_step (vs := pkA q3) rfl rfl h10 (by rfl) (by kernel_rfl) (by simp [Value.oneCell', pkA]) (fun W11 hr => ?_) | (go_step; first | refine store_step (vs := pkA q3) rfl rfl h10 (by rfl) (by kernel_rfl) (by simp [Value.oneCell', pkA]) (fun W11 hr => ?_) | (go_step; first | refine store_step (vs := pkA q3) rfl rfl h10 (by rfl) (by kernel_rfl) (by simp [Value.oneCell', pkA]) (fun W11 hr => ?_) | (go_step; first | refine store_step (vs := pkA q3) rfl rfl h10 (by rfl) (by kernel_rfl) (by simp [Value.oneCell', pkA]) (fun W11 hr => ?_) | (go_step; first | refine store_step (vs := pkA q3) rfl rfl h10 (by rfl) (by kernel_rfl) (by simp [Value.oneCell', pkA]) (fun W11 hr => ?_) | (go_step; first | refine store_step (vs := pkA q3) rfl rfl h10 (by rfl) (by kernel_rfl) (by simp [Value.oneCell', pkA]) (fun W11 hr => ?_) | (go_step; first | refine store_step (vs := pkA q3) rfl rfl h10 (by rfl) (by kernel_rfl) (by simp [Value.oneCell', pkA]) (fun W11 hr => ?_) | (go_step; first | refine store_step (vs := pkA q3) rfl rfl h10 (by rfl) (by kernel_rfl) (by simp [Value.oneCell', pkA]) (fun W11 hr => ?_) | (go_step; first | refine store_step (vs := pkA q3) rfl rfl h10 (by rfl) (by kernel_rfl) (by simp [Value.oneCell', pkA]) (fun W11 hr => ?_) | (go_step; refine store_step (vs := pkA q3) rfl rfl h10 (by rfl) (by kernel_rfl) (by simp [Value.oneCell', pkA]) (fun W11 hr => ?_)))))))))))))))
    have hb11 : Below W10.heap.size W10 W11 := hr.below (bl_alloc W10 _) (Nat.le_refl _)
    have HR11 := Lib.hid hr.blk
    have HB11 : Hid (Below w.heap.size w W11) := Lib.hid (HB10.out.trans (hb11.mono HB10.out.size))
    have HPY11 := Lib.hid (hpy3.below hb11)
    have HBX11 := Lib.hid (HBX10.out.below hb11)
    have HBG11 := Lib.hid (HBG10.out.below hb11)
    clear hr h10 hb11 hpy3
    go_upto_region 11 with (fail)
    first | refine load_step rfl HR11.out (by kernel_rfl) (by kernel_rfl) ?_ | (go_step; first | refine load_step rfl HR11.out (by kernel_rfl) (by kernel_rfl) ?_ | (go_step; first | refine load_step rfl HR11.out (by kernel_rfl) (by kernel_rfl) ?_ | (go_step; first | refine load_step rfl HR11.out (by kernel_rfl) (by kernel_rfl) ?_ | (go_step; first | refine load_step rfl HR11.out (by kernel_rfl) (by kernel_rfl) ?_ | (go_step; first | refine load_step rfl HR11.out (by kernel_rfl) (by kernel_rfl) ?_ | (go_step; first | refine load_step rfl HR11.out (by kernel_rfl) (by kernel_rfl) ?_ | (go_step; first | refine load_step rfl HR11.out (by kernel_rfl) (by kernel_rfl) ?_ | (go_step; first | refine load_step rfl HR11.out (by kernel_rfl) (by kernel_rfl) ?_ | (go_step; first | refine load_step rfl HR11.out (by kernel_rfl) (by kernel_rfl) ?_ | (go_step; first | refine load_step rfl HR11.out (by kernel_rfl) (by kernel_rfl) ?_ | (go_step; first | refine load_step rfl HR11.out (by kernel_rfl) (by kernel_rfl) ?_ | (go_step; first | refine load_step rfl HR11.out (by kernel_rfl) (by kernel_rfl) ?_ | (go_step; first | refine load_step rfl HR11.out (by kernel_rfl) (by kernel_rfl) ?_ | (go_step; refine load_step rfl HR11.out (by kernel_rfl) (by kernel_rfl) ?_))))))))))))))
    go_wp2_with fail
    refine (writeApi_any q3 HOK3.out pay2 W11 HPY11.out).mono ?_
    rintro e W12 ⟨A12, n12, cap12, rfl, ho12, hb12⟩
    rw [HW3.out] at ho12
    obtain rfl : n = n12 := hlx.symm.trans ho12.1
    have HB12 : Hid (Below w.heap.size w W12) := Lib.hid (HB11.out.trans (hb12.mono HB11.out.size))
    have HO12 := Lib.hid ho12.at_
    have HBX12 := Lib.hid (HBX11.out.below hb12)
    have HBG12 := Lib.hid (HBG11.out.below hb12)
    clear ho12 hb12
    go_wp2_with fail
    refine (equalB_any A12 (some ⟨x, 0, none⟩) n n cap12 cap8 xs xs W12 HO12.out HBX12.out hlx hlx (by omega)).mono ?_
    rintro e W13 ⟨rfl, hb13⟩
    rw [decide_eq_true (rfl : xs = xs)]
    have HB13 : Hid (Below w.heap.size w W13) := Lib.hid (HB12.out.trans (hb13.mono HB12.out.size))
    have HBX13 := Lib.hid (HBX12.out.below hb13)
    have HBG13 := Lib.hid (HBG12.out.below hb13)
    clear hb13
    go_wp2_with fail
    refine (equalB_any (some ⟨x, 0, none⟩) (some ⟨g, 0, none⟩) n n cap8 cap4 xs bs W13 HBX13.out HBG13.out hlx hln (by omega)).mono ?_
    rintro e W14 ⟨rfl, hb14⟩
    rw [decide_eq_false HNE.out]
    have HB14 : Hid (Below w.heap.size w W14) := Lib.hid (HB13.out.trans (hb14.mono HB13.out.size))
    clear hb14
    go_wp2_with fail
    refine (hrd _ HB14.out).mono ?_
    rintro e W15 ⟨rfl, hb15⟩
    have HF := Lib.hid (HB14.out.trans (hb15.mono HB14.out.size))
    clear hb15
    go_wp2_with fail
    go_ret
    exact ⟨rfl, HF.out⟩
end Go.Proofs.YtfakfhbcpldeoaaGreatDoor
