/- The plain law of row 34: what Thin and Hide hand back is right, holds all packets and bytes, and is left as it is. The closures of LessIsKept (printed by gen_rpl.py). -/
import Derived.Test.YthjfnlbekbhmgaaGreatDoorRpU
import Derived.Test.YthjfnlbekbhmgaaGreatDoorRpE
namespace Go.Proofs.YthjfnlbekbhmgaaGreatDoor
open Go.RowKit Go.Hw

/-- A report that is right by itself. -/
structure RpG (r : Rp) : Prop where
  node : isKey r.node = true
  hour : 0 ≤ r.hour ∧ r.hour ≤ 96023
  flow : flCode r.f = 0
  pk : 1 ≤ r.pk ∧ r.pk ≤ 1000000000000
  by_ : 0 ≤ r.by_ ∧ r.by_ ≤ 1000000000000
theorem RpG.n {r : Rp} (h : RpG r) : RpN r := ⟨⟨by have := h.pk; omega, h.pk.2⟩, h.by_⟩
theorem rpCode_zero {L : List Rp} {i : Nat} : rpCode L i = 0 ↔ RpG (L.getD i noRp) ∧ (0 < i → cmpR (L.getD (i - 1) noRp) (L.getD i noRp) < 0) := by
  unfold rpCode
  generalize L.getD i noRp = r
  generalize L.getD (i - 1) noRp = q
  constructor
  · intro h
    split at h
    · cases h
    · rename_i h1
      split at h
      · cases h
      · rename_i h2
        split at h
        · rename_i h3; exact absurd h h3
        · rename_i h3
          split at h
          · cases h
          · rename_i h4
            split at h
            · cases h
            · rename_i h5
              split at h
              · cases h
              · rename_i h6
                simp at h1 h2 h3 h4 h5 h6
                exact ⟨⟨h1, by omega, h3, by omega, by omega⟩, fun hi => h6 hi⟩
  · rintro ⟨⟨h1, h2, h3, h4, h5⟩, h6⟩
    rw [if_neg (by simp [h1]), if_neg (by simp; omega), if_neg (by simp [h3]), if_neg (by simp; omega), if_neg (by simp; omega), if_neg (by simp; exact h6)]
theorem ckR_all {L : List Rp} (h : ckR L = 0) : ∀ k, k < L.length → rpCode L k = 0 := by
  intro k
  induction k using Nat.strongRecOn with
  | _ k ih =>
    intro hk
    by_cases e : rpCode L k = 0
    · exact e
    · rw [ckR_at hk (fun j hj => ih j hj (by omega)) e] at h
      exact h
theorem ckR_good {L : List Rp} : ckR L = 0 ↔ (∀ r ∈ L, RpG r) ∧ Strict L := by
  constructor
  · intro h
    have ha := ckR_all h
    refine ⟨fun r hr => ?_, ?_⟩
    · obtain ⟨k, hk, rfl⟩ := List.mem_iff_getElem.1 hr
      have := (rpCode_zero.1 (ha k hk)).1
      rwa [List.getD_eq_getElem?_getD, List.getElem?_eq_getElem hk] at this
    · have hstep : ∀ n i, i + n + 1 < L.length → cmpR (L.getD i noRp) (L.getD (i + n + 1) noRp) < 0 := by
        intro n
        induction n with
        | zero => intro i hi; exact (rpCode_zero.1 (ha (i + 1) (by omega))).2 (by omega)
        | succ n ih =>
          intro i hi
          have h1 := ih i (by omega)
          have h2 := (rpCode_zero.1 (ha (i + (n + 1) + 1) hi)).2 (by omega)
          exact lt_of_lt_le h1 (by rw [show i + (n + 1) + 1 - 1 = i + n + 1 by omega] at h2; omega)
      refine List.pairwise_iff_getElem.2 (fun i j hi hj hij => ?_)
      have := hstep (j - i - 1) i (by omega)
      rw [show i + (j - i - 1) + 1 = j by omega, List.getD_eq_getElem?_getD, List.getElem?_eq_getElem hi, List.getD_eq_getElem?_getD, List.getElem?_eq_getElem hj] at this
      exact this
  · rintro ⟨h1, h2⟩
    refine ckR_none (fun k hk => rpCode_zero.2 ⟨h1 _ (rw_mem hk), fun h0 => ?_⟩)
    have := List.pairwise_iff_getElem.1 h2 (k - 1) k (by omega) hk (by omega)
    rw [List.getD_eq_getElem?_getD, List.getElem?_eq_getElem (show k - 1 < L.length by omega), List.getD_eq_getElem?_getD, List.getElem?_eq_getElem hk]
    exact this
theorem addR_g {o r : Rp} (h : RpG o) (k : RpG r) : RpG (addR o r) := by
  refine ⟨h.node, h.hour, h.flow, ?_, ?_⟩
  · have := h.pk; have := k.pk
    show 1 ≤ min (o.pk + r.pk) 1000000000000 ∧ min (o.pk + r.pk) 1000000000000 ≤ 1000000000000
    omega
  · have := h.by_; have := k.by_
    show 0 ≤ min (o.by_ + r.by_) 1000000000000 ∧ min (o.by_ + r.by_) 1000000000000 ≤ 1000000000000
    omega
theorem tog_ck {L : List Rp} (h : ∀ r ∈ L, RpG r) : ckR (togL L) = 0 :=
  ckR_good.2 ⟨togL_all (fun _ _ a b _ => addR_g a b) h, togL_strict L⟩
/-- Done again it changes nothing. -/
theorem tog_again {f : Rp → Rp} (h1 : ∀ r, f (f r) = f r) (h2 : ∀ o r, f o = o → f (addR o r) = addR o r) (L : List Rp) : togL ((togL (L.map f)).map f) = togL (L.map f) := by
  have ha : ∀ x ∈ togL (L.map f), f x = x := togL_all (P := fun x => f x = x) (fun o r a _ _ => h2 o r a) (fun x hx => by
    obtain ⟨y, _, rfl⟩ := List.mem_map.1 hx
    exact h1 y)
  have hm : (togL (L.map f)).map f = togL (L.map f) := (List.map_congr_left ha).trans (List.map_id' _)
  rw [hm]
  exact togL_fixed (togL_strict _)
theorem insR_perm' {α : Type} (lt : α → α → Bool) (x : α) : ∀ R : List α, List.Perm (insR lt x R) (x :: R)
  | [] => List.Perm.refl _
  | y :: ys => by
    unfold insR
    split
    · exact ((insR_perm' lt x ys).cons y).trans (List.Perm.swap x y ys)
    · exact List.Perm.refl _
theorem isortL_perm' {α : Type} (lt : α → α → Bool) (L : List α) : List.Perm (isortL lt L) L := by
  unfold isortL isortR
  refine (List.reverse_perm _).trans ?_
  have : ∀ (L acc : List α), List.Perm (L.foldl (fun acc x => insR lt x acc) acc) (L ++ acc) := by
    intro L
    induction L with
    | nil => intro acc; exact List.Perm.refl _
    | cons x L ih => intro acc; exact (ih _).trans (((insR_perm' lt x acc).append_left L).trans List.perm_middle)
  simpa using this L []
/-- All packets and bytes are kept. -/
theorem tog_sum {f : Rp → Rp} (hp : ∀ r, (f r).pk = r.pk) (hb : ∀ r, (f r).by_ = r.by_) {L : List Rp} (hg : ∀ r ∈ L, Pos r) (h1 : sumBy Rp.pk L ≤ 1000000000000) (h2 : sumBy Rp.by_ L ≤ 1000000000000) :
    sumBy Rp.pk (togL (L.map f)) = sumBy Rp.pk L ∧ sumBy Rp.by_ (togL (L.map f)) = sumBy Rp.by_ L := by
  have e1 : sumBy Rp.pk (isortL ltR (L.map f)) = sumBy Rp.pk L := by
    rw [sumBy_perm (isortL_perm' _ _)]
    unfold sumBy
    rw [List.map_map]
    congr 1
    exact List.map_congr_left (fun r _ => hp r)
  have e2 : sumBy Rp.by_ (isortL ltR (L.map f)) = sumBy Rp.by_ L := by
    rw [sumBy_perm (isortL_perm' _ _)]
    unfold sumBy
    rw [List.map_map]
    congr 1
    exact List.map_congr_left (fun r _ => hb r)
  have := mg_sum (isortL ltR (L.map f)) [] (by simp) (fun x hx => by
    obtain ⟨y, hy, rfl⟩ := List.mem_map.1 (isortL_mem.1 hx)
    have := hg y hy
    exact ⟨by rw [hp]; exact this.1, by rw [hb]; exact this.2⟩) (by rw [List.nil_append, e1]; exact h1) (by rw [List.nil_append, e2]; exact h2)
  rw [List.nil_append, e1, e2] at this
  exact this
/-- A bound of all bounds the sum. -/
theorem sumBy_le {k : Rp → Int} {c : Int} : ∀ {L : List Rp}, (∀ x ∈ L, k x ≤ c) → sumBy k L ≤ L.length * c
  | [], _ => by simp [sumBy]
  | r :: L, h => by
    rw [sumBy_cons]
    have h1 := h r (by simp)
    have h2 := sumBy_le (L := L) (fun x hx => h x (by simp [hx]))
    have : ((r :: L).length : Int) * c = c + L.length * c := by simp [Int.add_mul]; omega
    omega
theorem thinR_again (d : Int) (r : Rp) : thinR d (thinR d r) = thinR d r := by
  unfold thinR
  by_cases h : r.hour < d * 24
  · rw [if_pos h]
    split
    · have : (r.hour - r.hour.tmod 24).tmod 24 = 0 := by
        have h2 : r.hour - r.hour.tmod 24 = 24 * (r.hour.tdiv 24) := by have := Int.mul_tdiv_add_tmod r.hour 24; omega
        rw [h2]
        exact Int.mul_tmod_right 24 _
      simp [this]
    · rfl
  · rw [if_neg h, if_neg h]
theorem thinR_add (d : Int) (o r : Rp) (h : thinR d o = o) : thinR d (addR o r) = addR o r := by
  unfold thinR at h ⊢
  by_cases hh : o.hour < d * 24
  · rw [if_pos hh] at h
    rw [if_pos (show (addR o r).hour < d * 24 from hh)]
    have e1 : o.hour - o.hour.tmod 24 = o.hour := congrArg Rp.hour h
    have e2 : { o.f with fp := 0, tp := 0 } = o.f := congrArg Rp.f h
    show { addR o r with hour := o.hour - o.hour.tmod 24, f := { o.f with fp := 0, tp := 0 } } = addR o r
    rw [e1, e2]
    rfl
  · rw [if_neg (show ¬ (addR o r).hour < d * 24 from hh)]
theorem flCode_zero {f : Fl} : flCode f = 0 ↔ (1 ≤ f.proto ∧ f.proto ≤ 255) ∧ addrCode f.s6 f.sh f.sl = 0 ∧ addrCode f.t6 f.th f.tl = 0 ∧ f.s6 = f.t6 ∧ ((decide (f.fp < 0) || decide (65535 < f.fp)) || ((f.fp != 0) && !(f.proto == 6 || f.proto == 17))) = false ∧ ((decide (f.tp < 0) || decide (65535 < f.tp)) || ((f.tp != 0) && !(f.proto == 6 || f.proto == 17))) = false := by
  unfold flCode
  constructor
  · intro h
    split at h
    · cases h
    · rename_i h1
      split at h
      · rename_i h2; exact absurd h h2
      · rename_i h2
        split at h
        · rename_i h3; exact absurd h h3
        · rename_i h3
          split at h
          · cases h
          · rename_i h4
            split at h
            · cases h
            · rename_i h5
              split at h
              · cases h
              · rename_i h6
                refine ⟨?_, by simpa using h2, by simpa using h3, by simpa using h4, Bool.eq_false_iff.2 h5, Bool.eq_false_iff.2 h6⟩
                simp at h1
                omega
  · rintro ⟨h1, h2, h3, h4, h5, h6⟩
    rw [if_neg (by simp; omega), if_neg (by simp [h2]), if_neg (by simp [h3]), if_neg (by simp [h4]), if_neg (by rw [h5]; decide), if_neg (by rw [h6]; decide)]
theorem thinR_g {d : Int} {r : Rp} (h : RpG r) : RpG (thinR d r) := by
  unfold thinR
  split
  · refine ⟨h.node, ?_, ?_, h.pk, h.by_⟩
    · have h1 := h.hour
      have h2 : r.hour.tmod 24 = r.hour % 24 := Int.tmod_eq_emod_of_nonneg h1.1
      show 0 ≤ r.hour - r.hour.tmod 24 ∧ r.hour - r.hour.tmod 24 ≤ 96023
      omega
    · obtain ⟨h1, h2, h3, h4, h5, h6⟩ := flCode_zero.1 h.flow
      exact flCode_zero.2 ⟨h1, h2, h3, h4, by simp, by simp⟩
  · exact h
theorem clr_again (x : Int) (m : Nat) : clr (clr x m) m = clr x m := by
  unfold clr
  rw [Int.mul_ediv_cancel _ (Int.ne_of_gt (Int.pow_pos (by decide)))]
theorem hideR_again (b4 b6 : Int) (r : Rp) : hideR b4 b6 (hideR b4 b6 r) = hideR b4 b6 r := by
  simp [hideR, hidH, hidL, clr_again]
theorem hideR_add (b4 b6 : Int) (o r : Rp) (h : hideR b4 b6 o = o) : hideR b4 b6 (addR o r) = addR o r := by
  have e2 : { o.f with sh := hidH b4 b6 o.f.s6 o.f.sh, sl := hidL b4 b6 o.f.s6 o.f.sl, th := hidH b4 b6 o.f.t6 o.f.th, tl := hidL b4 b6 o.f.t6 o.f.tl } = o.f := congrArg Rp.f h
  show { addR o r with f := { o.f with sh := hidH b4 b6 o.f.s6 o.f.sh, sl := hidL b4 b6 o.f.s6 o.f.sl, th := hidH b4 b6 o.f.t6 o.f.th, tl := hidL b4 b6 o.f.t6 o.f.tl } } = addR o r
  rw [e2]
  rfl
theorem clr_le {x : Int} (_ : 0 ≤ x) (m : Nat) : clr x m ≤ x := Int.ediv_mul_le x (Int.ne_of_gt (Int.pow_pos (by decide)))
theorem clr_zero (m : Nat) : clr 0 m = 0 := by simp [clr]
theorem hid_addr {b4 b6 : Int} {s : Bool} {h l : Int} (hl : 0 ≤ l) (ha : addrCode s h l = 0) : addrCode s (hidH b4 b6 s h) (hidL b4 b6 s l) = 0 := by
  unfold addrCode at ha ⊢
  split at ha
  · cases ha
  · rename_i h1
    rw [if_neg]
    rintro ⟨rfl, h2⟩
    have h3 : h = 0 ∧ l < 4294967296 := by
      constructor
      · by_cases e : h = 0
        · exact e
        · exact absurd ⟨rfl, .inl e⟩ h1
      · by_cases e : 4294967296 ≤ l
        · exact absurd ⟨rfl, .inr e⟩ h1
        · omega
    have h4 : hidL b4 b6 false l ≤ l := clr_le hl _
    rcases h2 with h2 | h2
    · apply h2
      unfold hidH
      rw [h3.1, clr_zero]
    · omega
theorem hideR_g {b4 b6 : Int} {r : Rp} (h : RpG r) (t : RpT r) : RpG (hideR b4 b6 r) := by
  obtain ⟨h1, h2, h3, h4, h5, h6⟩ := flCode_zero.1 h.flow
  exact ⟨h.node, h.hour, flCode_zero.2 ⟨h1, hid_addr t.sl.1 h2, hid_addr t.tl.1 h3, h4, h5, h6⟩, h.pk, h.by_⟩
theorem hideR_t {b4 b6 : Int} {r : Rp} (t : RpT r) : RpT (hideR b4 b6 r) := ⟨t.node, clr_u64 t.sh _, clr_u64 t.sl _, clr_u64 t.th _, clr_u64 t.tl _⟩
theorem thinR_t {d : Int} {r : Rp} (t : RpT r) : RpT (thinR d r) := by
  unfold thinR
  split
  · exact ⟨t.node, t.sh, t.sl, t.th, t.tl⟩
  · exact t
theorem tog_t {L : List Rp} (h : ∀ r ∈ L, RpT r) : ∀ r ∈ togL L, RpT r := togL_all (fun _ _ a _ _ => ⟨a.node, a.sh, a.sl, a.th, a.tl⟩) h
end Go.Proofs.YthjfnlbekbhmgaaGreatDoor

namespace Go.Proofs.YthjfnlbekbhmgaaGreatDoor
open Go.RowKit Go.Hw

def hugeR (r : Rp) : Bool := decide (1000000000 < r.by_) || decide (1000000000 < r.pk)
set_option maxHeartbeats 1000000 in
theorem huge_any (r : Rp) (w : World) : Calls Tryz.prog 13 #[.agg (rpA r)] w fun e w' => e = .returned (.bool (hugeR r)) ∧ Below w.heap.size w w' := by
  have HB := Lib.hid (bl_alloc w (.cells (rpA r) 39))
  unfold hugeR rpA
  cases h : decide (1000000000 < r.by_)
  · go_enter Tryz.func13, Tryz.ntmps13
    go_wp2_with fail
    go_ret
    exact ⟨rfl, HB.out⟩
  · go_enter Tryz.func13, Tryz.ntmps13
    go_wp2_with fail
    go_ret
    exact ⟨rfl, HB.out⟩
theorem entersH : ∀ args w, (callFunc 13 args).run Tryz.prog w = .ok (.enter 13 args) w := enters_of Tryz.func13 (by kernel_rfl) rfl
theorem hugeAll_any (A : Option Addr) (cap : Nat) (L : List Rp) (w : World) (h : rpAt w A L) (hl : L.length ≤ 1000000) :
    Calls Tryz.prog 12 #[.slice A L.length cap, .func (.func 13) #[] #[]] w fun e w' => e = .returned (.bool (L.any hugeR)) ∧ Below w.heap.size w w' :=
  rq_any A cap L _ #[] hugeR w entersH h hl (fun W e _ _ => huge_any e W)
theorem sumBy_take (k : Rp → Int) {L : List Rp} {i : Nat} (hi : i < L.length) : sumBy k (L.take (i + 1)) = sumBy k (L.take i) + k (L.getD i noRp) := by
  rw [List.take_add_one, List.getElem?_eq_getElem hi, sumBy_app, List.getD_eq_getElem?_getD, List.getElem?_eq_getElem hi]
  simp [sumBy]
set_option maxRecDepth 100000 in
set_option maxHeartbeats 4000000 in
theorem sum_any (A : Option Addr) (cap : Nat) (L : List Rp) (w : World) (h : rpAt w A L) (hl : L.length ≤ 20) (hn : ∀ r ∈ L, RpN r) :
    Calls Tryz.prog 9 #[.slice A L.length cap] w fun e w' => e = .returned (.agg #[.int .i64 (sumBy Rp.pk L), .int .i64 (sumBy Rp.by_ L)]) ∧ Below w.heap.size w w' := by
  have b0 := heap_alloc_new w (.cells #[.int .i64 0, .int .i64 0] 32)
  have b1 := heap_alloc_new (w.alloc (.cells #[.int .i64 0, .int .i64 0] 32)) (.cells #[.int .i64 0, .int .i64 0] 32)
  have b2 : ((w.alloc (.cells #[.int .i64 0, .int .i64 0] 32)).alloc (.cells #[.int .i64 0, .int .i64 0] 32)).heap[w.heap.size]? = _ := (heap_alloc_old _ _ (by simp)).trans b0
  rw [Re_size] at b1
  have HB0 := Lib.hid ((bl_alloc w (.cells #[.int .i64 0, .int .i64 0] 32)).alloc (by simp) (.cells #[.int .i64 0, .int .i64 0] 32))
  have HR0 := Lib.hid b2
  have HN0 := Lib.hid b1
  have HAT := Lib.hid h
  have HN := Lib.hid hn
  have HL := Lib.hid hl
  clear b0 b1 b2 h hn
  go_enter Tryz.func9, Tryz.ntmps9
  go_wp2_with fail
  generalize World.alloc _ _ = W0 at HB0 HR0 HN0 ⊢
  go_loopw [8] (fun v8 wr => ∃ k : Nat, k ≤ L.length ∧ v8 = .int .i64 k ∧ wr.heap[w.heap.size + 1]? = some (.cells #[.int .i64 (sumBy Rp.pk (L.take k)), .int .i64 (sumBy Rp.by_ (L.take k))] 32 (0, 0)) ∧ wr.heap[w.heap.size]? = some (.cells #[.int .i64 0, .int .i64 0] 32 (0, 0)) ∧ Below w.heap.size w wr) (fun v8 _ => L.length - (intOf v8).toNat)
  case atStart => exact ⟨0, Nat.zero_le _, rfl, HN0.out, HR0.out, HB0.out⟩
  case round =>
    obtain ⟨k, hk, rfl, h1, h2, hb⟩ := hrel
    have HB := Lib.hid hb
    by_cases hlt : k < L.length
    · have hdc : decide ((k : Int) < (L.length : Int)) = true := by simp; omega
      have hlt' : (k : Int) < (L.length : Int) := by omega
      have hl20 := HL.out
      obtain ⟨g, off, rfl, hgB, hcc⟩ := (HAT.out.below hb) k hlt
      have hr0 := HN.out _ (rw_mem (d := noRp) hlt)
      have e1 := sumBy_take Rp.pk hlt
      have e2 := sumBy_take Rp.by_ hlt
      have n1 := sumBy_nonneg (k := Rp.pk) (L := L.take k) (fun x hx => (HN.out x (List.mem_of_mem_take hx)).1.1)
      have n2 := sumBy_nonneg (k := Rp.by_) (L := L.take k) (fun x hx => (HN.out x (List.mem_of_mem_take hx)).2.1)
      have m1 := sumBy_le (k := Rp.pk) (c := 1000000000000) (L := L.take k) (fun x hx => (HN.out x (List.mem_of_mem_take hx)).1.2)
      have m2 := sumBy_le (k := Rp.by_) (c := 1000000000000) (L := L.take k) (fun x hx => (HN.out x (List.mem_of_mem_take hx)).2.2)
      have ml : ((L.take k).length : Int) ≤ 20 := by simp; omega
      generalize (L.take k).length = tl at m1 m2 ml
      generalize L.getD k noRp = r at hcc hr0 e1 e2
      generalize sumBy Rp.pk (L.take k) = sp at h1 e1 n1 m1
      generalize sumBy Rp.by_ (L.take k) = sb at h1 e2 n2 m2
      have s1 : IntKind.i64.wrap (sp + r.pk) = sp + r.pk := IntWalk.i64_in _ (by have := hr0.1; omega)
      have s2 : IntKind.i64.wrap (sb + r.by_) = sb + r.by_ := IntWalk.i64_in _ (by have := hr0.2; omega)
      have HE1 := Lib.hid e1
      have HE2 := Lib.hid e2
      have H1 := Lib.hid h1
      have H2 := Lib.hid h2
      have h3 := al1 wr (.cells (rpA noRp) 39)
      have HCC := Lib.hid hcc
      have l1 := lt_of_block h1
      clear hb hcc h1 h2 e1 e2 n1 n2 m1 m2 ml hr0
      go_upto_region 4 with (fail)
      first | refine load_stepR rfl HCC.out (by kernel_rfl) rfl (by kernel_rfl) ?_ | (go_step; first | refine load_stepR rfl HCC.out (by kernel_rfl) rfl (by kernel_rfl) ?_ | (go_step; first | refine load_stepR rfl HCC.out (by kernel_rfl) rfl (by kernel_rfl) ?_ | (go_step; first | refine load_stepR rfl HCC.out (by kernel_rfl) rfl (by kernel_rfl) ?_ | (go_step; first | refine load_stepR rfl HCC.out (by kernel_rfl) rfl (by kernel_rfl) ?_ | (go_step; first | refine load_stepR rfl HCC.out (by kernel_rfl) rfl (by kernel_rfl) ?_ | (go_step; first | refine load_stepR rfl HCC.out (by kernel_rfl) rfl (by kernel_rfl) ?_ | (go_step; first | refine load_stepR rfl HCC.out (by kernel_rfl) rfl (by kernel_rfl) ?_ | (go_step; first | refine load_stepR rfl HCC.out (by kernel_rfl) rfl (by kernel_rfl) ?_ | (go_step; first | refine load_stepR rfl HCC.out (by kernel_rfl) rfl (by kernel_rfl) ?_ | (go_step; first | refine load_stepR rfl HCC.out (by kernel_rfl) rfl (by kernel_rfl) ?_ | (go_step; first | refine load_stepR rfl HCC.out (by kernel_rfl) rfl (by kernel_rfl) ?_ | (go_step; first | refine load_stepR rfl HCC.out (by kernel_rfl) rfl (by kernel_rfl) ?_ | (go_step; first | refine load_stepR rfl HCC.out (by kernel_rfl) rfl (by kernel_rfl) ?_ | (go_step; refine load_stepR rfl HCC.out (by kernel_rfl) rfl (by kernel_rfl) ?_))))))))))))))
      first | refine store_step (vs := rpA r) rfl rfl h3 (by rfl) (by kernel_rfl) (by simp [Value.oneCell', rpA]) (fun W3 hr => ?_) | (go_step; first | refine store_step (vs := rpA r) rfl rfl h3 (by rfl) (by kernel_rfl) (by simp [Value.oneCell', rpA]) (fun W3 hr => ?_) | (go_step; first | refine store_step (vs := rpA r) rfl rfl h3 (by rfl) (by kernel_rfl) (by simp [Value.oneCell', rpA]) (fun W3 hr => ?_) | (go_step; first | refine store_step (vs := rpA r) rfl rfl h3 (by rfl) (by kernel_rfl) (by simp [Value.oneCell', rpA]) (fun W3 hr => ?_) | (go_step; first | refine store_step (vs := rpA r) rfl rfl h3 (by rfl) (by kernel_rfl) (by simp [Value.oneCell', rpA]) (fun W3 hr => ?_) | (go_step; first | refine store_step (vs := rpA r) rfl rfl h3 (by rfl) (by kernel_rfl) (by simp [Value.oneCell', rpA]) (fun W3 hr => ?_) | (go_step; first | refine store_step (vs := rpA r) rfl rfl h3 (by rfl) (by kernel_rfl) (by simp [Value.oneCell', rpA]) (fun W3 hr => ?_) | (go_step; first | refine store_step (vs := rpA r) rfl rfl h3 (by rfl) (by kernel_rfl) (by simp [Value.oneCell', rpA]) (fun W3 hr => ?_) | (go_step; first | refine store_step (vs := rpA r) rfl rfl h3 (by rfl) (by kernel_rfl) (by simp [Value.oneCell', rpA]) (fun W3 hr => ?_) | (go_step; first | refine store_step (vs := rpA r) rfl rfl h3 (by rfl) (by kernel_rfl) (by simp [Value.oneCell', rpA]) (fun W3 hr => ?_) | (go_step; first | refine store_step (vs := rpA r) rfl rfl h3 (by rfl) (by kernel_rfl) (by simp [Value.oneCell', rpA]) (fun W3 hr => ?_) | (go_step; first | refine store_step (vs := rpA r) rfl rfl h3 (by rfl) (by kernel_rfl) (by simp [Value.oneCell', rpA]) (fun W3 hr => ?_) | (go_step; first | refine store_step (vs := rpA r) rfl rfl h3 (by rfl) (by kernel_rfl) (by simp [Value.oneCell', rpA]) (fun W3 hr => ?_) | (go_step; first | refine store_step (vs := rpA r) rfl rfl h3 (by rfl) (by kernel_rfl) (by simp [Value.oneCell', rpA]) (fun W3 hr => ?_) | (go_step; refine store_step (vs := rpA r) rfl rfl h3 (by rfl) (by kernel_rfl) (by simp [Value.oneCell', rpA]) (fun W3 hr => ?_)))))))))))))))
      have hb3 : Below wr.heap.size wr W3 := hr.below (bl_alloc wr _) (Nat.le_refl _)
      have hblk := hr.blk
      generalize hP : wr.heap.size = P at hblk ⊢
      have HB3 : Hid (Below w.heap.size w W3) := Lib.hid (HB.out.trans (hb3.mono HB.out.size))
      have H13 : Hid (W3.heap[w.heap.size + 1]? = _) := Lib.hid ((hb3.block _ l1).trans H1.out)
      have H23 : Hid (W3.heap[w.heap.size]? = _) := Lib.hid ((hb3.block _ (by omega)).trans H2.out)
      have H3 := Lib.hid hblk
      have lP : P < W3.heap.size := lt_of_block hblk
      have nP : w.heap.size + 1 ≠ P := by omega
      have c4 : W3.cell? ⟨P, 12, none⟩ = some (.int .i64 r.pk) := cell_of hblk 12
      have c5 : W3.cell? ⟨P, 13, none⟩ = some (.int .i64 r.by_) := cell_of hblk 13
      obtain ⟨⟨y0, y1⟩, f0, f1⟩ := res2 H13.out
      clear h3 hr hP hb3 hblk
      have l3 := lt_of_block H13.out
      go_wp2_with fail
      have hs := ((Re.refl H13.out).set 0 (.int .i64 (sp + r.pk))).set 1 (.int .i64 (sb + r.by_))
      have HF := Lib.hid (show _ ∧ _ ∧ _ from ⟨hs.blk, (hs.oth w.heap.size (by omega)).trans H23.out, hs.below HB3.out (by omega)⟩)
      clear hs
      generalize World.setCell _ _ _ = W9 at HF ⊢
      go_roundw
      case rel => exact ⟨k + 1, by omega, by go_num, by rw [HE1.out, HE2.out]; exact HF.out.1, HF.out.2.1, HF.out.2.2⟩
      case measure => simp [intOf]; omega
    · have : k = L.length := by omega
      subst this
      have hdc : decide ((L.length : Int) < (L.length : Int)) = false := by simp
      rw [List.take_length] at h1
      obtain ⟨⟨y0, y1⟩, f0, f1⟩ := res2 h1
      obtain ⟨⟨z0, z1⟩, g0, g1⟩ := res2 h2
      have H2 := Lib.hid h2
      clear h1 h2 hb
      go_wp2_with fail
      have hs := ((Re.refl H2.out).set 0 (.int .i64 (sumBy Rp.pk L))).set 1 (.int .i64 (sumBy Rp.by_ L))
      clear y0 y1 z0 z1 f0 f1 g0 g1
      generalize World.setCell _ _ _ = W9 at hs ⊢
      have hk : W9.heap[w.heap.size]? = some (.cells #[.int .i64 (sumBy Rp.pk L), .int .i64 (sumBy Rp.by_ L)] 32 (0, 0)) := hs.blk
      obtain ⟨⟨z0, z1⟩, -⟩ := res2 hk
      refine bodyPost_ret (v := .agg #[.int .i64 (sumBy Rp.pk L), .int .i64 (sumBy Rp.by_ L)]) (by simp [results, Tryz.results9, go_sem, z0, z1]) rfl ⟨rfl, hs.below HB.out (by omega)⟩
end Go.Proofs.YthjfnlbekbhmgaaGreatDoor
