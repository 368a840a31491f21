/- What the stream draws: rows of records. -/
import Derived.Test.YtedpjecbfcogcaaGreatDoorCaI
import Derived.Test.YtedpjecbfcogcaaGreatDoorCaR
import Derived.OwnWalk
namespace Go.Proofs.YtedpjecbfcogcaaGreatDoor
open Go.RowKit Go.Hw

/-- Some records have been drawn. -/
def RsI (w : World) (b : Nat) (A : Option Addr) (cap : Nat) (l : List Int) (at_ : Int) (k : Nat) (v : Value) (wr : World) : Prop :=
  ∃ xs x, xs.length = k ∧ rcOwn wr w.heap.size v xs ∧ (∀ r ∈ xs, RecOk r) ∧ at_ ≤ x ∧ x ≤ at_ + 31 * k ∧ Str wr b A cap l x ∧ w.grownBy wr (some b)
theorem cells_newJ (w : World) (cs : List Value) (T : TypeId) : ∀ j u, cs[j]? = some u → (w.alloc (.cells cs.toArray T (0, 0))).cell? ((⟨w.heap.size, 0, none⟩ : Addr).add j) = some u := by
  intro j u hu
  rw [Addr.add_lit, Nat.zero_add]
  have h := heap_alloc_new w (.cells cs.toArray T (0, 0))
  simp only [World.cell?, h]
  simpa using hu
set_option maxRecDepth 100000 in
set_option maxHeartbeats 2000000 in
theorem records_any (b : Nat) (A : Option Addr) (cap : Nat) (l : List Int) (at_ : Int) (n : Nat) (w : World) (h : Str w b A cap l at_) (hh : at_ < 1099511600000) (hn : n ≤ 50) :
    Calls Tryz.prog 10 #[.pointer (some ⟨b, 0, none⟩), .int .i64 n] w fun e w' => ∃ v, e = .returned v ∧ RsI w b A cap l at_ n v w' := by
  have hbl := h.lt
  have hlow := h.low
  obtain ⟨i0, hi, hz0, hz1, hz2⟩ := info_parts rc_info
  go_enter Tryz.func10, Tryz.ntmps10
  go_wp2_with fail
  go_loopw [7, 5] (fun v7 v5 wr => ∃ k : Nat, k ≤ n ∧ v7 = .int .i64 k ∧ RsI w b A cap l at_ k v5 wr) (fun v7 _ _ => n - (intOf v7).toNat)
  case atStart => exact ⟨0, by omega, rfl, [], at_, rfl, World.ownsRow_nil _ _ _ _, fun r hr => by simp at hr, by omega, by omega, h, World.grownBy.refl _ _⟩
  case round =>
    obtain ⟨k, hk, rfl, xs, x, hxl, hown, hok, hx0, hx1, hs, hg⟩ := hrel
    by_cases hlt : k < n
    · have hsl := hs.lt
      have HX := Lib.hid hxl
      have hx50 : xs.length ≤ 50 := by omega
      clear hxl
      obtain ⟨vA, vcap, rfl, -⟩ := rw_at (d := noRec) rcC_len hown
      go_wp2_with fail
      refine (some_any b A cap l x _ (hs.alloc _) (by omega) _ [⟨#[97, 46, 110, 101, 116, 46, 120]⟩, ⟨#[98, 46, 110, 101, 116, 46, 120]⟩, ⟨#[99, 46, 110, 101, 116, 46, 120]⟩, ⟨#[120, 46, 121]⟩] (by rw [heap_alloc_new]; rfl) (by omega) (by simp) (by simp) 4 4 rfl).mono ?_
      rintro e W1 ⟨rfl, hs1, hg1⟩
      have hsz := size_getD (vs := [⟨#[97, 46, 110, 101, 116, 46, 120]⟩, ⟨#[98, 46, 110, 101, 116, 46, 120]⟩, ⟨#[99, 46, 110, 101, 116, 46, 120]⟩, ⟨#[120, 46, 121]⟩]) rfl (drawOf l x 4).toNat
      revert hsz
      generalize List.getD ([⟨#[97, 46, 110, 101, 116, 46, 120]⟩, ⟨#[98, 46, 110, 101, 116, 46, 120]⟩, ⟨#[99, 46, 110, 101, 116, 46, 120]⟩, ⟨#[120, 46, 121]⟩] : List ByteArray) _ _ = nm
      intro hsz
      have hg1' := grown_alloc_then hg1
      have hnb : (Value.slice vA xs.length vcap).ownBlock ≠ some b := fun c => by have := (hown.lt b c).1; omega
      have ho1 := hown.kept hg1' (.inr hnb)
      have hgg1 := hg.andThen hg1' (fun _ h => .inr h)
      clear hg1 hown hg hs
      go_wp2_with fail
      refine (record_any b A cap l (x + 1) nm W1 hs1 (by omega) hsz).mono ?_
      rintro e W2 ⟨r, rfl, hrok, x2, h20, h21, hs2, hg2⟩
      have ho2 := ho1.kept hg2 (.inr hnb)
      have hgg2 := hgg1.andThen hg2 (fun _ h => .inr h)
      have hsz2 := hgg2.size
      have HOK := Lib.hid hok
      clear ho1 hgg1 hg2 hs1 hg1' hsz hok
      go_wp2_with (at_builtin; refine wpList_append_own _ rfl (.tmp 9) (.tmp 15) 36 rfl w.heap.size 50 i0 (.agg #[.string ⟨#[]⟩, .int .i64 0, .bool false, .int .u64 0, .int .u64 0, .string ⟨#[]⟩, .string ⟨#[]⟩, .int .i64 0]) 8 88 Tryz.underlying36 hi hz0 hz1 hz2 rfl (by decide) _ _ _ rfl (World.ownsRow.alloc ho2 _) ⟨W2.heap.size, 0, none⟩ 1 1 [.string r.name, .int .i64 r.kind, .bool r.six, .int .u64 r.hi, .int .u64 r.lo, .string r.to, .string r.words, .int .i64 r.life] rfl rfl ?d1 ?d2 ?d3 ?d4 ?d5 ?_)
      case d1 => exact cells_newJ W2 [.string r.name, .int .i64 r.kind, .bool r.six, .int .u64 r.hi, .int .u64 r.lo, .string r.to, .string r.words, .int .i64 r.life] _
      case d2 => simp [Value.oneCell']
      case d3 => unfold maxLen; omega
      case d4 => omega
      case d5 => simp; omega
      intro v' w5 ho5 hg5 _
      have hs5 := (hs2.alloc (.cells #[.string r.name, .int .i64 r.kind, .bool r.six, .int .u64 r.hi, .int .u64 r.lo, .string r.to, .string r.words, .int .i64 r.life] 50)).grown hg5 (fun j hj => by have := (ho2.lt j hj).1; omega)
      have hg6 := hgg2.andThen ((World.grownBy_alloc W2 (.cells #[.string r.name, .int .i64 r.kind, .bool r.six, .int .u64 r.hi, .int .u64 r.lo, .string r.to, .string r.words, .int .i64 r.life] 50) _).andThen hg5 (fun _ h => .inr h)) (fun j hj => .inl (by have := (ho2.lt j hj).1; omega))
      have hnew : RsI w b A cap l at_ (k + 1) v' w5 := by
        refine ⟨xs ++ [r], x2, by rw [List.length_append, HX.out]; rfl, ?_, fun y hy => ?_, by omega, by omega, hs5, hg6⟩
        · unfold rcOwn
          rw [List.length_append, show rwC rcC (xs ++ [r]) = rwC rcC xs ++ [.string r.name, .int .i64 r.kind, .bool r.six, .int .u64 r.hi, .int .u64 r.lo, .string r.to, .string r.words, .int .i64 r.life] by simp [rwC, rcC]]
          exact ho5
        · rcases List.mem_append.1 hy with hy | hy
          · exact HOK.out y hy
          · rw [List.mem_singleton.1 hy]; exact hrok
      clear ho2 hs2 hgg2 hg5 hg6 hs5 ho5
      go_wp2_with fail
      go_roundw
      case rel => exact ⟨k + 1, hlt, by go_num, hnew⟩
      case measure => simp [intOf]; omega
    · have hkk : k = n := by omega
      subst hkk
      go_wp2_with fail
      go_ret
      exact ⟨_, rfl, xs, x, hxl, hown, hok, hx0, hx1, hs, hg⟩
end Go.Proofs.YtedpjecbfcogcaaGreatDoor
