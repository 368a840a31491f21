/- route.choose. route.begins (without what row 11 has of samples). -/
import Derived.Test.YtkbbmlkgaooaiaaGreatDoorTnO
namespace Go.Proofs.YtkbbmlkgaooaiaaGreatDoor
open Go.RowKit Go.Hw Go.Shelf

theorem Tryz.zeroInt (w : World) : (zeroValue 3).run Tryz.prog w = .ok (.int .i64 0) w := by kernel_rfl
theorem run_int {w : World} {b : Nat} {m : List (ByteArray × Int)} (h : MapIs w b (Value.int .i64) m) (u : ByteArray) :
    (Instr.lookup 130 (.map (some b)) (.string u) false).run Tryz.prog w = .ok (.int .i64 ((get m u).getD 0)) w := by
  rw [run_get h (P := Tryz.prog) Tryz.underlying130 Tryz.underlying9 (Tryz.zeroInt _) u]
  cases get m u <;> rfl
theorem run_int_ok {w : World} {b : Nat} {m : List (ByteArray × Int)} (h : MapIs w b (Value.int .i64) m) (u : ByteArray) :
    (Instr.lookup 130 (.map (some b)) (.string u) true).run Tryz.prog w = .ok (.tuple #[.int .i64 ((get m u).getD 0), .bool (get m u).isSome]) w := by
  rw [run_get_ok h (P := Tryz.prog) Tryz.underlying130 Tryz.underlying9 (Tryz.zeroInt _) u]
  cases get m u <;> rfl
/-- What has been picked of what was handed out. -/
def BestOf (m : List (ByteArray × Int)) (seen : List ByteArray) (a : ByteArray) : Prop := (a = ⟨#[]⟩ ∧ seen = []) ∨ (a.size ≠ 0 ∧ ∃ n, get m a = some n)
def ChI (w : World) (b : Nat) (m : List (ByteArray × Int)) (k : Nat) (v7 : Value) (wi : World) : Prop :=
  ∃ seen a, v7 = .string a ∧ IterIs wi w.heap.size b (Value.int .i64) m seen k ∧ Below w.heap.size w wi ∧ BestOf m seen a

set_option maxRecDepth 100000 in
set_option maxHeartbeats 1000000 in
theorem choose_any (b : Nat) (m : List (ByteArray × Int)) (now : ByteArray) (gain : Int) (w : World) (h : MapIs w b (Value.int .i64) m) (hk : ∀ p ∈ m, p.1.size ≠ 0 ∧ (0 ≤ p.2 ∧ p.2 ≤ 1000000)) (hg : 0 ≤ gain ∧ gain ≤ 1000000) :
    Calls Tryz.prog 69 #[.map (some b), .string now, .int .i64 gain] w fun e w' => ∃ r, e = .returned (.string r) ∧ Chosen (get m) gain now r ∧ Below w.heap.size w w' := by
  have HK := Lib.hid hk
  have hlt := h.lt
  obtain ⟨w2, hrange, hIt, hg2, _⟩ := run_iter h (P := Tryz.prog) Tryz.underlying130
  clear hk h
  go_enter Tryz.func69, Tryz.ntmps69
  go_wp2_with fail
  go_loopg [7] (m.length) (fun k v7 wi => ChI w b m k v7 wi)
  case atStart => exact ⟨[], ⟨#[]⟩, rfl, hIt, (Below.refl _ _).grown hg2 (Nat.le_refl _) (fun j hj => by cases hj), .inl ⟨rfl, rfl⟩⟩
  case round =>
    clear hrange hIt hg2
    obtain ⟨seen, a, rfl, hIt, hb, hB⟩ := hrel
    rcases run_iter_next hIt (P := Tryz.prog) 0 with ⟨h0, hall, hrun⟩ | ⟨u, d, w3, k', hmem, hns, hrun, hIt', hlt', hg3, _, hent⟩
    · have hM := hIt.map_
      have hok := run_int_ok hM now
      have hlk := run_int hM a
      clear hIt h0
      rcases hB with ⟨rfl, rfl⟩ | ⟨ha, n, hn⟩
      · have hm : m = [] := by
          cases m with
          | nil => rfl
          | cons p m => exact absurd (hall p (by simp)) (by simp)
        subst hm
        rw [get_nil] at hok
        have HC : Hid (Chosen (get ([] : List (ByteArray × Int))) gain now ⟨#[]⟩) := Lib.hid (.inl ⟨rfl, fun p => get_nil p⟩)
        simp only [Option.getD_none, Option.isSome_none] at hok
        clear hall
        go_wp2_with fail
        go_ret
        exact ⟨_, rfl, HC.out, hb⟩
      · rw [hn, Option.getD_some] at hlk
        have hnb := (HK.out _ (get_mem hn)).2
        simp only at hnb
        cases ho : get m now with
        | none =>
          rw [ho] at hok
          have HC : Hid (Chosen (get m) gain now a) := Lib.hid (.inr ⟨ha, n, hn, fun old h => by rw [ho] at h; cases h⟩)
          simp only [Option.getD_none, Option.isSome_none] at hok
          clear hall hn ho
          go_wp2_with fail
          go_ret
          exact ⟨_, rfl, HC.out, hb⟩
        | some old =>
          rw [ho] at hok
          have hob := HK.out _ (get_mem ho)
          simp only at hob
          obtain ⟨hnz, hob⟩ := hob
          by_cases hgn : old - n < gain
          · have HC : Hid (Chosen (get m) gain now now) := Lib.hid (.inr ⟨hnz, old, ho, fun _ _ hne => absurd rfl hne⟩)
            simp only [Option.getD_some, Option.isSome_some] at hok
            clear hall hn ho
            go_wp2_with fail
            go_ret
            exact ⟨_, rfl, HC.out, hb⟩
          · have HC : Hid (Chosen (get m) gain now a) := Lib.hid (.inr ⟨ha, n, hn, fun o2 h _ => by rw [ho] at h; injection h with h; omega⟩)
            simp only [Option.getD_some, Option.isSome_some] at hok
            clear hall hn ho
            go_wp2_with fail
            go_ret
            exact ⟨_, rfl, HC.out, hb⟩
    · have hb3 : Below w.heap.size w w3 := hb.grown hg3 hb.size (fun j hj => by injection hj with hj; omega)
      have hu := HK.out _ hmem
      simp only at hu
      obtain ⟨huz, hub⟩ := hu
      have hgu := get_of_mem hIt'.map_.keys hmem
      have HBU : Hid (BestOf m (u :: seen) u) := Lib.hid (.inr ⟨huz, d, hgu⟩)
      have HIT := Lib.hid hIt'
      have hlk := run_int hIt'.map_ a
      clear hIt hb hg3 hIt' hgu hmem hns
      rcases hB with ⟨rfl, rfl⟩ | ⟨ha, n, hn⟩
      · clear hlk
        go_wp2_with fail
        go_roundg k'
        case measure => exact hlt'
        case rel => exact ⟨_, u, rfl, HIT.out, hb3, HBU.out⟩
      · obtain ⟨a1, a2⟩ := str_ne ha
        rw [hn, Option.getD_some] at hlk
        have HBA : Hid (BestOf m (u :: seen) a) := Lib.hid (.inr ⟨ha, n, hn⟩)
        clear hn
        go_wp2_with fail
        all_goals
          go_roundg k'
          case measure => exact hlt'
          case rel => first | exact ⟨_, u, rfl, HIT.out, hb3, HBU.out⟩ | exact ⟨_, a, rfl, HIT.out, hb3, HBA.out⟩
end Go.Proofs.YtkbbmlkgaooaiaaGreatDoor

namespace Go.Proofs.YtkbbmlkgaooaiaaGreatDoor
open Go.RowKit Go.Hw Go.Shelf

/-- What begins does: all that lies below base stays. -/
def BegOut (w : World) (base : Nat) (l : List Tn) (w' : World) (e : Ending) : Prop := ∃ v', e = .returned v' ∧ TnsOwn w' base v' l ∧ Below base w w'

set_option maxRecDepth 100000 in
set_option maxHeartbeats 1000000 in
theorem begins_any (base : Nat) (v : Value) (l : List Tn) (t : Int) (r : ByteArray) (w : World) (h : TnsOwn w base v l) (hl : l.length ≤ 100000) (hf : ∀ y ∈ l, y.from_ < t) (hbase : base ≤ w.heap.size) :
    Calls Tryz.prog 70 #[v, .int .i64 t, .string r] w fun e w' => BegOut w base (beginsP l t r) w' e := by
  obtain ⟨i0, hi, hz0, hz1, hz2⟩ := info_parts Tryz.infoTurn
  rcases List.eq_nil_or_concat l with rfl | ⟨l0, y, hly⟩
  · have hv : v = .slice none 0 0 ∨ ∃ g cap, v = .slice (some ⟨g, 0, none⟩) 0 cap := by
      rcases h.2 with ⟨h1, _⟩ | ⟨g, cap, cur, h1, _⟩
      · exact .inl h1
      · exact .inr ⟨g, cap, by simpa using h1⟩
    have hnl : ∃ p cap, v = .slice p 0 cap := by
      rcases hv with h1 | ⟨g, cap, h1⟩
      · exact ⟨_, _, h1⟩
      · exact ⟨_, _, h1⟩
    obtain ⟨p, cap, rfl⟩ := hnl
    clear hv hf
    have H := Lib.hid h
    clear h
    by_cases hr : r.size = 0
    · have hre : r = ⟨#[]⟩ := size0 hr rfl
      subst hre
      have HR : Hid (beginsP [] t ⟨#[]⟩ = []) := Lib.hid rfl
      clear hr
      go_enter Tryz.func70, Tryz.ntmps70
      go_wp2_with fail
      go_ret
      exact ⟨_, rfl, by rw [HR.out]; exact H.out, Below.refl _ _⟩
    · obtain ⟨r1, r2⟩ := str_ne hr
      have HR : Hid (beginsP [] t r = [] ++ [⟨r, t, endT⟩]) := Lib.hid (by unfold beginsP; simp [hr])
      clear hr
      go_enter Tryz.func70, Tryz.ntmps70
      go_wp2_with (at_builtin; refine wpList_append_own _ rfl (.tmp 47) (.tmp 51) 50 rfl base 151 i0 (.agg #[.string ⟨#[]⟩, .int .i64 0, .int .i64 0]) 3 32 Tryz.underlying50 hi hz0 hz1 hz2 rfl (by decide) _ _ _ rfl (World.ownsRow.alloc H.out _) ⟨w.heap.size, 0, none⟩ 1 1 [.string r, .int .i64 t, .int .i64 345686400] rfl rfl ?c1 ?c2 ?c3 ?c4 ?c5 ?_)
      case c1 => exact cells_new w [.string r, .int .i64 t, .int .i64 345686400] _
      case c2 => simp [Value.oneCell']
      case c3 => simp [maxLen]
      case c4 => simp
      case c5 => simp; omega
      intro v' w3 ho3 hg4 _
      have hown : TnsOwn w3 base v' ([] ++ [⟨r, t, endT⟩]) := ho3
      have hb : Below base w w3 := ((Below.refl _ _).alloc hbase _).grown hg4 (by simp; omega) (fun j hj => (World.ownsRow.lt H.out j hj).1)
      clear ho3 hg4
      go_wp2_with fail
      go_ret
      exact ⟨_, rfl, by rw [HR.out]; exact hown, hb⟩
  · rw [List.concat_eq_append] at hly
    subst hly
    obtain ⟨g, cap, rfl, hgb, hgl, hcap, c0, c1, c2, fz⟩ := h.last
    have hfy := hf y (by simp)
    have hl0 : l0.length < 100000 := by simp at hl; omega
    have H := Lib.hid h
    have s0 : IntKind.i64.wrap (((l0.length + 1 : Nat) : Int) - 1) = (l0.length : Int) := by rw [IntWalk.i64_in _ (by omega)]; omega
    have s1 : ((l0.length + 1 : Nat) : Int) - 1 = (l0.length : Int) := by omega
    clear h hf hl
    obtain ⟨yw, yf, yt⟩ := y
    simp only at c0 c1 c2 hfy
    by_cases hto : yt = 345686400
    · subst hto
      by_cases hw : yw = r
      · subst hw
        have HR : Hid (beginsP (l0 ++ [⟨yw, yf, 345686400⟩]) t yw = l0 ++ [⟨yw, yf, 345686400⟩]) := Lib.hid (by unfold beginsP; simp [endT])
        have e1 : (yw.toList == yw.toList) = true := by simp
        go_enter Tryz.func70, Tryz.ntmps70
        go_wp2_with fail
        go_ret
        exact ⟨_, rfl, by rw [HR.out]; exact H.out, Below.refl _ _⟩
      · have hwe : (yw.toList == r.toList) = false := by
          rw [beq_eq_false_iff_ne]
          intro e
          exact hw (bytes_ext e)
        have hft : (yf == t) = false := by rw [beq_eq_false_iff_ne]; omega
        obtain ⟨ho1, hg1⟩ := H.out.close t
        have HO1 := Lib.hid ho1
        have HG1 := Lib.hid hg1
        clear ho1 hg1
        by_cases hr : r.size = 0
        · have hre : r = ⟨#[]⟩ := size0 hr rfl
          subst hre
          have HR : Hid (beginsP (l0 ++ [⟨yw, yf, 345686400⟩]) t ⟨#[]⟩ = l0 ++ [⟨yw, yf, t⟩]) := Lib.hid (by unfold beginsP; simp [endT, hw, show yf ≠ t from by omega]; rfl)
          obtain ⟨y1, y2⟩ := str_ne (s := yw) (fun e => hw (size0 e rfl))
          clear hr hw
          go_enter Tryz.func70, Tryz.ntmps70
          go_wp2_with fail
          go_ret
          exact ⟨_, rfl, by rw [HR.out]; simpa [TnsOwn] using HO1.out, (Below.refl _ _).grown HG1.out hbase (fun j hj => by injection hj with hj; omega)⟩
        · obtain ⟨r1, r2⟩ := str_ne hr
          have HR : Hid (beginsP (l0 ++ [⟨yw, yf, 345686400⟩]) t r = (l0 ++ [⟨yw, yf, t⟩]) ++ [⟨r, t, endT⟩]) := Lib.hid (by unfold beginsP; simp [endT, hw, show yf ≠ t from by omega, hr])
          clear hr hw
          go_enter Tryz.func70, Tryz.ntmps70
          go_wp2_with (at_builtin; refine wpList_append_own _ rfl (.tmp 47) (.tmp 51) 50 rfl base 151 i0 (.agg #[.string ⟨#[]⟩, .int .i64 0, .int .i64 0]) 3 32 Tryz.underlying50 hi hz0 hz1 hz2 rfl (by decide) _ _ _ rfl (World.ownsRow.alloc HO1.out _) ⟨w.heap.size, 0, none⟩ 1 1 [.string r, .int .i64 t, .int .i64 345686400] rfl rfl ?d1 ?d2 ?d3 ?d4 ?d5 ?_)
          case d2 => simp [Value.oneCell']
          case d3 => unfold maxLen; omega
          case d4 => omega
          case d5 => omega
          intro v' w3 ho3 hg4 _
          have hown : TnsOwn w3 base v' ((l0 ++ [⟨yw, yf, t⟩]) ++ [⟨r, t, endT⟩]) := by
            unfold TnsOwn
            rw [tns_snoc]
            exact own_cast ho3 (by simp) rfl
          have hb : Below base w w3 := (((Below.refl _ _).grown HG1.out hbase (fun j hj => by injection hj with hj; omega)).alloc (by simp; omega) _).grown hg4 (by simp; omega) (fun j hj => (World.ownsRow.lt HO1.out j hj).1)
          clear ho3 hg4
          go_wp2_with fail
          go_ret
          exact ⟨_, rfl, by rw [HR.out]; exact hown, hb⟩
    · have hte : (yt == 345686400) = false := by rw [beq_eq_false_iff_ne]; omega
      by_cases hr : r.size = 0
      · have hre : r = ⟨#[]⟩ := size0 hr rfl
        subst hre
        have HR : Hid (beginsP (l0 ++ [⟨yw, yf, yt⟩]) t ⟨#[]⟩ = l0 ++ [⟨yw, yf, yt⟩]) := Lib.hid (by unfold beginsP; simp [endT, hto]; rfl)
        clear hr hto
        go_enter Tryz.func70, Tryz.ntmps70
        go_wp2_with fail
        go_ret
        exact ⟨_, rfl, by rw [HR.out]; simpa [TnsOwn] using H.out, Below.refl _ _⟩
      · obtain ⟨r1, r2⟩ := str_ne hr
        have HR : Hid (beginsP (l0 ++ [⟨yw, yf, yt⟩]) t r = (l0 ++ [⟨yw, yf, yt⟩]) ++ [⟨r, t, endT⟩]) := Lib.hid (by unfold beginsP; simp [endT, hto, hr])
        clear hr hto
        go_enter Tryz.func70, Tryz.ntmps70
        go_wp2_with (at_builtin; refine wpList_append_own _ rfl (.tmp 47) (.tmp 51) 50 rfl base 151 i0 (.agg #[.string ⟨#[]⟩, .int .i64 0, .int .i64 0]) 3 32 Tryz.underlying50 hi hz0 hz1 hz2 rfl (by decide) _ _ _ rfl (World.ownsRow.alloc H.out _) ⟨w.heap.size, 0, none⟩ 1 1 [.string r, .int .i64 t, .int .i64 345686400] rfl rfl ?e1 ?e2 ?e3 ?e4 ?e5 ?_)
        case e1 => exact cells_new w [.string r, .int .i64 t, .int .i64 345686400] _
        case e2 => simp [Value.oneCell']
        case e3 => unfold maxLen; simp only [List.length_append, List.length_cons, List.length_nil]; omega
        case e4 => simp only [List.length_append, List.length_cons, List.length_nil]; omega
        case e5 => simp; omega
        intro v' w3 ho3 hg4 _
        have hown : TnsOwn w3 base v' ((l0 ++ [⟨yw, yf, yt⟩]) ++ [⟨r, t, endT⟩]) := by
          unfold TnsOwn
          rw [tns_snoc]
          exact own_cast ho3 (by simp) rfl
        have hb : Below base w w3 := ((Below.refl _ _).alloc hbase _).grown hg4 (by simp; omega) (fun j hj => (World.ownsRow.lt H.out j hj).1)
        clear ho3 hg4
        go_wp2_with fail
        go_ret
        exact ⟨_, rfl, by rw [HR.out]; exact hown, hb⟩
end Go.Proofs.YtkbbmlkgaooaiaaGreatDoor
