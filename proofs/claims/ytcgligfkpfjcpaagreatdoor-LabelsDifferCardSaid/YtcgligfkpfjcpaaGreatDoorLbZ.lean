/- name.Call. -/
import Derived.Test.YtcgligfkpfjcpaaGreatDoorLbY
import Derived.Test.YtcgligfkpfjcpaaGreatDoorMap
namespace Go.Proofs.YtcgligfkpfjcpaaGreatDoor
open Go.RowKit Go.Hw Go.Shelf

theorem entersJ : ∀ args w, (callFunc 26 args).run Tryz.prog w = .ok (.enter 26 args) w := enters_of Tryz.func26 (by kernel_rfl) rfl
theorem entersN : ∀ args w, (callFunc 30 args).run Tryz.prog w = .ok (.enter 30 args) w := enters_of Tryz.func30 (by kernel_rfl) rfl
theorem cells_newL (W : World) (vs : List Value) (T : TypeId) : ∀ j u, vs[j]? = some u → (W.alloc (.cells vs.toArray T)).cell? ((⟨W.heap.size, 0, none⟩ : Addr).add j) = some u := by
  intro j u hu
  rw [Addr.add_lit]
  unfold World.cell?
  rw [heap_alloc_new]
  simpa using hu
theorem own_rebase {w : World} {b1 b2 : Nat} {T : TypeId} {size : Nat} {v : Value} {n : Nat} {xs : List Value} (h : w.ownsRow b1 T size v n xs) (hb : ∀ g, v.ownBlock = some g → b2 ≤ g) : w.ownsRow b2 T size v n xs := ⟨h.1, by
    rcases h.2 with h | ⟨g, cp, cur, h1, h2, h3⟩
    · exact .inl h
    · exact .inr ⟨g, cp, cur, h1, hb g (by rw [h1]; rfl), h3⟩⟩
/-- The labels that are taken. -/
def tk (out : List Cd) : List (List UInt8) := out.map fun c => c.label.data.toList
def TkIs (m : List (ByteArray × Bool)) (T : List (List UInt8)) : Prop := ∀ u : ByteArray, (get m u).getD false = decide (u.data.toList ∈ T)
theorem TkIs.put {m : List (ByteArray × Bool)} {T : List (List UInt8)} (h : TkIs m T) (k : List UInt8) : TkIs (Hw.put m (toB k) true) (T ++ [k]) := by
  intro u
  rw [get_put]
  by_cases e : u = toB k
  · rw [if_pos e, e, toB_toList']; simp
  · rw [if_neg e, h u]
    have : u.data.toList ≠ k := fun c => e (by rw [← c]; unfold toB; simp)
    simp [this]
theorem run_tk {w : World} {b : Nat} {m : List (ByteArray × Bool)} {T : List (List UInt8)} (h : MapIs w b Value.bool m) (hT : TkIs m T) (k : List UInt8) :
    (Instr.lookup 75 (.map (some b)) (.string (toB k)) false).run Tryz.prog w = .ok (.bool (decide (k ∈ T))) w := by
  have e := hT (toB k)
  rw [toB_toList'] at e
  rw [run_get h (P := Tryz.prog) Tryz.underlying75 Tryz.underlying9 (Tryz.zeroBool _) _, ← e]
  cases get m (toB k) <;> rfl
theorem cand_step {base : List UInt8} {n : Nat} {d : UInt8} (hn : 1 ≤ n) (hd : Lib.decDigits n = [d]) (v : Int) (hv : v = 61) :
    (toB base).extract 0 (min ((toB base).size : Int) v).toNat ++ (({ data := #[45] } : ByteArray) ++ { data := [d].toArray }) = toB (candL base n) := by
  subst hv
  have hs : (toB base).size = base.length := by unfold toB ByteArray.size; simp
  have hm : (min ((toB base).size : Int) 61).toNat = min base.length 61 := by rw [hs]; omega
  rw [hm]
  unfold candL
  rw [if_neg (by omega), hd]
  apply ByteArray.ext
  unfold toB
  simp
/-- What holds ahead of each round of Call. -/
def ClI (w : World) (M : Nat) (S : List Wi) (A : Option Addr) (k : Nat) (v : Value) (wr : World) : Prop :=
  ∃ O ocap out m, v = .slice O out.length ocap ∧ out = callRaw [] (S.take k) ∧ cdOwn wr (M + 1) (.slice O out.length ocap) out ∧ MapIs wr M Value.bool m ∧ TkIs m (tk out) ∧ Below w.heap.size w wr ∧ wsAt wr A S ∧ out.length = k
set_option maxRecDepth 100000 in
set_option maxHeartbeats 2000000 in
theorem call_any (A : Option Addr) (cap : Nat) (ws : List Wi) (w : World) (h : wsAt w A ws) (h0 : A = none → ws = []) (hl : ws.length ≤ 6) (hn : ∀ x ∈ ws, x.node.size ≤ maxLen) (hg : GoodW ws) :
    Calls Tryz.prog 7 #[.slice A ws.length cap] w fun e w' => ∃ v, e = .returned (.tuple #[v, .int .i64 0]) ∧ cdOwn w' w.heap.size v (callL ws) ∧ Below w.heap.size w w' := by
  have hwf := wishesFault_iff A cap ws w h (by omega) hn
  obtain ⟨i0, hi0, hz0, hz1, hz2⟩ := info_parts cd_info
  have HG := Lib.hid hg
  have H := Lib.hid h
  have H0 := Lib.hid h0
  have hmm := @run_makeMap Tryz.prog
  clear h hg h0
  go_enter Tryz.func7, Tryz.ntmps7
  go_wp2_with fail
  refine hwf.mono ?_
  rintro e w1 ⟨c, rfl, hc, hb1⟩
  obtain rfl : c = 0 := hc.2 HG.out
  clear hc hwf
  go_wp2_with fail
  refine (ws_clone A cap ws w1 (H.out.below hb1) H0.out (by omega)).mono ?_
  rintro e w2 ⟨v, rfl, ho2, hb2⟩
  obtain ⟨A2, cap2, rfl, -⟩ := rw_at (d := noWi) wsC_len ho2
  have hbb2 : Below w.heap.size w w2 := hb1.trans (hb2.mono hb1.size)
  have ho2' : wsOwn w2 0 (.slice A2 ws.length cap2) ws := own_rebase ho2 (fun _ _ => Nat.zero_le _)
  have hsort := ws_sortStable A2 cap2 ws 26 #[] cJ w2 entersJ ho2' (by omega) (fun wr _ W x y _ _ _ => cJ_calls x y W)
  have hb0 : ∀ g, (Value.slice A2 ws.length cap2).ownBlock = some g → w.heap.size ≤ g := fun g hg => Nat.le_trans hb1.size (ho2.lt g hg).1
  clear ho2' hb2
  go_wp2_with fail
  refine hsort.mono ?_
  rintro e w3 ⟨rfl, hg3, ho3⟩
  have hSl : (isortL (wsLt cJ) ws).length = ws.length := isortL_length _ _
  have hS3 : wsAt w3 A2 (isortL (wsLt cJ) ws) := rw_at' wsC_len ho3
  have hA3 : Hid (∀ a, A2 = some a → a.block < w3.heap.size) := Lib.hid (fun a ha => by subst ha; exact (ho3.lt a.block rfl).2)
  have hb3 : Below w.heap.size w w3 := hbb2.grown hg3 hbb2.size (fun g hg => hb0 g (by rw [isortL_length] at hg; exact hg))
  have hnS : ∀ x ∈ isortL (wsLt cJ) ws, x.name.size ≤ 200 := fun x hx => by
    obtain ⟨i, hi, rfl⟩ := List.getElem_of_mem (isortL_mem.1 hx)
    have := (HG.out i hi).2.2.1
    rwa [List.getD_eq_getElem?_getD, List.getElem?_eq_getElem hi] at this
  have hCL : callL ws = isortL (cdLt cN) (callRaw [] (isortL (wsLt cJ) ws)) := rfl
  generalize isortL (wsLt cJ) ws = S at *
  have HSl := Lib.hid hSl
  have HNS := Lib.hid hnS
  have HCL := Lib.hid hCL
  have hM0 := hb3.size
  have hst : ClI w w3.heap.size S A2 0 (.slice none 0 0) (w3.alloc (.map #[] 0)) :=
    ⟨none, 0, [], [], rfl, by simp [callRaw], World.ownsRow_nil _ _ _ _, MapIs.made w3 _, fun u => by simp [get_nil, tk], hb3.alloc hb3.size _, hS3.below ((Below.refl _ _).alloc (Nat.le_refl _) _), rfl⟩
  clear hsort hg3 ho3 hSl hnS hCL hbb2 ho2 hb0 hS3 hb1
  go_wp2_with fail
  go_loopw [26, 7] (fun v26 v7 wr => ∃ k : Nat, k ≤ ws.length ∧ v26 = .int .i64 k ∧ ClI w w3.heap.size S A2 k v7 wr) (fun v _ _ => ws.length - (intOf v).toNat)
  case atStart => exact ⟨0, by omega, rfl, hst⟩
  case round =>
    clear hst
    obtain ⟨k, hk, rfl, O, ocap, out, m, rfl, hout, hO, hM, hT, hb, hS, hol⟩ := hrel
    by_cases hlt : k < ws.length
    · obtain ⟨g5, off, rfl, hgB, hcc⟩ := hS k (by rw [HSl.out]; exact hlt)
      have hxm : S.getD k noWi ∈ S := rw_mem (by rw [HSl.out]; exact hlt)
      have hx200 := HNS.out _ hxm
      obtain ⟨c0, c1, c2⟩ := ws_cells hcc
      generalize hx : S.getD k noWi = x at *
      have HX := Lib.hid hx
      have hd : decide ((k : Int) < (ws.length : Int)) = true := by simp; omega
      have HB := Lib.hid hb
      have HO := Lib.hid hO
      have HM := Lib.hid hM
      have HT := Lib.hid hT
      have HS := Lib.hid hS
      have HOUT := Lib.hid hout
      have HOL := Lib.hid hol
      clear hx hcc hxm hb hO hM hT hS hout hol
      have HBA : Hid (Below w.heap.size w (wr.alloc (wiObj x))) := Lib.hid (HB.out.alloc HB.out.size (wiObj x))
      have hlab := label_any x.name (wr.alloc (wiObj x)) (by omega)
      have q0 : (wr.alloc (wiObj x)).cell? ⟨wr.heap.size, 0, none⟩ = some (.string x.node) := by unfold wiObj; go_simp
      unfold wiObj at hlab q0
      go_wp2_with fail
      refine hlab.mono ?_
      rintro e w4 ⟨rfl, hb4⟩
      replace q0 := (hb4.cell (p := ⟨wr.heap.size, 0, none⟩) (by simp)).trans q0
      have HB4 : Hid (Below w.heap.size w w4) := Lib.hid (HBA.out.trans (hb4.mono HBA.out.size))
      have HBr : Hid (Below wr.heap.size wr w4) := Lib.hid (((Below.refl wr.heap.size wr).alloc (Nat.le_refl _) _).trans (hb4.mono (by simp)))
      have hM4 := HM.out.below HBr.out HM.out.lt
      have hx4 : wr.heap.size < w4.heap.size := by have := hb4.size; simp at this; omega
      clear hb4 hlab c0 c1 c2
      have hpl := labelL_plain x.name.data.toList
      generalize hbase : labelL x.name.data.toList = base at *
      have HPL := Lib.hid hpl
      have HBASE := Lib.hid hbase
      clear hpl hbase
      have hlt4 : k ≤ 5 := by omega
      have hst : ∀ j, j < 0 → candL base j ∈ tk out := fun j hj => absurd hj (by omega)
      obtain ⟨wo, rfl⟩ : ∃ wo : World, wo = wr := ⟨_, rfl⟩
      go_wp2_with fail
      go_loopw [12, 11] (fun v12 v11 wi => ∃ n : Nat, 1 ≤ n ∧ n ≤ 9 ∧ v12 = .int .i64 n ∧ v11 = .string (toB (candL base (n - 1))) ∧ (∀ j, j < n - 1 → candL base j ∈ tk out) ∧ wi = w4) (fun v _ _ => 10 - (intOf v).toNat)
      case atStart => exact ⟨1, by omega, by omega, rfl, rfl, hst, rfl⟩
      case round =>
        clear hst
        obtain ⟨n, hn1, hn9, rfl, rfl, htk, rfl⟩ := hrel
        have hrun := run_tk hM4 HT.out (candL base (n - 1))
        by_cases hin : candL base (n - 1) ∈ tk out
        · have hd1 : decide (candL base (n - 1) ∈ tk out) = true := by simpa using hin
          rw [hd1] at hrun
          clear hd1
          have hn7 : n ≤ 6 := by
            have := taken_few (base := base) (taken := tk out) (n := n - 1) (by omega) (fun j _ hj => by
              by_cases e : j = n - 1
              · rw [e]; exact hin
              · exact htk j (by omega))
            have e : (tk out).length = out.length := by simp [tk]
            have := HOL.out
            omega
          have HTK : Hid (∀ j, j < n + 1 - 1 → candL base j ∈ tk out) := Lib.hid (fun j hj => by
              by_cases e : j = n - 1
              · rw [e]; exact hin
              · exact htk j (by omega))
          clear hin htk
          go_wp2_with fail
          obtain ⟨d, hdd, -⟩ := dec_one (show n ≤ 9 from by omega)
          have hI := fun w => Tryz.strconv_Itoa_small n (by omega) w
          rw [hdd] at hI
          have HDD := Lib.hid hdd
          clear hdd
          refine (hI _).mono ?_
          rintro e w5 ⟨rfl, rfl⟩
          clear hI
          go_wp2_with fail
          go_roundw
          case rel => exact ⟨n + 1, by omega, by omega, by go_num, congrArg Value.string (cand_step hn1 HDD.out 61 rfl), HTK.out, by first | trivial | rfl⟩
          case measure => simp [intOf]; omega
        · have hd1 : decide (candL base (n - 1) ∈ tk out) = false := by simpa using hin
          rw [hd1] at hrun
          clear hd1
          have hU : uniqL (tk out) base = candL base (n - 1) := uniqL_at (by omega) htk hin
          clear htk hin
          generalize candL base (n - 1) = U at *
          have HU := Lib.hid hU
          clear hU
          obtain ⟨W6, hput, hM6, hg6, hz6⟩ := run_put (P := Tryz.prog) hM4 Tryz.underlying75 Tryz.underlying9 (toB U) true
          have hput' : (Instr.mapUpdate 75 (.map (some w3.heap.size)) (.string (toB U)) (.bool true)).run Tryz.prog _ = .ok () W6 := hput
          have hMr := HM.out.lt
          have hbs := HBr.out.size
          replace q0 := (World.cell?_of_block (hg6.block wo.heap.size hx4 (fun e => by injection e with e; omega))).trans q0
          have hO6 : cdOwn W6 (w3.heap.size + 1) (.slice O out.length ocap) out := by
            have hl := HO.out.lt
            refine rw_same HO.out fun j hj => ?_
            have := hl j hj
            exact (hg6.block j (by omega) (fun e => by injection e with e; omega)).trans (HBr.out.block j (by omega))
          have HB6 : Hid (Below w.heap.size w W6) := Lib.hid (HB4.out.grown hg6 HB4.out.size (fun j hj => by injection hj with hj; omega))
          have HS6 : Hid (wsAt W6 (some ⟨g5, off, none⟩) S) := Lib.hid ((HS.out.below HBr.out).grown hg6 (fun a ha e => by have := hA3.out a ha; injection e with e; omega))
          have HZ6 := Lib.hid hz6
          clear hput hg6 hz6
          go_wp2_with (at_builtin; refine wpList_append_own _ rfl (.tmp 54) (.tmp 59) 31 rfl (w3.heap.size + 1) 40 i0 (.agg #[.string ⟨#[]⟩, .string ⟨#[]⟩]) 2 32 Tryz.underlying31 hi0 hz0 hz1 hz2 rfl (by decide) _ _ _ rfl (World.ownsRow.alloc hO6 _) ⟨W6.heap.size, 0, none⟩ 1 1 [.string x.node, .string (toB U)] rfl rfl ?d1 ?d2 ?d3 ?d4 ?d5 ?_)
          case d1 => exact cells_newL W6 [.string x.node, .string (toB U)] _
          case d2 => simp [Value.oneCell']
          case d3 => unfold maxLen; have := HOL.out; omega
          case d4 => have := HOL.out; omega
          case d5 => have := HZ6.out; simp; omega
          intro v' w7 ho7 hg7 _
          have ho7' : cdOwn w7 (w3.heap.size + 1) v' (out ++ [⟨x.node, toB U⟩]) := by
            unfold cdOwn
            rw [List.length_append, show rwC cdC (out ++ [⟨x.node, toB U⟩]) = rwC cdC out ++ [.string x.node, .string (toB U)] by simp [rwC, cdC]]
            exact ho7
          obtain ⟨O', ocap', rfl, -⟩ := rw_at (d := noCd) cdC_len ho7'
          have hlow := fun j (hj : (Value.slice O out.length ocap).ownBlock = some j) => (hO6.lt j hj).1
          have hmm6 := hM6.lt
          have hnew : ClI w w3.heap.size S (some ⟨g5, off, none⟩) (k + 1) (.slice O' (out ++ [(⟨x.node, toB U⟩ : Cd)]).length ocap') w7 := by
            refine ⟨O', ocap', _, _, rfl, ?_, ho7', (hM6.alloc _).grown hg7 (fun e => by have := hlow _ e.symm; omega), ?_, ?_, ?_, ?_⟩
            · rw [take_succ' noWi (by rw [HSl.out]; exact hlt), callRaw_append, ← HOUT.out, HX.out]
              unfold callRaw callRaw
              rw [HBASE.out, show uniqL (out.map fun c => c.label.data.toList) base = U from HU.out]
            · have e : tk (out ++ [⟨x.node, toB U⟩]) = tk out ++ [U] := by simp [tk, toB_toList']
              rw [e]
              exact HT.out.put U
            · exact (HB6.out.alloc HB6.out.size _).grown hg7 (by have := HB6.out.size; simp; omega) (fun j hj => by have := hlow j hj; omega)
            · exact (HS6.out.below ((Below.refl _ _).alloc (Nat.le_refl _) _)).grown hg7 (fun a ha e => by have := hA3.out a ha; have := hlow _ e.symm; omega)
            · rw [List.length_append, HOL.out]; rfl
          clear ho7 ho7' hg7 hO6 hM6 hlow
          go_wp2_with fail
          go_roundw
          case rel => exact ⟨k + 1, by omega, by go_num, hnew⟩
          case measure => simp [intOf]; omega
    · have hkk : k = ws.length := by omega
      subst hkk
      have hall : callL ws = isortL (cdLt cN) out := by rw [HCL.out, hout, List.take_of_length_le (by rw [HSl.out]; exact Nat.le_refl _)]
      have hlow := fun j (hj : (Value.slice O out.length ocap).ownBlock = some j) => (hO.lt j hj).1
      have hsort := cd_sortFunc O ocap out 30 #[] cN wr entersN (own_rebase hO (fun _ _ => Nat.zero_le _)) (by omega) (fun wr _ W x y _ _ _ => cN_calls x y W)
      have HALL := Lib.hid hall
      have HB := Lib.hid hb
      have HLOW := Lib.hid hlow
      have HOL := Lib.hid hol
      clear hall hb hlow hO hM hT hS hout hol
      go_wp2_with fail
      refine hsort.mono ?_
      rintro e w8 ⟨rfl, hg8, ho8⟩
      clear hsort
      go_wp2_with fail
      go_ret2
      refine ⟨.slice O out.length ocap, rfl, ?_, HB.out.grown hg8 HB.out.size (fun j hj => by rw [isortL_length] at hj; have := HLOW.out j hj; omega)⟩
      rw [HALL.out]
      have h9 := own_rebase (b2 := w.heap.size) ho8 (fun j hj => by rw [isortL_length] at hj; have := HLOW.out j hj; omega)
      rw [isortL_length] at h9
      unfold cdOwn
      rw [isortL_length]
      exact h9
end Go.Proofs.YtcgligfkpfjcpaaGreatDoor
