import Derived.Test.YtemajhloddkifaaLR
set_option linter.unusedVariables false
namespace Go.Proofs
open Ax Go
set_option maxRecDepth 10000
def ghU (f r : Nat) : List Ghost := match f, r with | 11, 6 => [.fresh 5, .fresh 2] | 11, 14 => [.adopt 5] | 3, 6 => [.fresh 4, .adopt 4] | _, _ => []
def keepU (f r : Nat) : Option (List Nat) := match f, r with
  | 3, 9 => some [0, 3, 4, 8]
  | _, _ => keepN f r
def keepXU (f r : Nat) : Option (List Nat) := match f, r with
  | 3, 9 => some [0, 3]
  | _, _ => keepXN f r
def xfU (f r o : Nat) : Bool := match f, r, o with
  | 11, 24, 0 => true
  | 3, 4, 2 => true
  | _, _, _ => false
noncomputable def cxU : Ctx where
  P := Try.prog
  inl := fun _ => false
  keep := keepU
  keepX := keepXU
  xf := xfU
  ow := fun f => Nat.beq f 11
  gh := ghU
  gf := fun _ => []
  ln := fun f => Nat.beq f 13
  srt := srtT
theorem okU {f a Q} (h : stepCall (SX Try.prog yesCalm) cxU yesCalm f a Q) : CallOK Try.prog f a Q := okOf (cx := cxU) rfl progOK h
noncomputable abbrev nil4u : AV := .uni (.vec 4 0 fun _ => zeroElem Try.prog 34)
noncomputable def netSU (fl : Nat → Fl) (n : Nat) (x : NetHd fl n) : St := ⟨[(2, nil4u), (4, .mapr 0), (5, .uni (.vec 2 x.len x.g)), (19, encL fl n), (20, .int .i64 n), (21, .int .i64 x.i)], [.map 54 true x.ents], [], none⟩
noncomputable def netTU (fl : Nat → Fl) (n : Nat) (ks : List Key) (ents : List (AV × AV)) (e : Nat → AV) (len : Nat) (x : NetHe fl n ks) : St := ⟨[(2, .uni (.vec 4 x.len x.g)), (4, .mapr 0), (51, .row 1 2 0 len), (52, .int .i64 len), (53, .int .i64 x.i)], [.map 54 true ents, .arr 2 len e], [], none⟩
theorem flowNetU (fl : Nat → Fl) (n : Nat) (ks : List Key) (hr : RiseK ks) (hp : ks.Perm (keysF fl n)) : CallOK Try.prog 11 [encL fl n] (fun r => netE fl n ks = 0 ∧ (∃ len g, r = .tup [.uni (.vec 4 len g), .int .i64 0] ∧ FlowsAt (netF fl n ks) len g) ∨ netE fl n ks ≠ 0 ∧ ∃ g, r = .tup [.own (.vec 4 0 g), .int .i64 (netE fl n ks)]) := by
  refine okU ?_
  conv => whnf
  repeat ((first | with_reducible refine branch_true rfl ?_ | with_reducible refine branch_false rfl ?_); conv => whnf)
  refine call_is (check fl n) ?_
  conv => whnf
  repeat ((first | with_reducible refine branch_true rfl ?_ | with_reducible refine branch_false rfl ?_); conv => whnf)
  refine branch_of (fun h1 => ?_) (fun h1 => ?_)
  · have h1 : checkE fl n ≠ 0 := by simpa using h1
    conv => whnf
    repeat ((first | with_reducible refine branch_true rfl ?_ | with_reducible refine branch_false rfl ?_); conv => whnf)
    have e : netE fl n ks = checkE fl n := by rw [netE, if_pos h1]
    exact .inr ⟨by rw [e]; exact h1, _, congrArg (fun q => AV.tup [AV.own (AV.vec 4 0 _), AV.int .i64 q]) e.symm⟩
  · have h1 : checkE fl n = 0 := by simpa using h1
    obtain ⟨hn, hall⟩ := check_ok h1
    conv => whnf
    repeat ((first | with_reducible refine branch_true rfl ?_ | with_reducible refine branch_false rfl ?_); conv => whnf)
    refine loop_by (cx := cxU) rfl progOK (ι := NetHd fl n) (fun x => n - x.i) (netSU fl n) ?_ ⟨0, 0, _, [], Nat.zero_le _, ⟨rfl, fun j k hj => by simp [keysF] at hj⟩, .nil⟩
    rintro ⟨i, len, g, ents, hi, hk, he⟩ ih
    have hlen := keysF_len fl i
    have hk0 := hk.1
    have helen := he.len
    conv => whnf
    repeat ((first | with_reducible refine branch_true rfl ?_ | with_reducible refine branch_false rfl ?_); conv => whnf)
    refine branch_of (fun g1 => ?_) (fun g1 => ?_)
    · have g2 : i < n := by simpa using g1
      have hw : IntKind.i64.wrap ((i : Int) + 1) = ((i + 1 : Nat) : Int) := by rw [wrap64 (by omega)]; omega
      conv => whnf
      repeat ((first | with_reducible refine branch_true rfl ?_ | with_reducible refine branch_false rfl ?_); conv => whnf)
      refine st_addr (sz := 4) (len := n) (n := i) (u := 34) (g := fun i => encF (fl i)) rfl rfl rfl rfl rfl (in_range g2) ?_
      conv => whnf
      repeat ((first | with_reducible refine branch_true rfl ?_ | with_reducible refine branch_false rfl ?_); conv => whnf)
      by_cases hin : keyOf (fl i) ∈ keysF fl i
      · obtain ⟨j, hj⟩ := List.getElem?_of_mem hin
        obtain ⟨p, hpj, hpk, gg, hpv, hpg⟩ := he.at hj
        have hpos := selK_pos hin
        have hsl : (selK (keyOf (fl i)) fl i).length ≤ i := sel_len _ _ _
        have hm : mpos Try.prog 54 ents (encK (keyOf (fl i))) = some j := mpos_at entAt_key eqKey_enc he (keysF_nodup fl i) hj
        have hv : mval .undef ents j = .own (.vec 1 (selK (keyOf (fl i)) fl i).length gg) := by rw [mval_at hpj, hpv]
        have hjl : j < ents.length := by rw [helen]; exact (List.getElem?_eq_some_iff.1 hj).1
        refine st_look (kt := 54) (et := 55) (id := 0) (j := j) (ents := ents) (reg := true) rfl rfl rfl rfl (keyLook (keyOf (fl i))) hm hv ?_
        conv => whnf
        repeat ((first | with_reducible refine branch_true rfl ?_ | with_reducible refine branch_false rfl ?_); conv => whnf)
        refine branch_false (decide_eq_false (by omega)) ?_
        conv => whnf
        repeat ((first | with_reducible refine branch_true rfl ?_ | with_reducible refine branch_false rfl ?_); conv => whnf)
        refine st_entry (kt := 54) (et := 55) (id := 0) (j := j) (ents := ents) rfl rfl rfl rfl (keyEnt (k := keyOf (fl i)) rfl) hm hv ?_
        conv => whnf
        repeat ((first | with_reducible refine branch_true rfl ?_ | with_reducible refine branch_false rfl ?_); conv => whnf)
        refine st_append (sz := 1) (len := (selK (keyOf (fl i)) fl i).length) (g := gg) (u := 3) (m := 1) (gg := vlist (zeroElem Try.prog 3) [.int .i64 (fl i).n]) rfl rfl rfl rfl rfl (room8 (by omega)) ?_
        conv => whnf
        repeat ((first | with_reducible refine branch_true rfl ?_ | with_reducible refine branch_false rfl ?_); conv => whnf)
        refine st_estore (kt := 54) (kk := .i64) (n := (j : Int)) (id := 0) rfl rfl rfl rfl (in_range (by rw [msetAt_len]; exact hjl)) rfl rfl ?_
        conv => whnf
        repeat ((first | with_reducible refine branch_true rfl ?_ | with_reducible refine branch_false rfl ?_); conv => whnf)
        refine loop_to ih ⟨i + 1, len, g, _, g2, by rw [keysF_in hin]; exact hk, ?_⟩ (show n - (i + 1) < n - i by omega) (congrArg (fun q => St.mk [(2, nil4u), (4, .mapr 0), (5, .uni (.vec 2 len g)), (19, encL fl n), (20, .int .i64 n), (21, .int .i64 q)] [.map 54 true _] [] none) hw)
        rw [keysF_in hin, show ((j : Int).toNat) = j from rfl, msetAt_twice]
        refine he.setAt (keysF_nodup fl i) hj (fun b q hb hq => entAt_keep hb hq) fun q hq => ?_
        exact entAt_more hq.1 rfl hpg rfl
      · have hm : mpos Try.prog 54 ents (encK (keyOf (fl i))) = none := mpos_no entAt_key (fun a b => (eqKey_enc a b).1) he hin
        refine st_look_no (kt := 54) (et := 55) (id := 0) (ents := ents) (reg := true) rfl rfl rfl rfl (keyLook (keyOf (fl i))) hm ?_
        conv => whnf
        repeat ((first | with_reducible refine branch_true rfl ?_ | with_reducible refine branch_false rfl ?_); conv => whnf)
        refine st_append_uni (sz := 2) (len := len) (g := g) (u := 54) (m := 1) (gg := vlist (zeroElem Try.prog 54) [encK (keyOf (fl i))]) rfl rfl rfl rfl rfl (room24 (by omega)) ?_
        conv => whnf
        repeat ((first | with_reducible refine branch_true rfl ?_ | with_reducible refine branch_false rfl ?_); conv => whnf)
        refine st_entry_no (kt := 54) (et := 55) (id := 0) (ents := ents) rfl rfl rfl rfl (keyEnt (k := keyOf (fl i)) rfl) hm ?_
        conv => whnf
        repeat ((first | with_reducible refine branch_true rfl ?_ | with_reducible refine branch_false rfl ?_); conv => whnf)
        refine st_estore (kt := 54) (kk := .i64) (n := (ents.length : Int)) (id := 0) rfl rfl rfl rfl (in_range (by simp)) rfl rfl ?_
        conv => whnf
        repeat ((first | with_reducible refine branch_true rfl ?_ | with_reducible refine branch_false rfl ?_); conv => whnf)
        refine loop_to ih ⟨i + 1, len + 1, _, _, g2, ?_, ?_⟩ (show n - (i + 1) < n - i by omega) (congrArg (fun q => St.mk [(2, nil4u), (4, .mapr 0), (5, .uni (.vec 2 (len + 1) _)), (19, encL fl n), (20, .int .i64 n), (21, .int .i64 q)] [.map 54 true _] [] none) hw)
        · rw [keysF_new hin]; exact keysAt_snoc hk rfl
        · rw [keysF_new hin, show ((ents.length : Int).toNat) = ents.length from rfl, msetAt_last]
          refine (he.mono fun a q ha hq => entAt_keep (fun e => hin (e ▸ ha)) hq).snoc ?_
          refine entAt_more (p := (encK (keyOf (fl i)), .undef)) rfl ?_ ?_ rfl
          · rw [selK_none hin]; rfl
          · rw [selK_none hin]; intro i hi; simp at hi
    · have g2 : i = n := by simp at g1; omega
      subst g2
      clear ih
      conv => whnf
      repeat ((first | with_reducible refine branch_true rfl ?_ | with_reducible refine branch_false rfl ?_); conv => whnf)
      refine cond_t (show (Nat.beq 2 2 && Nat.beq 2 2 && Nat.beq 0 0 && Nat.beq len len) = true by simp) ?_
      have hl : (List.range len).map (fun i => oneOf 2 (g i)) = (keysF fl i).map encK := keysAt_list hk
      refine ⟨?_, cAV, ?_, swoK, ?_⟩
      · show ((List.range len).map (fun i => oneOf 2 (g i))).length < _
        simp; omega
      · intro a ha b hb
        replace ha : a ∈ (List.range len).map (fun i => oneOf 2 (g i)) := ha
        replace hb : b ∈ (List.range len).map (fun i => oneOf 2 (g i)) := hb
        rw [hl] at ha hb
        obtain ⟨ka, _, rfl⟩ := List.mem_map.1 ha
        obtain ⟨kb, _, rfl⟩ := List.mem_map.1 hb
        exact call_is (v := .int .i64 (cmpK ka kb)) (cmpKey ka kb) rfl
      · intro l' hp' hs'
        replace hp' : l'.Perm ((List.range len).map (fun i => oneOf 2 (g i))) := hp'
        rw [hl] at hp'
        obtain rfl := sorted_eq hr hp hp' hs'
        have hks : len = ks.length := by rw [hk0, hp.length_eq]
        have hes : ∀ j k, ks[j]? = some k → splice g 0 len (vlist .undef (ks.map encK)) (0 + j) = encK k := by
          intro j k hj
          have hj2 := (List.getElem?_eq_some_iff.1 hj).1
          have e1 : Nat.blt j (0 + len) = true := by rw [Nat.blt_eq]; omega
          rw [Nat.zero_add]
          unfold splice
          rw [e1, show Nat.ble 0 j = true from Nat.ble_eq_true_of_le (Nat.zero_le _)]
          simp only [Bool.and_self, cond_true, vlist, Nat.sub_zero]
          rw [List.getD, List.getElem?_map, hj]; rfl
        generalize splice g 0 len (vlist .undef (ks.map encK)) = e at hes
        conv => whnf
        repeat ((first | with_reducible refine branch_true rfl ?_ | with_reducible refine branch_false rfl ?_); conv => whnf)
        refine loop_by (cx := cxU) rfl progOK (ι := NetHe fl i ks) (fun x => ks.length - x.i) (netTU fl i ks ents e len) ?_ ⟨0, 0, _, Nat.zero_le _, ⟨by simp [netF], fun j k hj => by simp [netF] at hj⟩, by simp⟩
        rintro ⟨j, m, gf, hj, hf, ho⟩ ih
        conv => whnf
        repeat ((first | with_reducible refine branch_true rfl ?_ | with_reducible refine branch_false rfl ?_); conv => whnf)
        refine branch_of (fun g3 => ?_) (fun g3 => ?_)
        · have g4 : j < ks.length := by
            have := of_decide_eq_true g3
            simp at this; omega
          have hw : IntKind.i64.wrap ((j : Int) + 1) = ((j + 1 : Nat) : Int) := by rw [wrap64 (by omega)]; omega
          obtain ⟨k, hk1⟩ : ∃ k, ks[j]? = some k := ⟨_, List.getElem?_eq_getElem g4⟩
          have hkm : k ∈ keysF fl i := hp.mem_iff.1 (List.mem_of_getElem? hk1)
          obtain ⟨q, hq⟩ := List.getElem?_of_mem hkm
          obtain ⟨p, hpj, hpk, gg, hpv, hpg⟩ := he.at hq
          have hsl : (selK k fl i).length ≤ i := sel_len _ _ _
          have hm : mpos Try.prog 54 ents (encK k) = some q := mpos_at entAt_key eqKey_enc he (keysF_nodup fl i) hq
          have hv : mval .undef ents q = .own (.vec 1 (selK k fl i).length gg) := by rw [mval_at hpj, hpv]
          have hml := hf.1
          have hml2 := netF_len fl i (ks.take j)
          have hml3 : (ks.take j).length ≤ j := List.length_take_le _ _
          conv => whnf
          repeat ((first | with_reducible refine branch_true rfl ?_ | with_reducible refine branch_false rfl ?_); conv => whnf)
          refine st_addr_row (u := 54) (id := 1) (sz := 2) (lo := 0) (len := len) (n := (j : Int)) rfl rfl rfl rfl rfl (in_range (by omega)) ?_
          conv => whnf
          repeat ((first | with_reducible refine branch_true rfl ?_ | with_reducible refine branch_false rfl ?_); conv => whnf)
          refine st_load_e (id := 1) (sz := 2) (j := 0 + j) (len := len) (g := e) (cs := [.str k.1, .int .i64 k.2]) rfl rfl rfl (by omega) (hes j k hk1) rfl rfl ?_
          conv => whnf
          repeat ((first | with_reducible refine branch_true rfl ?_ | with_reducible refine branch_false rfl ?_); conv => whnf)
          refine st_look (kt := 54) (et := 55) (id := 0) (j := q) (ents := ents) (reg := true) rfl rfl rfl rfl (keyLook k) hm hv ?_
          conv => whnf
          repeat ((first | with_reducible refine branch_true rfl ?_ | with_reducible refine branch_false rfl ?_); conv => whnf)
          have hS := ok_same (.cons (.vec hpg) .nil) (centsSum (fun j => (selK k fl i).getD j 0) (selK k fl i).length (by omega) (sel_fits hall))
          have hT : sumZ (fun j => (selK k fl i).getD j 0) (selK k fl i).length = totK k fl i := rfl
          cases hfit : fitsI (totK k fl i) with
          | true =>
            rw [hT, sumR, hfit] at hS
            refine call_is (v := .tup [.int .i64 (totK k fl i), .int .i64 0]) hS ?_
            conv => whnf
            repeat ((first | with_reducible refine branch_true rfl ?_ | with_reducible refine branch_false rfl ?_); conv => whnf)
            have ho2 : ∀ k' ∈ ks.take (j + 1), fitsI (totK k' fl i) = true := by
              intro k' hk'
              rw [take_snoc hk1, List.mem_append, List.mem_singleton] at hk'
              rcases hk' with hk' | rfl
              · exact ho k' hk'
              · exact hfit
            refine branch_of (fun g5 => ?_) (fun g5 => ?_)
            · have g5 : totK k fl i ≠ 0 := by simpa using g5
              conv => whnf
              repeat ((first | with_reducible refine branch_true rfl ?_ | with_reducible refine branch_false rfl ?_); conv => whnf)
              refine st_append_uni (sz := 4) (len := m) (g := gf) (u := 34) (m := 1) (gg := vlist (zeroElem Try.prog 34) [encF ⟨k.1, k.2, totK k fl i, 0⟩]) rfl rfl rfl rfl rfl (room40 (by omega)) ?_
              conv => whnf
              repeat ((first | with_reducible refine branch_true rfl ?_ | with_reducible refine branch_false rfl ?_); conv => whnf)
              refine loop_to ih ⟨j + 1, m + 1, _, g4, ?_, ho2⟩ (show ks.length - (j + 1) < ks.length - j by omega) (congrArg (fun q => St.mk [(2, .uni (.vec 4 (m + 1) _)), (4, .mapr 0), (51, .row 1 2 0 len), (52, .int .i64 len), (53, .int .i64 q)] [.map 54 true ents, .arr 2 len e] [] none) hw)
              rw [take_snoc hk1, netF_snoc g5]
              exact flowsAt_snoc hf rfl
            · have g5 : totK k fl i = 0 := by simpa using g5
              conv => whnf
              repeat ((first | with_reducible refine branch_true rfl ?_ | with_reducible refine branch_false rfl ?_); conv => whnf)
              refine loop_to ih ⟨j + 1, m, gf, g4, ?_, ho2⟩ (show ks.length - (j + 1) < ks.length - j by omega) (congrArg (fun q => St.mk [(2, .uni (.vec 4 m gf)), (4, .mapr 0), (51, .row 1 2 0 len), (52, .int .i64 len), (53, .int .i64 q)] [.map 54 true ents, .arr 2 len e] [] none) hw)
              rw [take_snoc hk1, netF_snoc_zero g5]
              exact hf
          | false =>
            rw [hT, sumR, hfit] at hS
            refine call_is (v := .tup [.int .i64 0, .int .i64 3]) hS ?_
            conv => whnf
            repeat ((first | with_reducible refine branch_true rfl ?_ | with_reducible refine branch_false rfl ?_); conv => whnf)
            have hno : netOK fl i ks = false := List.all_eq_false.2 ⟨k, List.mem_of_getElem? hk1, by simp [hfit]⟩
            have e : netE fl i ks = 3 := by rw [netE, if_neg (by simp [h1]), hno]; rfl
            exact .inr ⟨by rw [e]; decide, _, congrArg (fun q => AV.tup [AV.own (AV.vec 4 0 _), AV.int .i64 q]) e.symm⟩
        · have g4 : j = ks.length := by
            have := of_decide_eq_false g3
            simp at this
            have hj : j ≤ ks.length := hj
            omega
          subst g4
          conv => whnf
          repeat ((first | with_reducible refine branch_true rfl ?_ | with_reducible refine branch_false rfl ?_); conv => whnf)
          rw [List.take_length] at hf ho
          have hyes : netOK fl i ks = true := List.all_eq_true.2 ho
          have e : netE fl i ks = 0 := by rw [netE, if_neg (by simp [h1]), hyes]; rfl
          exact .inl ⟨e, m, gf, rfl, hf⟩
end Go.Proofs


set_option linter.unusedVariables false
namespace Go.Proofs
open Ax Go
set_option maxRecDepth 10000
theorem force_by {v v' : AV} {k : AV → Prop} (h : v = v') (hk : k v') : v.force k := by rw [AV.force_eq]; exact h ▸ hk
theorem lend_row {n : Nat} (g : Nat → AV) : lendAV [.arr 4 n g] (.row 0 4 0 n) = .vec 4 n (fun j => g (0 + j)) := by
  show (bif Nat.beq 4 4 && Nat.ble (0 + n) n then AV.vec 4 n (fun j => g (0 + j)) else .undef) = _
  rw [show Nat.ble (0 + n) n = true from Nat.ble_eq_true_of_le (by omega)]; rfl
theorem lawNets : ∀ xs, TypedArgs Try.prog 8 Try.f3.params.toList xs → CallOK Try.prog 3 xs (fun r => r = .bool true) := by
  intro xs h
  rw [Try.params3] at h
  obtain ⟨a0, r0, rfl, h0, rfl⟩ := h
  obtain ⟨fl, n, hs, hn, hok⟩ := arg_flows (d := 5) h0
  refine ok_same (.cons hs .nil) ?_
  obtain ⟨ks, hr, hp⟩ := exists_rise (keysF fl n) (keysF_nodup _ _)
  have hkl := hp.length_eq
  have hkl2 := keysF_len fl n
  have hfl := netF_len fl n ks
  refine okU ?_
  conv => whnf
  repeat ((first | with_reducible refine branch_true rfl ?_ | with_reducible refine branch_false rfl ?_); conv => whnf)
  refine branch_of (fun g1 => ?_) (fun g1 => ?_)
  · conv => whnf
    repeat ((first | with_reducible refine branch_true rfl ?_ | with_reducible refine branch_false rfl ?_); conv => whnf)
    refine branch_of (fun g2 => ?_) (fun g2 => ?_)
    · conv => whnf
      repeat ((first | with_reducible refine branch_true rfl ?_ | with_reducible refine branch_false rfl ?_); conv => whnf)
      refine call_is goesOK ?_
      conv => whnf
      repeat ((first | with_reducible refine branch_true rfl ?_ | with_reducible refine branch_false rfl ?_); conv => whnf)
    · conv => whnf
      repeat ((first | with_reducible refine branch_true rfl ?_ | with_reducible refine branch_false rfl ?_); conv => whnf)
      refine branch_of (fun g3 => ?_) (fun g3 => ?_)
      · conv => whnf
        repeat ((first | with_reducible refine branch_true rfl ?_ | with_reducible refine branch_false rfl ?_); conv => whnf)
        refine call_is goesOK ?_
        conv => whnf
        repeat ((first | with_reducible refine branch_true rfl ?_ | with_reducible refine branch_false rfl ?_); conv => whnf)
      · have g3 : n ≤ 1100 := by have := of_decide_eq_false g3; omega
        have hn : n ≤ 100000 := by omega
        conv => whnf
        repeat ((first | with_reducible refine branch_true rfl ?_ | with_reducible refine branch_false rfl ?_); conv => whnf)
        refine call_by (flowOwn fl n hn) ⟨_, fun i => if i < n then encF (fl i) else encF behindF, rfl, fun i hi => by simp [hi], by simp⟩ ?_
        rintro r ⟨g, rfl, k1, k2⟩
        conv => whnf
        repeat ((first | with_reducible refine branch_true rfl ?_ | with_reducible refine branch_false rfl ?_); conv => whnf)
        have hU := ok_same (.cons (.wide (n := n) (m := n + 1) k1) .nil) (flowNetU fl n ks hr hp)
        refine call_by hU ?_ ?_
        · by_cases e : netE fl n ks = 0
          · exact ⟨_, .inl ⟨e, _, _, rfl, flowsAt_self _⟩⟩
          · exact ⟨_, .inr ⟨e, fun _ => .undef, rfl⟩⟩
        rintro r (⟨e, len, gn, rfl, hf⟩ | ⟨e, gn, rfl⟩)
        · have hl0 := hf.1
          have hR := refNet fl n ks hr hp
          rw [netL, if_pos e, e] at hR
          conv => whnf
          repeat ((first | with_reducible refine branch_true rfl ?_ | with_reducible refine branch_false rfl ?_); conv => whnf)
          refine call_by hR ⟨_, _, _, rfl, flowsAt_self _⟩ ?_
          rintro r ⟨len2, g2, rfl, hf2⟩
          obtain rfl : len2 = len := hf2.1.trans hf.1.symm
          conv => whnf
          repeat ((first | with_reducible refine branch_true rfl ?_ | with_reducible refine branch_false rfl ?_); conv => whnf)
          refine force_by (lend_row gn) ?_
          conv => whnf
          repeat ((first | with_reducible refine branch_true rfl ?_ | with_reducible refine branch_false rfl ?_); conv => whnf)
          have hf' : FlowsAt _ len2 (fun j => gn (0 + j)) := ⟨hf.1, fun j f hj => by show gn (0 + j) = _; rw [Nat.zero_add]; exact hf.2 j f hj⟩
          refine call_is (same_at hf' hf2 (by first | omega | simp)) ?_
          conv => whnf
          repeat ((first | with_reducible refine branch_true rfl ?_ | with_reducible refine branch_false rfl ?_); conv => whnf)
          refine call_is (ok_same (.cons (.wide k1) .nil) (check fl n)) ?_
          conv => whnf
          repeat ((first | with_reducible refine branch_true rfl ?_ | with_reducible refine branch_false rfl ?_); conv => whnf)
          refine call_is (refCheck fl n) ?_
          conv => whnf
          repeat ((first | with_reducible refine branch_true rfl ?_ | with_reducible refine branch_false rfl ?_); conv => whnf)
          refine branch_false (by simp) ?_
          conv => whnf
          repeat ((first | with_reducible refine branch_true rfl ?_ | with_reducible refine branch_false rfl ?_); conv => whnf)
          refine call_is (flowKept fl n hn g k1 k2) ?_
          conv => whnf
          repeat ((first | with_reducible refine branch_true rfl ?_ | with_reducible refine branch_false rfl ?_); conv => whnf)
          refine loop_by (cx := cxU) rfl progOK (ι := {x : Nat × (Nat → AV) // x.1 ≤ len2}) (fun x => len2 - x.1.1) (fun x => ⟨[(0, encL fl n), (3, .wide 4 n (n + 1) g), (4, .row 0 4 0 len2), (8, .int .i64 x.1.1)], [.arr 4 len2 x.1.2], [], none⟩) ?_ ⟨⟨0, gn⟩, Nat.zero_le _⟩
          rintro ⟨⟨i, e'⟩, hi⟩ ih
          have hi : i ≤ len2 := hi
          conv => whnf
          repeat ((first | with_reducible refine branch_true rfl ?_ | with_reducible refine branch_false rfl ?_); conv => whnf)
          refine branch_of (fun c1 => ?_) (fun c1 => ?_)
          · have c2 : i < len2 := by
              have := of_decide_eq_true c1
              simp at this; omega
            have hw : IntKind.i64.wrap ((i : Int) + 1) = ((i + 1 : Nat) : Int) := by rw [wrap64 (by omega)]; omega
            conv => whnf
            repeat ((first | with_reducible refine branch_true rfl ?_ | with_reducible refine branch_false rfl ?_); conv => whnf)
            refine st_addr_row (u := 34) (id := 0) (sz := 4) (lo := 0) (len := len2) (n := (i : Int)) rfl rfl rfl rfl rfl (in_range c2) ?_
            conv => whnf
            repeat ((first | with_reducible refine branch_true rfl ?_ | with_reducible refine branch_false rfl ?_); conv => whnf)
            refine st_store_e (id := 0) (sz := 4) (j := 0 + i) (len := len2) (g := e') rfl rfl (by omega) rfl rfl ?_
            conv => whnf
            repeat ((first | with_reducible refine branch_true rfl ?_ | with_reducible refine branch_false rfl ?_); conv => whnf)
            exact loop_to ih ⟨⟨i + 1, _⟩, c2⟩ (show len2 - (i + 1) < len2 - i by omega) (congrArg (fun q => St.mk [(0, encL fl n), (3, .wide 4 n (n + 1) g), (4, .row 0 4 0 len2), (8, .int .i64 q)] [.arr 4 len2 _] [] none) hw)
          · conv => whnf
            repeat ((first | with_reducible refine branch_true rfl ?_ | with_reducible refine branch_false rfl ?_); conv => whnf)
            refine call_is (flowKept fl n hn g k1 k2) ?_
            conv => whnf
            repeat ((first | with_reducible refine branch_true rfl ?_ | with_reducible refine branch_false rfl ?_); conv => whnf)
            refine call_is goesOK ?_
            conv => whnf
            repeat ((first | with_reducible refine branch_true rfl ?_ | with_reducible refine branch_false rfl ?_); conv => whnf)
            rfl
        · have hR := refNet fl n ks hr hp
          have hf : FlowsAt [] 0 gn := ⟨rfl, fun j f hj => by simp at hj⟩
          have hl0 : 0 ≤ 100000 := by omega
          rw [netL, if_neg e] at hR
          conv => whnf
          repeat ((first | with_reducible refine branch_true rfl ?_ | with_reducible refine branch_false rfl ?_); conv => whnf)
          refine call_by hR ⟨_, _, _, rfl, flowsAt_self _⟩ ?_
          rintro r ⟨len2, g2, rfl, hf2⟩
          obtain rfl : len2 = 0 := hf2.1
          conv => whnf
          repeat ((first | with_reducible refine branch_true rfl ?_ | with_reducible refine branch_false rfl ?_); conv => whnf)
          have hf' : FlowsAt _ 0 (fun j => gn (0 + j)) := ⟨hf.1, fun j f hj => by show gn (0 + j) = _; rw [Nat.zero_add]; exact hf.2 j f hj⟩
          refine call_is (same_at hf' hf2 (by first | omega | simp)) ?_
          conv => whnf
          repeat ((first | with_reducible refine branch_true rfl ?_ | with_reducible refine branch_false rfl ?_); conv => whnf)
          refine branch_false (by simp) ?_
          conv => whnf
          repeat ((first | with_reducible refine branch_true rfl ?_ | with_reducible refine branch_false rfl ?_); conv => whnf)
          refine call_is (ok_same (.cons (.wide k1) .nil) (check fl n)) ?_
          conv => whnf
          repeat ((first | with_reducible refine branch_true rfl ?_ | with_reducible refine branch_false rfl ?_); conv => whnf)
          refine call_is (refCheck fl n) ?_
          conv => whnf
          repeat ((first | with_reducible refine branch_true rfl ?_ | with_reducible refine branch_false rfl ?_); conv => whnf)
          refine branch_false (by simp) ?_
          conv => whnf
          repeat ((first | with_reducible refine branch_true rfl ?_ | with_reducible refine branch_false rfl ?_); conv => whnf)
          refine call_is (flowKept fl n hn g k1 k2) ?_
          conv => whnf
          repeat ((first | with_reducible refine branch_true rfl ?_ | with_reducible refine branch_false rfl ?_); conv => whnf)
          refine loop_by (cx := cxU) rfl progOK (ι := {x : Nat × (Nat → AV) // x.1 ≤ 0}) (fun x => 0 - x.1.1) (fun x => ⟨[(0, encL fl n), (3, .wide 4 n (n + 1) g), (4, .row 0 4 0 0), (8, .int .i64 x.1.1)], [.arr 4 0 x.1.2], [], none⟩) ?_ ⟨⟨0, gn⟩, Nat.zero_le _⟩
          rintro ⟨⟨i, e'⟩, hi⟩ ih
          have hi : i ≤ 0 := hi
          conv => whnf
          repeat ((first | with_reducible refine branch_true rfl ?_ | with_reducible refine branch_false rfl ?_); conv => whnf)
          refine call_is (flowKept fl n hn g k1 k2) ?_
          conv => whnf
          repeat ((first | with_reducible refine branch_true rfl ?_ | with_reducible refine branch_false rfl ?_); conv => whnf)
          refine call_is goesOK ?_
          conv => whnf
          repeat ((first | with_reducible refine branch_true rfl ?_ | with_reducible refine branch_false rfl ?_); conv => whnf)
          rfl
  · have g3 : n ≤ 1100 := by have := of_decide_eq_false g1; omega
    conv => whnf
    repeat ((first | with_reducible refine branch_true rfl ?_ | with_reducible refine branch_false rfl ?_); conv => whnf)
    refine branch_false (decide_eq_false (by omega)) ?_
    have hn : n ≤ 100000 := by omega
    conv => whnf
    repeat ((first | with_reducible refine branch_true rfl ?_ | with_reducible refine branch_false rfl ?_); conv => whnf)
    refine call_by (flowOwn fl n hn) ⟨_, fun i => if i < n then encF (fl i) else encF behindF, rfl, fun i hi => by simp [hi], by simp⟩ ?_
    rintro r ⟨g, rfl, k1, k2⟩
    conv => whnf
    repeat ((first | with_reducible refine branch_true rfl ?_ | with_reducible refine branch_false rfl ?_); conv => whnf)
    have hU := ok_same (.cons (.wide (n := n) (m := n + 1) k1) .nil) (flowNetU fl n ks hr hp)
    refine call_by hU ?_ ?_
    · by_cases e : netE fl n ks = 0
      · exact ⟨_, .inl ⟨e, _, _, rfl, flowsAt_self _⟩⟩
      · exact ⟨_, .inr ⟨e, fun _ => .undef, rfl⟩⟩
    rintro r (⟨e, len, gn, rfl, hf⟩ | ⟨e, gn, rfl⟩)
    · have hl0 := hf.1
      have hR := refNet fl n ks hr hp
      rw [netL, if_pos e, e] at hR
      conv => whnf
      repeat ((first | with_reducible refine branch_true rfl ?_ | with_reducible refine branch_false rfl ?_); conv => whnf)
      refine call_by hR ⟨_, _, _, rfl, flowsAt_self _⟩ ?_
      rintro r ⟨len2, g2, rfl, hf2⟩
      obtain rfl : len2 = len := hf2.1.trans hf.1.symm
      conv => whnf
      repeat ((first | with_reducible refine branch_true rfl ?_ | with_reducible refine branch_false rfl ?_); conv => whnf)
      refine force_by (lend_row gn) ?_
      conv => whnf
      repeat ((first | with_reducible refine branch_true rfl ?_ | with_reducible refine branch_false rfl ?_); conv => whnf)
      have hf' : FlowsAt _ len2 (fun j => gn (0 + j)) := ⟨hf.1, fun j f hj => by show gn (0 + j) = _; rw [Nat.zero_add]; exact hf.2 j f hj⟩
      refine call_is (same_at hf' hf2 (by first | omega | simp)) ?_
      conv => whnf
      repeat ((first | with_reducible refine branch_true rfl ?_ | with_reducible refine branch_false rfl ?_); conv => whnf)
      refine call_is (ok_same (.cons (.wide k1) .nil) (check fl n)) ?_
      conv => whnf
      repeat ((first | with_reducible refine branch_true rfl ?_ | with_reducible refine branch_false rfl ?_); conv => whnf)
      refine call_is (refCheck fl n) ?_
      conv => whnf
      repeat ((first | with_reducible refine branch_true rfl ?_ | with_reducible refine branch_false rfl ?_); conv => whnf)
      refine branch_false (by simp) ?_
      conv => whnf
      repeat ((first | with_reducible refine branch_true rfl ?_ | with_reducible refine branch_false rfl ?_); conv => whnf)
      refine call_is (flowKept fl n hn g k1 k2) ?_
      conv => whnf
      repeat ((first | with_reducible refine branch_true rfl ?_ | with_reducible refine branch_false rfl ?_); conv => whnf)
      refine loop_by (cx := cxU) rfl progOK (ι := {x : Nat × (Nat → AV) // x.1 ≤ len2}) (fun x => len2 - x.1.1) (fun x => ⟨[(0, encL fl n), (3, .wide 4 n (n + 1) g), (4, .row 0 4 0 len2), (8, .int .i64 x.1.1)], [.arr 4 len2 x.1.2], [], none⟩) ?_ ⟨⟨0, gn⟩, Nat.zero_le _⟩
      rintro ⟨⟨i, e'⟩, hi⟩ ih
      have hi : i ≤ len2 := hi
      conv => whnf
      repeat ((first | with_reducible refine branch_true rfl ?_ | with_reducible refine branch_false rfl ?_); conv => whnf)
      refine branch_of (fun c1 => ?_) (fun c1 => ?_)
      · have c2 : i < len2 := by
          have := of_decide_eq_true c1
          simp at this; omega
        have hw : IntKind.i64.wrap ((i : Int) + 1) = ((i + 1 : Nat) : Int) := by rw [wrap64 (by omega)]; omega
        conv => whnf
        repeat ((first | with_reducible refine branch_true rfl ?_ | with_reducible refine branch_false rfl ?_); conv => whnf)
        refine st_addr_row (u := 34) (id := 0) (sz := 4) (lo := 0) (len := len2) (n := (i : Int)) rfl rfl rfl rfl rfl (in_range c2) ?_
        conv => whnf
        repeat ((first | with_reducible refine branch_true rfl ?_ | with_reducible refine branch_false rfl ?_); conv => whnf)
        refine st_store_e (id := 0) (sz := 4) (j := 0 + i) (len := len2) (g := e') rfl rfl (by omega) rfl rfl ?_
        conv => whnf
        repeat ((first | with_reducible refine branch_true rfl ?_ | with_reducible refine branch_false rfl ?_); conv => whnf)
        exact loop_to ih ⟨⟨i + 1, _⟩, c2⟩ (show len2 - (i + 1) < len2 - i by omega) (congrArg (fun q => St.mk [(0, encL fl n), (3, .wide 4 n (n + 1) g), (4, .row 0 4 0 len2), (8, .int .i64 q)] [.arr 4 len2 _] [] none) hw)
      · conv => whnf
        repeat ((first | with_reducible refine branch_true rfl ?_ | with_reducible refine branch_false rfl ?_); conv => whnf)
        refine call_is (flowKept fl n hn g k1 k2) ?_
        conv => whnf
        repeat ((first | with_reducible refine branch_true rfl ?_ | with_reducible refine branch_false rfl ?_); conv => whnf)
        refine call_is goesOK ?_
        conv => whnf
        repeat ((first | with_reducible refine branch_true rfl ?_ | with_reducible refine branch_false rfl ?_); conv => whnf)
        rfl
    · have hR := refNet fl n ks hr hp
      have hf : FlowsAt [] 0 gn := ⟨rfl, fun j f hj => by simp at hj⟩
      have hl0 : 0 ≤ 100000 := by omega
      rw [netL, if_neg e] at hR
      conv => whnf
      repeat ((first | with_reducible refine branch_true rfl ?_ | with_reducible refine branch_false rfl ?_); conv => whnf)
      refine call_by hR ⟨_, _, _, rfl, flowsAt_self _⟩ ?_
      rintro r ⟨len2, g2, rfl, hf2⟩
      obtain rfl : len2 = 0 := hf2.1
      conv => whnf
      repeat ((first | with_reducible refine branch_true rfl ?_ | with_reducible refine branch_false rfl ?_); conv => whnf)
      have hf' : FlowsAt _ 0 (fun j => gn (0 + j)) := ⟨hf.1, fun j f hj => by show gn (0 + j) = _; rw [Nat.zero_add]; exact hf.2 j f hj⟩
      refine call_is (same_at hf' hf2 (by first | omega | simp)) ?_
      conv => whnf
      repeat ((first | with_reducible refine branch_true rfl ?_ | with_reducible refine branch_false rfl ?_); conv => whnf)
      refine branch_false (by simp) ?_
      conv => whnf
      repeat ((first | with_reducible refine branch_true rfl ?_ | with_reducible refine branch_false rfl ?_); conv => whnf)
      refine call_is (ok_same (.cons (.wide k1) .nil) (check fl n)) ?_
      conv => whnf
      repeat ((first | with_reducible refine branch_true rfl ?_ | with_reducible refine branch_false rfl ?_); conv => whnf)
      refine call_is (refCheck fl n) ?_
      conv => whnf
      repeat ((first | with_reducible refine branch_true rfl ?_ | with_reducible refine branch_false rfl ?_); conv => whnf)
      refine branch_false (by simp) ?_
      conv => whnf
      repeat ((first | with_reducible refine branch_true rfl ?_ | with_reducible refine branch_false rfl ?_); conv => whnf)
      refine call_is (flowKept fl n hn g k1 k2) ?_
      conv => whnf
      repeat ((first | with_reducible refine branch_true rfl ?_ | with_reducible refine branch_false rfl ?_); conv => whnf)
      refine loop_by (cx := cxU) rfl progOK (ι := {x : Nat × (Nat → AV) // x.1 ≤ 0}) (fun x => 0 - x.1.1) (fun x => ⟨[(0, encL fl n), (3, .wide 4 n (n + 1) g), (4, .row 0 4 0 0), (8, .int .i64 x.1.1)], [.arr 4 0 x.1.2], [], none⟩) ?_ ⟨⟨0, gn⟩, Nat.zero_le _⟩
      rintro ⟨⟨i, e'⟩, hi⟩ ih
      have hi : i ≤ 0 := hi
      conv => whnf
      repeat ((first | with_reducible refine branch_true rfl ?_ | with_reducible refine branch_false rfl ?_); conv => whnf)
      refine call_is (flowKept fl n hn g k1 k2) ?_
      conv => whnf
      repeat ((first | with_reducible refine branch_true rfl ?_ | with_reducible refine branch_false rfl ?_); conv => whnf)
      refine call_is goesOK ?_
      conv => whnf
      repeat ((first | with_reducible refine branch_true rfl ?_ | with_reducible refine branch_false rfl ?_); conv => whnf)
      rfl
end Go.Proofs

