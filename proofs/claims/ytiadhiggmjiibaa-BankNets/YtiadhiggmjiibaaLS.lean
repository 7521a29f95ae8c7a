import Derived.Test.YtiadhiggmjiibaaLR
import Derived.Test.YtiadhiggmjiibaaLQ
import Derived.Test.YtiadhiggmjiibaaAxRow
set_option linter.unusedVariables false
set_option linter.unusedSimpArgs false
namespace Go.Proofs.Fw
open Ax Go Go.Proofs
set_option maxRecDepth 10000
/-- All keys of some names. -/
def pairsOf (ns : List ByteArray) : List Key := (List.range (8 * ns.length)).map fun t => (ns.getD (t / 8) ByteArray.empty, ((t % 8 : Nat) : Int))
theorem pairs_at {ns : List ByteArray} {i c : Nat} {m : ByteArray} (hi : ns[i]? = some m) (hc : c < 8) : (pairsOf ns)[8 * i + c]? = some (m, (c : Int)) := by
  have h1 := (List.getElem?_eq_some_iff.1 hi).1
  unfold pairsOf
  rw [List.getElem?_map, List.getElem?_range (by omega)]
  simp only [Option.map_some]
  rw [show (8 * i + c) / 8 = i by omega, show (8 * i + c) % 8 = c by omega, List.getD, hi]; rfl
theorem pairs_len (ns : List ByteArray) : (pairsOf ns).length = 8 * ns.length := by simp [pairsOf]
theorem pairs_rise {ns : List ByteArray} (h : RiseN ns) : RiseK (pairsOf ns) := by
  refine List.pairwise_iff_getElem.2 fun a b ha hb hab => ?_
  rw [pairs_len] at ha hb
  obtain ⟨m, hm⟩ : ∃ m, ns[a / 8]? = some m := ⟨_, List.getElem?_eq_getElem (by omega)⟩
  obtain ⟨m', hm'⟩ : ∃ m, ns[b / 8]? = some m := ⟨_, List.getElem?_eq_getElem (by omega)⟩
  have e1 := pairs_at hm (show a % 8 < 8 by omega)
  have e2 := pairs_at hm' (show b % 8 < 8 by omega)
  rw [show 8 * (a / 8) + a % 8 = a by omega] at e1
  rw [show 8 * (b / 8) + b % 8 = b by omega] at e2
  obtain ⟨_, e1⟩ := List.getElem?_eq_some_iff.1 e1
  obtain ⟨_, e2⟩ := List.getElem?_eq_some_iff.1 e2
  rw [e1, e2, cmpK_lt]
  rcases Nat.lt_or_ge (a / 8) (b / 8) with h3 | h3
  · left
    obtain ⟨q1, q2⟩ := List.getElem?_eq_some_iff.1 hm
    obtain ⟨q3, q4⟩ := List.getElem?_eq_some_iff.1 hm'
    have := List.pairwise_iff_getElem.1 h (a / 8) (b / 8) q1 q3 h3
    rw [q2, q4] at this
    exact this
  · right
    have h4 : a / 8 = b / 8 := by omega
    rw [h4, hm'] at hm
    exact ⟨(Option.some.inj hm).symm, by simp only; omega⟩
theorem pairs_mem {ns : List ByteArray} {k : Key} (h1 : k.1 ∈ ns) (h2 : curOK k.2 = true) : k ∈ pairsOf ns := by
  obtain ⟨i, hi⟩ := List.getElem?_of_mem h1
  have h3 : 0 ≤ k.2 ∧ k.2 < 8 := by simpa [curOK] using h2
  have := List.mem_of_getElem? (pairs_at hi (show k.2.toNat < 8 by omega))
  rw [show ((k.2.toNat : Nat) : Int) = k.2 by omega] at this
  exact this
section
variable {fl : Nat → Fl} {n : Nat} {ks : List Key} {ns : List ByteArray}
theorem tot_none {k : Key} (h : k ∉ keysF fl n) : totK k fl n = 0 := by
  rw [totK, tot]
  have : sel (selP false k.1 k.2) fl n = [] := selK_none h
  rw [this]; rfl
variable (hr : RiseK ks) (hp : ks.Perm (keysF fl n)) (hns : RiseN ns) (hm : ∀ m, m ∈ ns ↔ ∃ j, j < n ∧ (fl j).m = m) (hc : checkE fl n = 0)
open Classical in
include hr hp hns hm hc in
theorem pairs_keys : (pairsOf ns).filter (fun k => decide (k ∈ keysF fl n)) = ks := by
  refine rise_eq (List.Pairwise.filter _ (pairs_rise hns)) hr ?_
  rw [List.perm_ext_iff_of_nodup (rise_nodup (List.Pairwise.filter _ (pairs_rise hns))) (rise_nodup hr)]
  intro k
  rw [List.mem_filter, decide_eq_true_eq, hp.mem_iff]
  refine ⟨fun h => h.2, fun h => ⟨?_, h⟩⟩
  obtain ⟨f, hf, rfl⟩ := mem_keysL.1 h
  obtain ⟨j, hj, rfl⟩ := mem_toL.1 hf
  obtain ⟨_, c2, _⟩ := chk_split.1 ((checkE_zero.1 hc).2 _ hf)
  exact pairs_mem ((hm _).2 ⟨j, hj, rfl⟩) c2
open Classical in
include hr hp hns hm hc in
theorem pairs_net : netF fl n (pairsOf ns) = netF fl n ks ∧ netOK fl n (pairsOf ns) = netOK fl n ks := by
  have e := pairs_keys hr hp hns hm hc
  have : ∀ l : List Key, netF fl n l = netF fl n (l.filter fun k => decide (k ∈ keysF fl n)) ∧ netOK fl n l = netOK fl n (l.filter fun k => decide (k ∈ keysF fl n)) := by
    intro l
    induction l with
    | nil => exact ⟨rfl, rfl⟩
    | cons k r ih =>
      rw [List.filter_cons]
      by_cases h : k ∈ keysF fl n
      · rw [if_pos (decide_eq_true h)]
        refine ⟨?_, ?_⟩
        · have := ih.1
          unfold netF at this ⊢
          rw [List.filterMap_cons, List.filterMap_cons, this]
        · have := ih.2
          unfold netOK at this ⊢
          rw [List.all_cons, List.all_cons, this]
      · have hz := tot_none h
        rw [if_neg (by simp [h])]
        refine ⟨?_, ?_⟩
        · rw [← ih.1]
          unfold netF
          rw [List.filterMap_cons]
          simp [hz]
        · rw [← ih.2]
          unfold netOK
          rw [List.all_cons, hz]; rfl
  have := this (pairsOf ns)
  rw [e] at this
  exact this
end
structure RnHd (fl : Nat → Fl) (n : Nat) (ns : List ByteArray) where
  i : Nat
  len : Nat
  g : Nat → AV
  hi : i ≤ ns.length
  hf : FlowsAt (netF fl n ((pairsOf ns).take (8 * i))) len g
  ho : ∀ k ∈ (pairsOf ns).take (8 * i), fitsI (totK k fl n) = true
structure RnHi (fl : Nat → Fl) (n : Nat) (ns : List ByteArray) (i : Nat) where
  c : Nat
  len : Nat
  g : Nat → AV
  hc : c ≤ 8
  hf : FlowsAt (netF fl n ((pairsOf ns).take (8 * i + c))) len g
  ho : ∀ k ∈ (pairsOf ns).take (8 * i + c), fitsI (totK k fl n) = true
theorem exists_names (fl : Nat → Fl) (n : Nat) : ∃ ns : List ByteArray, RiseN ns ∧ ∀ m, m ∈ ns ↔ ∃ j, j < n ∧ (fl j).m = m := by
  induction n with
  | zero => exact ⟨[], List.Pairwise.nil, fun m => by simp⟩
  | succ n ih =>
    obtain ⟨l, h1, h2⟩ := ih
    have step : ∀ m, (m ∈ l ∨ m = (fl n).m) ↔ ∃ j, j < n + 1 ∧ (fl j).m = m := by
      intro m
      rw [h2]
      constructor
      · rintro (⟨j, a, b⟩ | h)
        · exact ⟨j, by omega, b⟩
        · exact ⟨n, by omega, h.symm⟩
      · rintro ⟨j, a, b⟩
        rcases Nat.lt_or_ge j n with h3 | h3
        · exact .inl ⟨j, h3, b⟩
        · obtain rfl : j = n := by omega
          exact .inr b.symm
    by_cases h : (fl n).m ∈ l
    · exact ⟨l, h1, fun m => by rw [← step]; exact ⟨.inl, fun e => e.elim id fun e => e ▸ h⟩⟩
    · have ex : ∀ r : List ByteArray, RiseN r → (fl n).m ∉ r → ∃ t, RiseN t ∧ ∀ m, m ∈ t ↔ m ∈ r ∨ m = (fl n).m := by
        intro r
        induction r with
        | nil => exact fun _ _ => ⟨[(fl n).m], List.pairwise_singleton _ _, fun m => by simp⟩
        | cons a r ihr =>
          intro hr hn
          have hna : a ≠ (fl n).m := fun e => hn (e ▸ List.mem_cons_self)
          cases hlt : strLt (fl n).m a with
          | true =>
            refine ⟨(fl n).m :: a :: r, List.pairwise_cons.2 ⟨fun b hb => ?_, hr⟩, fun m => by simp [or_comm]⟩
            rcases List.mem_cons.1 hb with rfl | hb
            · exact hlt
            · exact strLt_tr hlt ((List.pairwise_cons.1 hr).1 b hb)
          | false =>
            obtain ⟨t, ht, hm⟩ := ihr (List.pairwise_cons.1 hr).2 (fun e => hn (List.mem_cons_of_mem _ e))
            refine ⟨a :: t, List.pairwise_cons.2 ⟨fun b hb => ?_, ht⟩, fun m => by rw [List.mem_cons, hm, List.mem_cons]; exact or_assoc.symm⟩
            rcases (hm b).1 hb with hb | rfl
            · exact (List.pairwise_cons.1 hr).1 b hb
            · exact strLt_tri hlt (Ne.symm hna)
      obtain ⟨t, ht, hm⟩ := ex l h1 h
      exact ⟨t, ht, fun m => by rw [hm, step]⟩
theorem refNet (fl : Nat → Fl) (n : Nat) (ks : List Key) (hr : RiseK ks) (hp : ks.Perm (keysF fl n)) : CallOK Try.prog 29 [encL fl n] (fun r => ∃ len g, r = .tup [.vec 4 len g, .int .i64 (netE fl n ks)] ∧ FlowsAt (netL fl n ks) len g) := by
  refine okM ?_
  conv => whnf
  repeat ((first | with_reducible refine branch_true rfl ?_ | with_reducible refine branch_false rfl ?_); conv => whnf)
  refine call_is (refCheck fl n) ?_
  conv => whnf
  repeat ((first | with_reducible refine branch_true rfl ?_ | with_reducible refine branch_false rfl ?_); conv => whnf)
  refine branch_of (fun h1 => ?_) (fun h1 => ?_)
  · have h1 : checkE fl n ≠ 0 := by simpa using h1
    conv => whnf
    repeat ((first | with_reducible refine branch_true rfl ?_ | with_reducible refine branch_false rfl ?_); conv => whnf)
    have e : netE fl n ks = checkE fl n := by rw [netE, if_pos h1]
    exact ⟨0, _, congrArg (fun q => AV.tup [AV.vec 4 0 _, AV.int .i64 q]) e.symm, by rw [netL, if_neg (by rw [e]; exact h1)]; exact ⟨rfl, fun j f hj => by simp at hj⟩⟩
  · have h1 : checkE fl n = 0 := by simpa using h1
    obtain ⟨hn, hall⟩ := check_ok h1
    obtain ⟨ns, hns, hm⟩ := exists_names fl n
    have hnl := mem_len hns (fun m h => (hm m).1 h)
    obtain ⟨pn1, pn2⟩ := pairs_net hr hp hns hm h1
    conv => whnf
    repeat ((first | with_reducible refine branch_true rfl ?_ | with_reducible refine branch_false rfl ?_); conv => whnf)
    refine call_by (members fl n hn ns hns hm) ⟨_, _, fun i => .str (ns.getD i ByteArray.empty), rfl, rfl, fun j f hj => by simp only [List.getD, hj]; rfl⟩ ?_
    rintro r ⟨nl, ng, rfl, hng⟩
    have hnl0 := hng.1
    conv => whnf
    repeat ((first | with_reducible refine branch_true rfl ?_ | with_reducible refine branch_false rfl ?_); conv => whnf)
    refine loop_by (cx := cxM) rfl progOK (ι := RnHd fl n ns) (fun x => ns.length - x.i) (fun x => ⟨[(0, encL fl n), (5, .vec 1 nl ng), (6, .own (.vec 4 x.len x.g)), (7, .int .i64 x.i)], [], [], none⟩) ?_ ⟨0, 0, _, Nat.zero_le _, ⟨by simp [netF], fun j f hj => by simp [netF] at hj⟩, by simp⟩
    rintro ⟨i, len, g, hi, hf, ho⟩ ih
    conv => whnf
    repeat ((first | with_reducible refine branch_true rfl ?_ | with_reducible refine branch_false rfl ?_); conv => whnf)
    refine branch_of (fun g1 => ?_) (fun g1 => ?_)
    · have g2 : i < ns.length := by
        have := of_decide_eq_true g1
        simp at this; omega
      have hw : IntKind.i64.wrap ((i : Int) + 1) = ((i + 1 : Nat) : Int) := by rw [wrap64 (by omega)]; omega
      obtain ⟨m, hmi⟩ : ∃ m, ns[i]? = some m := ⟨_, List.getElem?_eq_getElem g2⟩
      conv => whnf
      repeat ((first | with_reducible refine branch_true rfl ?_ | with_reducible refine branch_false rfl ?_); conv => whnf)
      refine loop_by (cx := cxM) rfl progOK (ι := RnHi fl n ns i) (fun x => 8 - x.c) (fun x => ⟨[(0, encL fl n), (5, .vec 1 nl ng), (6, .own (.vec 4 x.len x.g)), (7, .int .i64 i), (8, .int .i64 x.c)], [], [], none⟩) ?_ ⟨0, len, g, by omega, by rw [Nat.add_zero]; exact hf, by rw [Nat.add_zero]; exact ho⟩
      rintro ⟨c, len, g, hc, hf, ho⟩ ih2
      have hfl := hf.1
      have hfl2 := netF_len fl n ((pairsOf ns).take (8 * i + c))
      have hfl3 := List.length_take_le (8 * i + c) (pairsOf ns)
      conv => whnf
      repeat ((first | with_reducible refine branch_true rfl ?_ | with_reducible refine branch_false rfl ?_); conv => whnf)
      refine branch_of (fun g3 => ?_) (fun g3 => ?_)
      · have g4 : c < 8 := by
          have := of_decide_eq_true g3
          simp at this; omega
        have hw2 : IntKind.i64.wrap ((c : Int) + 1) = ((c + 1 : Nat) : Int) := by rw [wrap64 (by omega)]; omega
        have hk := pairs_at hmi g4
        have htk := take_snoc hk
        have hlen := sel_len (selP false m (c : Int)) fl n
        conv => whnf
        repeat ((first | with_reducible refine branch_true rfl ?_ | with_reducible refine branch_false rfl ?_); conv => whnf)
        refine st_addr_v (sz := 1) (len := nl) (n := (i : Int)) (u := 9) (v := .str m) rfl rfl rfl rfl rfl (in_range (by omega)) (hng.2 i m hmi) ?_
        conv => whnf
        repeat ((first | with_reducible refine branch_true rfl ?_ | with_reducible refine branch_false rfl ?_); conv => whnf)
        refine call_by (having fl n hn false m (c : Int)) ⟨_, _, rfl, fun i hi => rfl⟩ ?_
        rintro r ⟨gs, rfl, hgs⟩
        conv => whnf
        repeat ((first | with_reducible refine branch_true rfl ?_ | with_reducible refine branch_false rfl ?_); conv => whnf)
        have hS := ok_same (.cons (.vec hgs) .nil) (refSum (fun i => (sel (selP false m (c : Int)) fl n).getD i 0) _ (by omega) (sel_fits hall))
        have hT : sumZ (fun i => (sel (selP false m (c : Int)) fl n).getD i 0) (sel (selP false m (c : Int)) fl n).length = totK (m, (c : Int)) fl n := rfl
        cases hfit : fitsI (totK (m, (c : Int)) fl n) with
        | true =>
          rw [hT, refSumR, hfit] at hS
          refine call_is (v := .tup [.int .i64 (totK (m, (c : Int)) fl n), .bool true]) hS ?_
          have ho2 : ∀ k ∈ (pairsOf ns).take (8 * i + (c + 1)), fitsI (totK k fl n) = true := by
            intro k' hk'
            rw [← Nat.add_assoc, htk, List.mem_append, List.mem_singleton] at hk'
            rcases hk' with hk' | rfl
            · exact ho k' hk'
            · exact hfit
          conv => whnf
          repeat ((first | with_reducible refine branch_true rfl ?_ | with_reducible refine branch_false rfl ?_); conv => whnf)
          refine branch_of (fun g5 => ?_) (fun g5 => ?_)
          · have g5 : totK (m, (c : Int)) fl n ≠ 0 := by simpa using g5
            conv => whnf
            repeat ((first | with_reducible refine branch_true rfl ?_ | with_reducible refine branch_false rfl ?_); conv => whnf)
            refine st_addr_v (sz := 1) (len := nl) (n := (i : Int)) (u := 9) (v := .str m) rfl rfl rfl rfl rfl (in_range (by omega)) (hng.2 i m hmi) ?_
            conv => whnf
            repeat ((first | with_reducible refine branch_true rfl ?_ | with_reducible refine branch_false rfl ?_); conv => whnf)
            refine st_append (sz := 4) (len := len) (g := g) (u := 38) (m := 1) (gg := vlist (zeroElem Try.prog 38) [encF ⟨m, c, totK (m, (c : Int)) fl n, 0⟩]) rfl rfl rfl rfl rfl (room40 (by omega)) ?_
            conv => whnf
            repeat ((first | with_reducible refine branch_true rfl ?_ | with_reducible refine branch_false rfl ?_); conv => whnf)
            refine loop_to ih2 ⟨c + 1, len + 1, _, g4, ?_, ho2⟩ (show 8 - (c + 1) < 8 - c by omega) (congrArg (fun q => St.mk [(0, encL fl n), (5, .vec 1 nl ng), (6, .own (.vec 4 (len + 1) _)), (7, .int .i64 i), (8, .int .i64 q)] [] [] none) hw2)
            rw [← Nat.add_assoc, htk, netF_snoc g5]
            exact flowsAt_snoc hf rfl
          · have g5 : totK (m, (c : Int)) fl n = 0 := by simpa using g5
            conv => whnf
            repeat ((first | with_reducible refine branch_true rfl ?_ | with_reducible refine branch_false rfl ?_); conv => whnf)
            refine loop_to ih2 ⟨c + 1, len, g, g4, ?_, ho2⟩ (show 8 - (c + 1) < 8 - c by omega) (congrArg (fun q => St.mk [(0, encL fl n), (5, .vec 1 nl ng), (6, .own (.vec 4 len g)), (7, .int .i64 i), (8, .int .i64 q)] [] [] none) hw2)
            rw [← Nat.add_assoc, htk, netF_snoc_zero g5]
            exact hf
        | false =>
          rw [hT, refSumR, hfit] at hS
          refine call_is (v := .tup [.int .i64 0, .bool false]) hS ?_
          conv => whnf
          repeat ((first | with_reducible refine branch_true rfl ?_ | with_reducible refine branch_false rfl ?_); conv => whnf)
          have hno : netOK fl n ks = false := by rw [← pn2]; exact List.all_eq_false.2 ⟨_, List.mem_of_getElem? hk, by simp [hfit]⟩
          have e : netE fl n ks = 3 := by rw [netE, if_neg (by simp [h1]), hno]; rfl
          exact ⟨0, _, congrArg (fun q => AV.tup [AV.vec 4 0 _, AV.int .i64 q]) e.symm, by rw [netL, if_neg (by simp [e])]; exact ⟨rfl, fun j f hj => by simp at hj⟩⟩
      · have g4 : c = 8 := by
          have := of_decide_eq_false g3
          simp at this
          have hc : c ≤ 8 := hc
          omega
        subst g4
        conv => whnf
        repeat ((first | with_reducible refine branch_true rfl ?_ | with_reducible refine branch_false rfl ?_); conv => whnf)
        exact loop_to ih ⟨i + 1, len, g, g2, by rw [Nat.mul_add]; exact hf, by rw [Nat.mul_add]; exact ho⟩ (show ns.length - (i + 1) < ns.length - i by omega) (congrArg (fun q => St.mk [(0, encL fl n), (5, .vec 1 nl ng), (6, .own (.vec 4 len g)), (7, .int .i64 q)] [] [] none) hw)
    · have g2 : i = ns.length := by
        have := of_decide_eq_false g1
        simp at this
        have hi : i ≤ ns.length := hi
        omega
      subst g2
      conv => whnf
      repeat ((first | with_reducible refine branch_true rfl ?_ | with_reducible refine branch_false rfl ?_); conv => whnf)
      rw [← pairs_len, List.take_length] at hf ho
      have hyes : netOK fl n ks = true := by rw [← pn2]; exact List.all_eq_true.2 ho
      have e : netE fl n ks = 0 := by rw [netE, if_neg (by simp [h1]), hyes]; rfl
      exact ⟨len, g, congrArg (fun q => AV.tup [AV.vec 4 len g, AV.int .i64 q]) e.symm, by rw [netL, if_pos e, ← pn1]; exact hf⟩
end Go.Proofs.Fw


set_option linter.unusedVariables false
set_option linter.unusedSimpArgs false
namespace Go.Proofs
open Ax Go
set_option maxRecDepth 10000
def lastId (l : List Py) : Int := bif decide (0 < l.length) then (atP l (l.length - 1)).id else 0
theorem lastId_b {l : List Py} (h : checkL l = 0) : 0 ≤ lastId l ∧ lastId l ≤ 1152921504606846976 := by
  unfold lastId
  by_cases h0 : 0 < l.length
  · rw [decide_eq_true h0, cond_true]
    have := (check_good h).2.1 _ (atP_mem (show l.length - 1 < l.length by omega))
    omega
  · rw [decide_eq_false h0, cond_false]; omega
def newP (id : Int) : List Fw.Fl → List Py
  | [] => []
  | f :: r => ⟨id + 1, f.m, f.c, f.n, 1⟩ :: newP (id + 1) r
theorem newP_len (id : Int) (l : List Fw.Fl) : (newP id l).length = l.length := by
  induction l generalizing id with
  | nil => rfl
  | cons f r ih => simp [newP, ih]
theorem newP_snoc (id : Int) (l : List Fw.Fl) (f : Fw.Fl) : newP id (l ++ [f]) = newP id l ++ [⟨id + l.length + 1, f.m, f.c, f.n, 1⟩] := by
  induction l generalizing id with
  | nil => simp [newP]
  | cons a r ih =>
    rw [List.cons_append, newP, ih, newP, List.cons_append, List.length_cons]
    have : id + 1 + (r.length : Int) + 1 = id + ((r.length + 1 : Nat) : Int) + 1 := by omega
    rw [this]
section
variable (l : List Py) (fl : Nat → Fw.Fl) (n : Nat) (ks : List Key)
def makeS : List Py × Int :=
  bif decide (checkL l ≠ 0) then ([], checkL l) else
  bif decide (Fw.netE fl n ks ≠ 0) then ([], Fw.netE fl n ks) else
  bif decide (1024 < l.length + (Fw.netL fl n ks).length) then ([], 8) else
  bif decide (1152921504606846976 < lastId l + (Fw.netL fl n ks).length) then ([], 2) else
  (l ++ newP (lastId l) (Fw.netL fl n ks), 0)
end
def MakeR (p : List Py × Int) (r : AV) : Prop :=
  (p.2 = 0 ∧ ∃ len g, r = .tup [.uni (.vec 5 len g), .int .i64 0] ∧ PaysAt p.1 len g) ∨ (p.2 ≠ 0 ∧ p.1 = [] ∧ ∃ g, r = .tup [.own (.vec 5 0 g), .int .i64 p.2])
theorem make_bad {p : List Py × Int} {e : Int} {g : Nat → AV} (h : p = ([], e)) (he : e ≠ 0) : MakeR p (.tup [.own (.vec 5 0 g), .int .i64 e]) := by
  subst h; exact .inr ⟨he, rfl, g, rfl⟩
theorem makeR_some (p : List Py × Int) (h : p.2 ≠ 0 → p.1 = []) : ∃ r, MakeR p r := by
  by_cases h2 : p.2 = 0
  · exact ⟨_, .inl ⟨h2, _, _, rfl, paysAt_self _⟩⟩
  · exact ⟨_, .inr ⟨h2, h h2, fun _ => .undef, rfl⟩⟩
theorem makeS_nil {l : List Py} {fl : Nat → Fw.Fl} {n : Nat} {ks : List Key} (h : (makeS l fl n ks).2 ≠ 0) : (makeS l fl n ks).1 = [] := by
  unfold makeS at h ⊢
  by_cases h1 : checkL l ≠ 0
  · simp [h1]
  · by_cases h2 : Fw.netE fl n ks ≠ 0
    · simp [h1, h2]
    · by_cases h3 : 1024 < l.length + (Fw.netL fl n ks).length
      · simp [h1, h2, h3]
      · by_cases h4 : 1152921504606846976 < lastId l + (Fw.netL fl n ks).length
        · simp [h1, h2, h3, h4]
        · simp [h1, h2, h3, h4] at h
def keepD (f r : Nat) : Option (List Nat) := match f, r with
  | 9, 15 => some [4, 5, 7, 42, 43, 44]
  | _, _ => none
def keepXD (f r : Nat) : Option (List Nat) := match f, r with
  | 9, 15 => some [4, 5]
  | _, _ => none
def xfD (f r o : Nat) : Bool := match f, r, o with
  | 9, 18, 0 => true
  | 9, 22, 0 => true
  | _, _, _ => false
noncomputable def cxD : Ctx where
  P := Try.prog
  inl := fun _ => false
  keep := keepD
  keepX := keepXD
  xf := xfD
  ow := fun f => Nat.beq f 9
  gh := fun _ _ => []
  gf := fun _ => []
  ln := fun _ => false
  srt := srtT
theorem flowsAt_self (L : List Fw.Fl) : Fw.FlowsAt L L.length fun j => Fw.encF (Fw.flOf L j) := by
  refine ⟨rfl, fun j f hj => ?_⟩
  show Fw.encF (Fw.flOf L j) = Fw.encF f
  unfold Fw.flOf
  rw [List.getD, hj]; rfl
theorem Fw.take_snocF {L : List Fw.Fl} {i : Nat} {f : Fw.Fl} (h : L[i]? = some f) : L.take (i + 1) = L.take i ++ [f] := by
  rw [List.take_add_one, h]; rfl
/-- What stands at the head of the loop over what is to be paid. -/
structure MkHd (l : List Py) (net : List Fw.Fl) where
  i : Nat
  len : Nat
  g : Nat → AV
  hi : i ≤ net.length
  hg : PaysAt (l ++ newP (lastId l) (net.take i)) len g
  hm : lastId l + i ≤ 1152921504606846976
theorem make (l : List Py) (fl : Nat → Fw.Fl) (n : Nat) (ks : List Key) (hr : RiseK ks) (hp : ks.Perm (Fw.keysF fl n)) : CallOK Try.prog 9 [encL l, Fw.encL fl n] (MakeR (makeS l fl n ks)) := by
  refine okD (cx := cxD) (calm := calmT) rfl progOK (f := 9) (fn := Try.f9) Try.func9 rfl rfl rfl rfl (by decide) rfl rfl rfl ?_
  conv => whnf
  repeat ((first | with_reducible refine branch_true rfl ?_ | with_reducible refine branch_false rfl ?_); conv => whnf)
  refine call_is (check l) ?_
  conv => whnf
  repeat ((first | with_reducible refine branch_true rfl ?_ | with_reducible refine branch_false rfl ?_); conv => whnf)
  refine branch_of (fun h1 => ?_) (fun h1 => ?_)
  · have h1 : checkL l ≠ 0 := by simpa using h1
    have bad : ∀ {g : Nat → AV}, MakeR (makeS l fl n ks) (.tup [.own (.vec 5 0 g), .int .i64 (checkL l)]) := make_bad (by simp [makeS, h1]) h1
    conv => whnf
    repeat ((first | with_reducible refine branch_true rfl ?_ | with_reducible refine branch_false rfl ?_); conv => whnf)
    intro i hi
    replace hi : i < 2 := hi
    rcases (by omega : i = 0 ∨ i = 1) with rfl | rfl
    · conv => whnf
      repeat ((first | with_reducible refine branch_true rfl ?_ | with_reducible refine branch_false rfl ?_); conv => whnf)
      refine branch_of (fun g => ?_) (fun g => ?_)
      · conv => whnf
        repeat ((first | with_reducible refine branch_true rfl ?_ | with_reducible refine branch_false rfl ?_); conv => whnf)
        exact bad
      · exact absurd g (by simpa using h1)
    · conv => whnf
      repeat ((first | with_reducible refine branch_true rfl ?_ | with_reducible refine branch_false rfl ?_); conv => whnf)
      refine branch_of (fun g => ?_) (fun g => ?_)
      · conv => whnf
        repeat ((first | with_reducible refine branch_true rfl ?_ | with_reducible refine branch_false rfl ?_); conv => whnf)
        exact bad
      · exact absurd g (by simpa using h1)
  · have h1 : checkL l = 0 := by simpa using h1
    have hln := (check_good h1).1
    have hlb := lastId_b h1
    have hnk : (Fw.netL fl n ks).length ≤ 1024 := by
      unfold Fw.netL
      split
      · rename_i h
        have h2 := Fw.netF_len fl n ks
        have h3 := hp.length_eq
        have h4 := Fw.keysF_len fl n
        have h5 := (Fw.check_ok (Fw.netE_zero.1 h).1).1
        omega
      · simp
    conv => whnf
    repeat ((first | with_reducible refine branch_true rfl ?_ | with_reducible refine branch_false rfl ?_); conv => whnf)
    refine call_by (Fw.flowNet fl n ks hr hp) ⟨_, _, _, rfl, flowsAt_self _⟩ ?_
    rintro r ⟨nl, ng, rfl, hng⟩
    have hnl := hng.1
    generalize hne : Fw.netE fl n ks = ne
    generalize hnt : Fw.netL fl n ks = net at hng hnl hnk
    conv => whnf
    repeat ((first | with_reducible refine branch_true rfl ?_ | with_reducible refine branch_false rfl ?_); conv => whnf)
    refine branch_of (fun h2 => ?_) (fun h2 => ?_)
    · have h2 : ne ≠ 0 := by simpa using h2
      have bad : ∀ {g : Nat → AV}, MakeR (makeS l fl n ks) (.tup [.own (.vec 5 0 g), .int .i64 ne]) := make_bad (by simp [makeS, h1, hne, h2]) h2
      conv => whnf
      repeat ((first | with_reducible refine branch_true rfl ?_ | with_reducible refine branch_false rfl ?_); conv => whnf)
      intro i hi
      replace hi : i < 2 := hi
      rcases (by omega : i = 0 ∨ i = 1) with rfl | rfl
      · conv => whnf
        repeat ((first | with_reducible refine branch_true rfl ?_ | with_reducible refine branch_false rfl ?_); conv => whnf)
        refine branch_of (fun g => ?_) (fun g => ?_)
        · conv => whnf
          repeat ((first | with_reducible refine branch_true rfl ?_ | with_reducible refine branch_false rfl ?_); conv => whnf)
          exact bad
        · exact absurd g (by simpa using h2)
      · conv => whnf
        repeat ((first | with_reducible refine branch_true rfl ?_ | with_reducible refine branch_false rfl ?_); conv => whnf)
        refine branch_of (fun g => ?_) (fun g => ?_)
        · conv => whnf
          repeat ((first | with_reducible refine branch_true rfl ?_ | with_reducible refine branch_false rfl ?_); conv => whnf)
          exact bad
        · exact absurd g (by simpa using h2)
    · have h2 : ne = 0 := by simpa using h2
      have hw1 : IntKind.i64.wrap ((l.length : Int) + (nl : Int)) = ((l.length + nl : Nat) : Int) := by rw [wrap64 (by omega)]; omega
      conv => whnf
      repeat ((first | with_reducible refine branch_true rfl ?_ | with_reducible refine branch_false rfl ?_); conv => whnf)
      refine branch_of (fun h3 => ?_) (fun h3 => ?_)
      · have h3 : 1024 < l.length + net.length := by
          have h3 : 1024 < IntKind.i64.wrap ((l.length : Int) + (nl : Int)) := of_decide_eq_true h3
          rw [hw1] at h3; omega
        conv => whnf
        repeat ((first | with_reducible refine branch_true rfl ?_ | with_reducible refine branch_false rfl ?_); conv => whnf)
        exact make_bad (by simp [makeS, h1, hne, h2, hnt, h3]) (by decide)
      · have h3 : ¬ 1024 < l.length + net.length := by
          have h3 : ¬ 1024 < IntKind.i64.wrap ((l.length : Int) + (nl : Int)) := of_decide_eq_false h3
          rw [hw1] at h3; omega
        have hS : makeS l fl n ks = bif decide (1152921504606846976 < lastId l + net.length) then ([], 2) else (l ++ newP (lastId l) net, 0) := by
          simp only [makeS, h1, hne, h2, hnt, decide_eq_false h3]; rfl
        conv => whnf
        repeat ((first | with_reducible refine branch_true rfl ?_ | with_reducible refine branch_false rfl ?_); conv => whnf)
        refine branch_of (fun h4 => ?_) (fun h4 => ?_)
        · have h4 : 0 < l.length := by have := of_decide_eq_true h4; omega
          have e : lastId l = (atP l (l.length - 1)).id := by rw [lastId, decide_eq_true h4]; rfl
          have hw : IntKind.i64.wrap ((l.length : Int) - 1) = ((l.length - 1 : Nat) : Int) := by rw [wrap64 (by omega)]; omega
          conv => whnf
          repeat ((first | with_reducible refine branch_true rfl ?_ | with_reducible refine branch_false rfl ?_); conv => whnf)
          refine st_addr_v (sz := 5) (len := l.length) (n := IntKind.i64.wrap ((l.length : Int) - 1)) (u := 51) (v := encP (atP l (l.length - 1))) rfl rfl rfl rfl rfl (by rw [hw]; exact in_range (by omega)) (by rw [hw]; rfl) ?_
          conv => whnf
          repeat ((first | with_reducible refine branch_true rfl ?_ | with_reducible refine branch_false rfl ?_); conv => whnf)
          refine call_by (clone l (by omega)) (uniR_some l) ?_
          rintro r ⟨len, g, rfl, hg⟩
          have hlen := hg.1
          conv => whnf
          repeat ((first | with_reducible refine branch_true rfl ?_ | with_reducible refine branch_false rfl ?_); conv => whnf)
          refine loop_start (congrArg (fun q => St.mk [(4, .ptr 0 0), (5, .ptr 1 0), (7, .int .i64 q), (42, .vec 4 nl ng), (43, .int .i64 nl), (44, .int .i64 0)] [.cells [.uni (.vec 5 len g)], .cells [.int .i64 ne]] [] none) (show (atP l (l.length - 1)).id = lastId l + ((0 : Nat) : Int) by rw [e]; omega)) ?_
          refine loop_by (cx := cxD) rfl progOK (ι := MkHd l net) (fun x => net.length - x.i) (fun x => ⟨[(4, .ptr 0 0), (5, .ptr 1 0), (7, .int .i64 (lastId l + x.i)), (42, .vec 4 nl ng), (43, .int .i64 nl), (44, .int .i64 x.i)], [.cells [.uni (.vec 5 x.len x.g)], .cells [.int .i64 ne]], [], none⟩) ?_ ⟨0, len, g, Nat.zero_le _, by simpa [newP] using hg, by omega⟩
          intro x ih
          have hxi := x.hi
          have hxm := x.hm
          have hxl := x.hg.1
          rw [List.length_append, newP_len, List.length_take] at hxl
          conv => whnf
          repeat ((first | with_reducible refine branch_true rfl ?_ | with_reducible refine branch_false rfl ?_); conv => whnf)
          refine branch_of (fun g1 => ?_) (fun g1 => ?_)
          · have g2 : x.i < net.length := by
              have g1 : (x.i : Int) < (nl : Int) := of_decide_eq_true g1
              omega
            have hw : IntKind.i64.wrap ((x.i : Int) + 1) = ((x.i + 1 : Nat) : Int) := by rw [wrap64 (by omega)]; omega
            have hf : net[x.i]? = some (Fw.flOf net x.i) := by
              unfold Fw.flOf
              rw [List.getD, List.getElem?_eq_getElem g2]; rfl
            have hat := hng.2 _ _ hf
            generalize Fw.flOf net x.i = f at hf hat
            conv => whnf
            repeat ((first | with_reducible refine branch_true rfl ?_ | with_reducible refine branch_false rfl ?_); conv => whnf)
            refine st_addr_v (sz := 4) (len := nl) (n := (x.i : Int)) (u := 38) (v := Fw.encF f) rfl rfl rfl rfl rfl (in_range (by omega)) hat ?_
            conv => whnf
            repeat ((first | with_reducible refine branch_true rfl ?_ | with_reducible refine branch_false rfl ?_); conv => whnf)
            refine branch_of (fun g3 => ?_) (fun g3 => ?_)
            · have g3 : lastId l + x.i = 1152921504606846976 := of_decide_eq_true g3
              conv => whnf
              repeat ((first | with_reducible refine branch_true rfl ?_ | with_reducible refine branch_false rfl ?_); conv => whnf)
              exact make_bad (by rw [hS, decide_eq_true (show 1152921504606846976 < lastId l + (net.length : Int) by omega)]; rfl) (by decide)
            · have g3 : ¬ lastId l + x.i = 1152921504606846976 := of_decide_eq_false g3
              have hwi : IntKind.i64.wrap (lastId l + x.i + 1) = lastId l + ((x.i + 1 : Nat) : Int) := by rw [wrap64 (by omega)]; omega
              conv => whnf
              repeat ((first | with_reducible refine branch_true rfl ?_ | with_reducible refine branch_false rfl ?_); conv => whnf)
              refine st_append_uni (sz := 5) (len := x.len) (g := x.g) (u := 51) (m := 1) (gg := vlist (zeroElem Try.prog 51) [encP ⟨IntKind.i64.wrap (lastId l + x.i + 1), f.m, f.c, f.n, 1⟩]) rfl rfl rfl rfl rfl (room56 (by omega)) ?_
              conv => whnf
              repeat ((first | with_reducible refine branch_true rfl ?_ | with_reducible refine branch_false rfl ?_); conv => whnf)
              obtain ⟨y, y1, y2, y3⟩ : ∃ y : MkHd l net, y.i = x.i + 1 ∧ y.len = x.len + 1 ∧ y.g = vapp (zeroElem Try.prog 51) x.g x.len (vlist (zeroElem Try.prog 51) [encP ⟨IntKind.i64.wrap (lastId l + x.i + 1), f.m, f.c, f.n, 1⟩]) 1 := by
                refine ⟨⟨x.i + 1, x.len + 1, _, g2, ?_, by omega⟩, rfl, rfl, rfl⟩
                rw [Fw.take_snocF hf, newP_snoc, ← List.append_assoc]
                refine paysAt_app x.hg (paysAt_one ?_)
                show encP ⟨IntKind.i64.wrap (lastId l + x.i + 1), f.m, f.c, f.n, 1⟩ = _
                rw [hwi, List.length_take, Nat.min_eq_left (by omega), show lastId l + ((x.i + 1 : Nat) : Int) = lastId l + (x.i : Int) + 1 by omega]
              refine loop_to ih y (by omega) ?_
              show St.mk [(4, .ptr 0 0), (5, .ptr 1 0), (7, .int .i64 (IntKind.i64.wrap (lastId l + x.i + 1))), (42, .vec 4 nl ng), (43, .int .i64 nl), (44, .int .i64 (IntKind.i64.wrap ((x.i : Int) + 1)))] [.cells [.uni (.vec 5 (x.len + 1) (vapp (zeroElem Try.prog 51) x.g x.len (vlist (zeroElem Try.prog 51) [encP ⟨IntKind.i64.wrap (lastId l + x.i + 1), f.m, f.c, f.n, 1⟩]) 1))], .cells [.int .i64 ne]] [] none = St.mk [(4, .ptr 0 0), (5, .ptr 1 0), (7, .int .i64 (lastId l + y.i)), (42, .vec 4 nl ng), (43, .int .i64 nl), (44, .int .i64 y.i)] [.cells [.uni (.vec 5 y.len y.g)], .cells [.int .i64 ne]] [] none
              rw [y1, y2, y3, hwi, hw]
          · have g2 : x.i = net.length := by
              have g1 : ¬ (x.i : Int) < (nl : Int) := of_decide_eq_false g1
              omega
            have hend := x.hg
            rw [g2, List.take_length] at hend
            have hS2 : makeS l fl n ks = (l ++ newP (lastId l) net, 0) := by
              rw [hS, decide_eq_false (show ¬ 1152921504606846976 < lastId l + (net.length : Int) by omega)]; rfl
            conv => whnf
            repeat ((first | with_reducible refine branch_true rfl ?_ | with_reducible refine branch_false rfl ?_); conv => whnf)
            rw [hS2]
            exact .inl ⟨rfl, _, _, rfl, hend⟩
        · have h4 : l.length = 0 := by have := of_decide_eq_false h4; omega
          have e : lastId l = 0 := by rw [lastId, decide_eq_false (by omega)]; rfl
          conv => whnf
          repeat ((first | with_reducible refine branch_true rfl ?_ | with_reducible refine branch_false rfl ?_); conv => whnf)
          refine call_by (clone l (by omega)) (uniR_some l) ?_
          rintro r ⟨len, g, rfl, hg⟩
          have hlen := hg.1
          conv => whnf
          repeat ((first | with_reducible refine branch_true rfl ?_ | with_reducible refine branch_false rfl ?_); conv => whnf)
          refine loop_start (congrArg (fun q => St.mk [(4, .ptr 0 0), (5, .ptr 1 0), (7, .int .i64 q), (42, .vec 4 nl ng), (43, .int .i64 nl), (44, .int .i64 0)] [.cells [.uni (.vec 5 len g)], .cells [.int .i64 ne]] [] none) (show (0 : Int) = lastId l + ((0 : Nat) : Int) by rw [e]; omega)) ?_
          refine loop_by (cx := cxD) rfl progOK (ι := MkHd l net) (fun x => net.length - x.i) (fun x => ⟨[(4, .ptr 0 0), (5, .ptr 1 0), (7, .int .i64 (lastId l + x.i)), (42, .vec 4 nl ng), (43, .int .i64 nl), (44, .int .i64 x.i)], [.cells [.uni (.vec 5 x.len x.g)], .cells [.int .i64 ne]], [], none⟩) ?_ ⟨0, len, g, Nat.zero_le _, by simpa [newP] using hg, by omega⟩
          intro x ih
          have hxi := x.hi
          have hxm := x.hm
          have hxl := x.hg.1
          rw [List.length_append, newP_len, List.length_take] at hxl
          conv => whnf
          repeat ((first | with_reducible refine branch_true rfl ?_ | with_reducible refine branch_false rfl ?_); conv => whnf)
          refine branch_of (fun g1 => ?_) (fun g1 => ?_)
          · have g2 : x.i < net.length := by
              have g1 : (x.i : Int) < (nl : Int) := of_decide_eq_true g1
              omega
            have hw : IntKind.i64.wrap ((x.i : Int) + 1) = ((x.i + 1 : Nat) : Int) := by rw [wrap64 (by omega)]; omega
            have hf : net[x.i]? = some (Fw.flOf net x.i) := by
              unfold Fw.flOf
              rw [List.getD, List.getElem?_eq_getElem g2]; rfl
            have hat := hng.2 _ _ hf
            generalize Fw.flOf net x.i = f at hf hat
            conv => whnf
            repeat ((first | with_reducible refine branch_true rfl ?_ | with_reducible refine branch_false rfl ?_); conv => whnf)
            refine st_addr_v (sz := 4) (len := nl) (n := (x.i : Int)) (u := 38) (v := Fw.encF f) rfl rfl rfl rfl rfl (in_range (by omega)) hat ?_
            conv => whnf
            repeat ((first | with_reducible refine branch_true rfl ?_ | with_reducible refine branch_false rfl ?_); conv => whnf)
            refine branch_of (fun g3 => ?_) (fun g3 => ?_)
            · have g3 : lastId l + x.i = 1152921504606846976 := of_decide_eq_true g3
              conv => whnf
              repeat ((first | with_reducible refine branch_true rfl ?_ | with_reducible refine branch_false rfl ?_); conv => whnf)
              exact make_bad (by rw [hS, decide_eq_true (show 1152921504606846976 < lastId l + (net.length : Int) by omega)]; rfl) (by decide)
            · have g3 : ¬ lastId l + x.i = 1152921504606846976 := of_decide_eq_false g3
              have hwi : IntKind.i64.wrap (lastId l + x.i + 1) = lastId l + ((x.i + 1 : Nat) : Int) := by rw [wrap64 (by omega)]; omega
              conv => whnf
              repeat ((first | with_reducible refine branch_true rfl ?_ | with_reducible refine branch_false rfl ?_); conv => whnf)
              refine st_append_uni (sz := 5) (len := x.len) (g := x.g) (u := 51) (m := 1) (gg := vlist (zeroElem Try.prog 51) [encP ⟨IntKind.i64.wrap (lastId l + x.i + 1), f.m, f.c, f.n, 1⟩]) rfl rfl rfl rfl rfl (room56 (by omega)) ?_
              conv => whnf
              repeat ((first | with_reducible refine branch_true rfl ?_ | with_reducible refine branch_false rfl ?_); conv => whnf)
              obtain ⟨y, y1, y2, y3⟩ : ∃ y : MkHd l net, y.i = x.i + 1 ∧ y.len = x.len + 1 ∧ y.g = vapp (zeroElem Try.prog 51) x.g x.len (vlist (zeroElem Try.prog 51) [encP ⟨IntKind.i64.wrap (lastId l + x.i + 1), f.m, f.c, f.n, 1⟩]) 1 := by
                refine ⟨⟨x.i + 1, x.len + 1, _, g2, ?_, by omega⟩, rfl, rfl, rfl⟩
                rw [Fw.take_snocF hf, newP_snoc, ← List.append_assoc]
                refine paysAt_app x.hg (paysAt_one ?_)
                show encP ⟨IntKind.i64.wrap (lastId l + x.i + 1), f.m, f.c, f.n, 1⟩ = _
                rw [hwi, List.length_take, Nat.min_eq_left (by omega), show lastId l + ((x.i + 1 : Nat) : Int) = lastId l + (x.i : Int) + 1 by omega]
              refine loop_to ih y (by omega) ?_
              show St.mk [(4, .ptr 0 0), (5, .ptr 1 0), (7, .int .i64 (IntKind.i64.wrap (lastId l + x.i + 1))), (42, .vec 4 nl ng), (43, .int .i64 nl), (44, .int .i64 (IntKind.i64.wrap ((x.i : Int) + 1)))] [.cells [.uni (.vec 5 (x.len + 1) (vapp (zeroElem Try.prog 51) x.g x.len (vlist (zeroElem Try.prog 51) [encP ⟨IntKind.i64.wrap (lastId l + x.i + 1), f.m, f.c, f.n, 1⟩]) 1))], .cells [.int .i64 ne]] [] none = St.mk [(4, .ptr 0 0), (5, .ptr 1 0), (7, .int .i64 (lastId l + y.i)), (42, .vec 4 nl ng), (43, .int .i64 nl), (44, .int .i64 y.i)] [.cells [.uni (.vec 5 y.len y.g)], .cells [.int .i64 ne]] [] none
              rw [y1, y2, y3, hwi, hw]
          · have g2 : x.i = net.length := by
              have g1 : ¬ (x.i : Int) < (nl : Int) := of_decide_eq_false g1
              omega
            have hend := x.hg
            rw [g2, List.take_length] at hend
            have hS2 : makeS l fl n ks = (l ++ newP (lastId l) net, 0) := by
              rw [hS, decide_eq_false (show ¬ 1152921504606846976 < lastId l + (net.length : Int) by omega)]; rfl
            conv => whnf
            repeat ((first | with_reducible refine branch_true rfl ?_ | with_reducible refine branch_false rfl ?_); conv => whnf)
            rw [hS2]
            exact .inl ⟨rfl, _, _, rfl, hend⟩
end Go.Proofs


set_option linter.unusedVariables false
set_option linter.unusedSimpArgs false
namespace Go.Proofs
open Ax Go
set_option maxRecDepth 10000
def nA : ByteArray := ⟨#[97]⟩
def nB : ByteArray := ⟨#[98]⟩
def fls0 : List Fw.Fl := [⟨nA, 0, 5, 0⟩, ⟨nA, 0, -2, 0⟩, ⟨nB, 0, -3, 0⟩]
def fl0 : Nat → Fw.Fl := Fw.flOf fls0
def ks0 : List Key := [(nA, 0), (nB, 0)]
def py1 : Py := ⟨1, nA, 0, 3, 1⟩
def py2 : Py := ⟨2, nB, 0, -3, 1⟩
def py3 : Py := ⟨2, nB, 0, -3, 4⟩
def py4 : Py := ⟨2, nB, 0, -3, 2⟩
theorem nAB : nA ≠ nB := by decide
theorem ks0_keys : Fw.keysF fl0 3 = ks0 := by
  have e1 : Fw.keysF fl0 1 = [(nA, 0)] := Fw.keysF_new (fl := fl0) (n := 0) (by simp [Fw.keysF])
  have e2 : Fw.keysF fl0 2 = [(nA, 0)] := (Fw.keysF_in (fl := fl0) (n := 1) (by rw [e1]; exact List.mem_singleton.2 rfl)).trans e1
  have e3 : Fw.keysF fl0 3 = Fw.keysF fl0 2 ++ [(nB, 0)] := Fw.keysF_new (fl := fl0) (n := 2) (by
    rw [e2]
    intro h
    have h := congrArg Prod.fst (List.mem_singleton.1 h)
    exact nAB h.symm)
  rw [e3, e2]; rfl
theorem ks0_rise : RiseK ks0 := by
  refine List.pairwise_cons.2 ⟨fun b hb => ?_, List.pairwise_singleton _ _⟩
  have : b = (nB, 0) := by simpa using hb
  subst this
  exact cmpK_lt.2 (.inl (show strLt nA nB = true by decide +kernel))
theorem go1 : makeS [] fl0 3 ks0 = ([py1, py2], 0) := by kernel_rfl
theorem go2 : openS [py1, py2] 0 = (3, 3, 0) := by kernel_rfl
theorem go3 : lateS [py1, py2] = ([py1, py3], 1, 0) := by kernel_rfl
theorem go4 : turnS [py1, py3] 2 2 = ([py1, py4], 0) := by kernel_rfl
theorem go5 : turnS [py1, py4] 2 2 = ([], 13) := by kernel_rfl
def ghG (f r : Nat) : List Ghost := match f, r with
  | 8, 2 => [.adopt 1, .freeze 1]
  | 8, 4 => [.adopt 6, .freeze 6]
  | 8, 5 => [.adopt 9, .freeze 9]
  | _, _ => []
def xfG (f r o : Nat) : Bool := match f, r, o with
  | 8, 1, 5 => true
  | 8, 3, 2 => true
  | 8, 4, 2 => true
  | _, _, _ => false
noncomputable def cxG : Ctx where
  P := Try.prog
  inl := fun _ => false
  keep := fun _ _ => none
  keepX := fun _ _ => none
  xf := xfG
  ow := fun _ => false
  gh := ghG
  gf := fun _ => []
  ln := fun _ => false
  srt := srtT
theorem okG {f a Q} (h : stepCall (SX Try.prog calmT) cxG calmT f a Q) : CallOK Try.prog f a Q := okOf (cx := cxG) rfl progOK h
theorem paysAt_shift {l : List Py} {len : Nat} {g : Nat → AV} (h : PaysAt l len g) : PaysAt l len (fun j => g (0 + j)) := ⟨h.1, fun i hi => by show g (0 + i) = _; rw [Nat.zero_add]; exact h.2 i hi⟩
theorem goesOK : CallOK Try.prog 8 [] (fun r => r = .bool true) := by
  refine okG ?_
  conv => whnf
  repeat ((first | with_reducible refine branch_true rfl ?_ | with_reducible refine branch_false rfl ?_); conv => whnf)
  have s1 := make [] fl0 3 ks0 ks0_rise (by rw [ks0_keys])
  rw [go1] at s1
  have hfl : ∀ z, Same (.vec 4 3 (vlist z [.agg [.str nA, .int .i64 0, .int .i64 5, .int .i64 0], .agg [.str nA, .int .i64 0, .int .i64 (-2), .int .i64 0], .agg [.str nB, .int .i64 0, .int .i64 (-3), .int .i64 0]])) (Fw.encL fl0 3) := fun z => .vec fun i hi => by
    rcases (by omega : i = 0 ∨ i = 1 ∨ i = 2) with rfl | rfl | rfl <;> rfl
  refine call_by (ok_same (.cons (paysAt_same (l := []) ⟨rfl, fun i hi => absurd hi (by simp)⟩) (.cons (hfl _) .nil)) s1) (makeR_some _ (fun h => absurd rfl h)) ?_
  intro r hr
  obtain ⟨len, g, rfl, ha⟩ := hr.elim (fun h => h.2) (fun h => absurd rfl h.1)
  obtain rfl : len = 2 := ha.1
  conv => whnf
  repeat ((first | with_reducible refine branch_true rfl ?_ | with_reducible refine branch_false rfl ?_); conv => whnf)
  have ha := paysAt_shift ha
  have s2 := ok_same (.cons (paysAt_same ha) (.cons (.refl _) .nil)) (openOK [py1, py2] 0)
  rw [go2] at s2
  refine call_is (v := tup3 (3, 3, 0)) s2 ?_
  conv => whnf
  repeat ((first | with_reducible refine branch_true rfl ?_ | with_reducible refine branch_false rfl ?_); conv => whnf)
  have s3 := ok_same (.cons (paysAt_same ha) .nil) (late [py1, py2])
  rw [go3] at s3
  refine call_by s3 ⟨_, .inl ⟨rfl, _, _, rfl, paysAt_self _⟩⟩ ?_
  intro r hr
  obtain ⟨len, g3, rfl, hb⟩ := hr.elim (fun h => h.2) (fun h => absurd rfl h.1)
  obtain rfl : len = 2 := hb.1
  conv => whnf
  repeat ((first | with_reducible refine branch_true rfl ?_ | with_reducible refine branch_false rfl ?_); conv => whnf)
  have hb := paysAt_shift hb
  have s4 := ok_same (.cons (paysAt_same hb) (.cons (.refl _) .nil)) (done [py1, py3] 2)
  rw [go4] at s4
  refine call_by s4 ⟨_, .inl ⟨rfl, _, _, rfl, paysAt_self _⟩⟩ ?_
  intro r hr
  obtain ⟨len, g4, rfl, hc⟩ := hr.elim (fun h => h.2) (fun h => absurd rfl h.1)
  obtain rfl : len = 2 := hc.1
  conv => whnf
  repeat ((first | with_reducible refine branch_true rfl ?_ | with_reducible refine branch_false rfl ?_); conv => whnf)
  have hc := paysAt_shift hc
  have s5 := ok_same (.cons (paysAt_same hc) (.cons (.refl _) .nil)) (done [py1, py4] 2)
  rw [go5] at s5
  refine call_by s5 ⟨_, .inr ⟨by decide, rfl, fun _ => .undef, rfl⟩⟩ ?_
  intro r hr
  obtain ⟨g5, rfl⟩ := hr.elim (fun h => absurd h.1 (by decide)) (fun h => h.2.2)
  conv => whnf
  repeat ((first | with_reducible refine branch_true rfl ?_ | with_reducible refine branch_false rfl ?_); conv => whnf)
  have hs : ∀ z, PaysAt [py1, py2] 2 (vlist z [.agg [.int .i64 1, .str nA, .int .i64 0, .int .i64 3, .int .i64 1], .agg [.int .i64 2, .str nB, .int .i64 0, .int .i64 (-3), .int .i64 1]]) := fun z => ⟨rfl, fun i hi => by
    have hi : i < 2 := hi
    rcases (by omega : i = 0 ∨ i = 1) with rfl | rfl <;> rfl⟩
  refine call_is (v := .bool true) (same_at ha (hs _) (by decide)) ?_
  conv => whnf
  repeat ((first | with_reducible refine branch_true rfl ?_ | with_reducible refine branch_false rfl ?_); conv => whnf)
  rfl
end Go.Proofs


set_option linter.unusedVariables false
namespace Go.Proofs
open Ax Go
set_option maxRecDepth 10000
theorem typed_slice {P : Program} {d : Nat} {t e : TypeId} {es : List AV} (ht : P.underlying t = some (.slice e)) (h : Typed P (d + 1) t es) : ∃ n g, es = [.vec (P.cellsOf e) n g] ∧ n ≤ maxLen ∧ ∀ i, i < n → TypedAV P d e (g i) := by
  unfold Typed at h
  rw [ht] at h
  exact h
theorem typed_struct {P : Program} {d : Nat} {t : TypeId} {fs : Array Field} {es : List AV} (ht : P.underlying t = some (.struct fs)) (h : Typed P (d + 1) t es) : TypedL (Typed P d) fs.toList es := by
  unfold Typed at h
  rw [ht] at h
  exact h
theorem typed_int {P : Program} {d : Nat} {t : TypeId} {k : IntKind} {es : List AV} (ht : P.underlying t = some (.int k)) (h : Typed P (d + 1) t es) : ∃ n, es = [.int k n] ∧ (Lit.int k n).wf = true := by
  unfold Typed at h
  rw [ht] at h
  exact h
theorem typed_str {P : Program} {d : Nat} {t : TypeId} {es : List AV} (ht : P.underlying t = some .string) (h : Typed P (d + 1) t es) : ∃ s : ByteArray, es = [.str s] ∧ s.size ≤ maxLen := by
  unfold Typed at h
  rw [ht] at h
  exact h
theorem size_big {s : ByteArray} (h : s.size ≤ maxLen) : s.size ≤ big := Nat.le_trans h (by decide)
theorem arg_int {d : Nat} {a : AV} (h : TypedAV Try.prog (d + 1) 3 a) : ∃ n, a = .int .i64 n ∧ (Lit.int .i64 n).wf = true := by
  obtain ⟨es, h1, h2, h3⟩ := h
  obtain ⟨n, rfl, hn⟩ := typed_int Try.underlying3 h3
  exact ⟨n, h1, hn⟩
theorem arg_str {d : Nat} {a : AV} (h : TypedAV Try.prog (d + 1) 9 a) : ∃ s : ByteArray, a = .str s ∧ s.size ≤ maxLen := by
  obtain ⟨es, h1, h2, h3⟩ := h
  obtain ⟨s, rfl, hs⟩ := typed_str Try.underlying9 h3
  exact ⟨s, h1, hs⟩
theorem arg_bool {d : Nat} {a : AV} (h : TypedAV Try.prog (d + 1) 4 a) : ∃ b, a = .bool b := by
  obtain ⟨es, h1, h2, h3⟩ := h
  unfold Typed at h3
  rw [Try.underlying4] at h3
  obtain ⟨b, rfl⟩ := h3
  exact ⟨b, h1⟩
theorem arg_pay {d : Nat} {a : AV} (h : TypedAV Try.prog (d + 2) 51 a) : ∃ c : Py, a = encP c ∧ c.m.size ≤ big := by
  obtain ⟨es, h1, h2, h3⟩ := h
  obtain ⟨a0, r0, rfl, k0, a1, r1, rfl, k1, a2, r2, rfl, k2, a3, r3, rfl, k3, a4, r4, rfl, k4, rfl⟩ := typed_struct Try.underlying51 h3
  obtain ⟨id, rfl, _⟩ := typed_int Try.underlying3 k0
  obtain ⟨m, rfl, hm⟩ := typed_str Try.underlying9 k1
  obtain ⟨c, rfl, _⟩ := typed_int Try.underlying3 k2
  obtain ⟨n, rfl, _⟩ := typed_int Try.underlying3 k3
  obtain ⟨s, rfl, _⟩ := typed_int Try.underlying3 k4
  exact ⟨⟨id, m, c, n, s⟩, h1, size_big hm⟩
theorem arg_pays {d : Nat} {a : AV} (h : TypedAV Try.prog (d + 3) 22 a) : ∃ l : List Py, Same a (encL l) ∧ Sized l ∧ l.length ≤ maxLen := by
  obtain ⟨es, h1, h2, h3⟩ := h
  obtain ⟨n, g, rfl, hn, hg⟩ := typed_slice Try.underlying22 h3
  have h1 : a = .vec 5 n g := h1
  have each : ∀ i, ∃ c : Py, i < n → g i = encP c ∧ c.m.size ≤ big := by
    intro i
    by_cases hi : i < n
    · obtain ⟨f, hf⟩ := arg_pay (hg i hi)
      exact ⟨f, fun _ => hf⟩
    · exact ⟨p0, fun h => absurd h hi⟩
  obtain ⟨cl, hcl⟩ := Classical.axiomOfChoice each
  have hlen : ((List.range n).map cl).length = n := by simp
  have hat : ∀ i, i < n → atP ((List.range n).map cl) i = cl i := fun i hi => by
    rw [atP, List.getD, List.getElem?_map, List.getElem?_range hi]; rfl
  refine ⟨(List.range n).map cl, ?_, fun c hc => ?_, by rw [hlen]; exact hn⟩
  · rw [h1]
    exact paysAt_same ⟨hlen.symm, fun i hi => by rw [hlen] at hi; rw [(hcl i hi).1, hat i hi]⟩
  · obtain ⟨i, hi, rfl⟩ := List.mem_map.1 hc
    exact (hcl i (List.mem_range.1 hi)).2
theorem filt_le (l : List Py) (p : Py → Bool) (hl : l.length ≤ 1100) : (l.filter p).length ≤ 100000 := by
  have := List.length_filter_le p l
  omega
end Go.Proofs


set_option linter.unusedVariables false
set_option linter.unusedSimpArgs false
namespace Go.Proofs
open Ax Go
set_option maxRecDepth 10000
def keepW (f r : Nat) : Option (List Nat) := match f, r with
  | 14, 1 => some [0, 4, 5]
  | _, _ => none
def keepXW (f r : Nat) : Option (List Nat) := match f, r with
  | 14, 1 => some []
  | _, _ => none
def ghW (f r : Nat) : List Ghost := match f, r with
  | 7, 7 => [.adopt 14]
  | 5, 10 => [.fresh 6, .adopt 6, .fresh 10, .adopt 10, .fresh 14, .adopt 14]
  | _, _ => []
def xfW (f r o : Nat) : Bool := match f, r, o with
  | 5, 4, 3 => true
  | 5, 6, 3 => true
  | 5, 8, 2 => true
  | _, _, _ => false
noncomputable def cxW : Ctx where
  P := Try.prog
  inl := fun f => Nat.beq f 14
  keep := keepW
  keepX := keepXW
  xf := xfW
  ow := fun _ => false
  gh := ghW
  gf := fun _ => []
  ln := fun f => Nat.beq f 13
  srt := srtT
theorem okW {f a Q} (h : stepCall (SX Try.prog calmT) cxW calmT f a Q) : CallOK Try.prog f a Q := okOf (cx := cxW) rfl progOK h
set_option maxHeartbeats 4000000 in
theorem lawOpens : ∀ xs, TypedArgs Try.prog 8 Try.f7.params.toList xs → CallOK Try.prog 7 xs (fun r => r = .bool true) := by
  intro xs h
  rw [Try.params7] at h
  obtain ⟨a0, r0, rfl, h0, a1, r1, rfl, h1, a2, r2, rfl, h2, rfl⟩ := h
  obtain ⟨l, hs, hz, hn⟩ := arg_pays (d := 5) h0
  obtain ⟨cur, rfl, hc⟩ := arg_int (d := 7) h1
  obtain ⟨m, rfl, hm⟩ := arg_str (d := 7) h2
  refine ok_same (.cons hs (.cons (.refl _) (.cons (.refl _) .nil))) ?_
  refine okW ?_
  conv => whnf
  repeat ((first | with_reducible refine branch_true rfl ?_ | with_reducible refine branch_false rfl ?_); conv => whnf)
  refine branch_of (fun g1 => ?_) (fun g1 => ?_)
  · conv => whnf
    repeat ((first | with_reducible refine branch_true rfl ?_ | with_reducible refine branch_false rfl ?_); conv => whnf)
    refine call_is goesOK ?_
    conv => whnf
    repeat ((first | with_reducible refine branch_true rfl ?_ | with_reducible refine branch_false rfl ?_); conv => whnf)
  · have g1 : l.length ≤ 1100 := by have := of_decide_eq_false g1; omega
    have hof := filt_le l (ofQ m) g1
    have vO := openOK l cur
    have vR := refOpen l hz cur
    generalize openS l cur = V at vO vR
    conv => whnf
    repeat ((first | with_reducible refine branch_true rfl ?_ | with_reducible refine branch_false rfl ?_); conv => whnf)
    refine st_append (sz := 5) (len := 0) (u := 51) (m := l.length) (gg := fun i => encP (atP l i)) rfl rfl rfl rfl rfl (room56 (by omega)) ?_
    conv => whnf
    repeat ((first | with_reducible refine branch_true rfl ?_ | with_reducible refine branch_false rfl ?_); conv => whnf)
    have hO : PaysAt l (0 + l.length) (vapp (zeroElem Try.prog 51) (vlist (zeroElem Try.prog 51) []) 0 (fun i => encP (atP l i)) l.length) := paysAt_app (paysAt_nil (g := vlist (zeroElem Try.prog 51) [])) (paysAt_self l)
    refine call_is (v := tup3 V) (ok_same (.cons (paysAt_same hO) (.cons (.refl _) .nil)) vO) ?_
    conv => whnf
    repeat ((first | with_reducible refine branch_true rfl ?_ | with_reducible refine branch_false rfl ?_); conv => whnf)
    refine call_is (v := tup3 V) vR ?_
    conv => whnf
    repeat ((first | with_reducible refine branch_true rfl ?_ | with_reducible refine branch_false rfl ?_); conv => whnf)
    refine call_by (ok_same (.cons (paysAt_same hO) (.cons (.refl _) .nil)) (ofOK l (by omega) m)) (uniR_some _) ?_
    rintro r ⟨len, g, rfl, hg⟩
    have hlen : len ≤ 100000 := by rw [hg.1]; exact hof
    conv => whnf
    repeat ((first | with_reducible refine branch_true rfl ?_ | with_reducible refine branch_false rfl ?_); conv => whnf)
    refine branch_false (by simp) ?_
    conv => whnf
    repeat ((first | with_reducible refine branch_true rfl ?_ | with_reducible refine branch_false rfl ?_); conv => whnf)
    refine branch_false (by simp) ?_
    conv => whnf
    repeat ((first | with_reducible refine branch_true rfl ?_ | with_reducible refine branch_false rfl ?_); conv => whnf)
    refine branch_false (by simp) ?_
    conv => whnf
    repeat ((first | with_reducible refine branch_true rfl ?_ | with_reducible refine branch_false rfl ?_); conv => whnf)
    refine call_by (refOf l (by omega) m) (vecR_some _) ?_
    rintro r ⟨len2, g2, rfl, hg2⟩
    conv => whnf
    repeat ((first | with_reducible refine branch_true rfl ?_ | with_reducible refine branch_false rfl ?_); conv => whnf)
    refine force_by (lend_row (id := 0) (sz := 5) (n := len) (n' := len) rfl (Nat.le_refl _)) ?_
    conv => whnf
    repeat ((first | with_reducible refine branch_true rfl ?_ | with_reducible refine branch_false rfl ?_); conv => whnf)
    refine call_is (same_at (paysAt_shift hg) hg2 hof) ?_
    conv => whnf
    repeat ((first | with_reducible refine branch_true rfl ?_ | with_reducible refine branch_false rfl ?_); conv => whnf)
    refine loop_by (cx := cxW) rfl progOK (ι := {i : Nat // i ≤ len} × (Nat → AV)) (fun x => len - x.1.1) (fun x => ⟨[(0, .row 0 5 0 len), (4, .int .i64 len), (5, .int .i64 x.1.1)], [.arr 5 len x.2], [], none⟩) ?_ (⟨0, Nat.zero_le _⟩, _)
    rintro ⟨⟨i, hi⟩, e⟩ ih
    conv => whnf
    repeat ((first | with_reducible refine branch_true rfl ?_ | with_reducible refine branch_false rfl ?_); conv => whnf)
    refine branch_of (fun t1 => ?_) (fun t1 => ?_)
    · have t2 : i < len := by
        have t1 : (i : Int) < (len : Int) := of_decide_eq_true t1
        omega
      have hw : IntKind.i64.wrap ((i : Int) + 1) = ((i + 1 : Nat) : Int) := by rw [wrap64 (by omega)]; omega
      conv => whnf
      repeat ((first | with_reducible refine branch_true rfl ?_ | with_reducible refine branch_false rfl ?_); conv => whnf)
      refine st_addr_row (u := 51) (id := 0) (sz := 5) (lo := 0) (len := len) (n := (i : Int)) rfl rfl rfl rfl rfl (in_range t2) ?_
      conv => whnf
      repeat ((first | with_reducible refine branch_true rfl ?_ | with_reducible refine branch_false rfl ?_); conv => whnf)
      refine st_store_e (id := 0) (sz := 5) (j := 0 + i) (len := len) (g := e) rfl rfl (by omega) rfl rfl ?_
      conv => whnf
      repeat ((first | with_reducible refine branch_true rfl ?_ | with_reducible refine branch_false rfl ?_); conv => whnf)
      exact loop_to ih (⟨i + 1, t2⟩, _) (show len - (i + 1) < len - i by omega) (congrArg (fun q => St.mk [(0, .row 0 5 0 len), (4, .int .i64 len), (5, .int .i64 q)] [.arr 5 len _] [] none) hw)
    · clear ih t1
      conv => whnf
      repeat ((first | with_reducible refine branch_true rfl ?_ | with_reducible refine branch_false rfl ?_); conv => whnf)
      refine call_is (same_at hO (paysAt_self l) (by omega)) ?_
      conv => whnf
      repeat ((first | with_reducible refine branch_true rfl ?_ | with_reducible refine branch_false rfl ?_); conv => whnf)
      refine call_is goesOK ?_
      conv => whnf
      repeat ((first | with_reducible refine branch_true rfl ?_ | with_reducible refine branch_false rfl ?_); conv => whnf)
      rfl
end Go.Proofs


set_option linter.unusedVariables false
set_option linter.unusedSimpArgs false
namespace Go.Proofs
open Ax Go
set_option maxRecDepth 10000
theorem arg_flow {d : Nat} {a : AV} (h : TypedAV Try.prog (d + 2) 38 a) : ∃ f : Fw.Fl, a = Fw.encF f := by
  obtain ⟨es, h1, h2, h3⟩ := h
  obtain ⟨a0, r0, rfl, k0, a1, r1, rfl, k1, a2, r2, rfl, k2, a3, r3, rfl, k3, rfl⟩ := typed_struct Try.underlying38 h3
  obtain ⟨m, rfl, hm⟩ := typed_str Try.underlying9 k0
  obtain ⟨c, rfl, hc⟩ := typed_int Try.underlying3 k1
  obtain ⟨n, rfl, hn⟩ := typed_int Try.underlying3 k2
  obtain ⟨w, rfl, hw⟩ := typed_int Try.underlying3 k3
  exact ⟨⟨m, c, n, w⟩, h1⟩
theorem arg_flows {d : Nat} {a : AV} (h : TypedAV Try.prog (d + 3) 23 a) : ∃ fl n, Same a (Fw.encL fl n) ∧ n ≤ maxLen := by
  obtain ⟨es, h1, h2, h3⟩ := h
  obtain ⟨n, g, rfl, hn, hg⟩ := typed_slice Try.underlying23 h3
  have h1 : a = .vec 4 n g := h1
  have each : ∀ i, ∃ f : Fw.Fl, i < n → g i = Fw.encF f := by
    intro i
    by_cases hi : i < n
    · obtain ⟨f, hf⟩ := arg_flow (hg i hi)
      exact ⟨f, fun _ => hf⟩
    · exact ⟨⟨ByteArray.empty, 0, 0, 0⟩, fun h => absurd h hi⟩
  obtain ⟨fl, hfl⟩ := Classical.axiomOfChoice each
  subst h1
  exact ⟨fl, n, .vec fun i hi => hfl i hi, hn⟩
def keepV (f r : Nat) : Option (List Nat) := match f, r with
  | 10, 19 => some [7, 9, 10, 11]
  | 14, 1 => some [0, 4, 5]
  | _, _ => none
def keepXV (f r : Nat) : Option (List Nat) := match f, r with
  | 10, 19 => some [10]
  | 14, 1 => some []
  | _, _ => none
def ghV (f r : Nat) : List Ghost := match f, r with
  | 3, 6 => [.fresh 6, .adopt 6]
  | _, _ => []
def xfV (f r o : Nat) : Bool := match f, r, o with
  | 3, 4, 5 => true
  | _, _, _ => false
noncomputable def cxV : Ctx where
  P := Try.prog
  inl := fun f => Nat.beq f 14
  keep := keepV
  keepX := keepXV
  xf := xfV
  ow := fun _ => false
  gh := ghV
  gf := fun _ => []
  ln := fun f => Nat.beq f 13
  srt := srtT
theorem okV {f a Q} (h : stepCall (SX Try.prog calmT) cxV calmT f a Q) : CallOK Try.prog f a Q := okOf (cx := cxV) rfl progOK h
theorem netL_len {fl : Nat → Fw.Fl} {n : Nat} {ks : List Key} (hp : ks.Perm (Fw.keysF fl n)) : (Fw.netL fl n ks).length ≤ 1024 := by
  unfold Fw.netL
  split
  · rename_i h
    have h2 := Fw.netF_len fl n ks
    have h3 := hp.length_eq
    have h4 := Fw.keysF_len fl n
    have h5 := (Fw.check_ok (Fw.netE_zero.1 h).1).1
    omega
  · simp
theorem makeS_len {l : List Py} {fl : Nat → Fw.Fl} {n : Nat} {ks : List Key} (hl : l.length ≤ 1100) (hp : ks.Perm (Fw.keysF fl n)) : (makeS l fl n ks).1.length ≤ 100000 := by
  have := netL_len hp
  unfold makeS
  by_cases h1 : checkL l ≠ 0
  · simp [h1]
  · by_cases h2 : Fw.netE fl n ks ≠ 0
    · simp [h1, h2]
    · by_cases h3 : 1024 < l.length + (Fw.netL fl n ks).length
      · simp [h1, h2, h3]
      · by_cases h4 : 1152921504606846976 < lastId l + (Fw.netL fl n ks).length
        · simp [h1, h2, h3, h4]
        · simp [h1, h2, h3, h4, newP_len]; omega
theorem refMake (l : List Py) (hs : Sized l) (fl : Nat → Fw.Fl) (n : Nat) (ks : List Key) (hr : RiseK ks) (hp : ks.Perm (Fw.keysF fl n)) : CallOK Try.prog 10 [encL l, Fw.encL fl n] (TurnV (makeS l fl n ks)) := by
  refine okV ?_
  conv => whnf
  repeat ((first | with_reducible refine branch_true rfl ?_ | with_reducible refine branch_false rfl ?_); conv => whnf)
  refine call_is (refCheck l hs) ?_
  conv => whnf
  repeat ((first | with_reducible refine branch_true rfl ?_ | with_reducible refine branch_false rfl ?_); conv => whnf)
  refine branch_of (fun h1 => ?_) (fun h1 => ?_)
  · have h1 : checkL l ≠ 0 := by simpa using h1
    conv => whnf
    repeat ((first | with_reducible refine branch_true rfl ?_ | with_reducible refine branch_false rfl ?_); conv => whnf)
    exact turnV_bad (by simp [makeS, h1])
  · have h1 : checkL l = 0 := by simpa using h1
    have hln := (check_good h1).1
    have hlb := lastId_b h1
    have hnk := netL_len hp
    conv => whnf
    repeat ((first | with_reducible refine branch_true rfl ?_ | with_reducible refine branch_false rfl ?_); conv => whnf)
    refine call_is (Fw.refCheck fl n) ?_
    conv => whnf
    repeat ((first | with_reducible refine branch_true rfl ?_ | with_reducible refine branch_false rfl ?_); conv => whnf)
    refine branch_of (fun h0 => ?_) (fun h0 => ?_)
    · have h0 : Fw.checkE fl n ≠ 0 := by simpa using h0
      have e : Fw.netE fl n ks = Fw.checkE fl n := by rw [Fw.netE, if_pos h0]
      conv => whnf
      repeat ((first | with_reducible refine branch_true rfl ?_ | with_reducible refine branch_false rfl ?_); conv => whnf)
      exact turnV_bad (by simp [makeS, h1, e, h0])
    · have h0 : Fw.checkE fl n = 0 := by simpa using h0
      conv => whnf
      repeat ((first | with_reducible refine branch_true rfl ?_ | with_reducible refine branch_false rfl ?_); conv => whnf)
      refine call_by (Fw.refNet fl n ks hr hp) ⟨_, _, _, rfl, flowsAt_self _⟩ ?_
      rintro r ⟨nl, ng, rfl, hng⟩
      have hnl := hng.1
      generalize hne : Fw.netE fl n ks = ne
      generalize hnt : Fw.netL fl n ks = net at hng hnl hnk
      conv => whnf
      repeat ((first | with_reducible refine branch_true rfl ?_ | with_reducible refine branch_false rfl ?_); conv => whnf)
      refine branch_of (fun h2 => ?_) (fun h2 => ?_)
      · have h2 : ne ≠ 0 := by simpa using h2
        conv => whnf
        repeat ((first | with_reducible refine branch_true rfl ?_ | with_reducible refine branch_false rfl ?_); conv => whnf)
        exact turnV_bad (by simp [makeS, h1, hne, h2])
      · have h2 : ne = 0 := by simpa using h2
        have hw1 : IntKind.i64.wrap ((l.length : Int) + (nl : Int)) = ((l.length + nl : Nat) : Int) := by rw [wrap64 (by omega)]; omega
        conv => whnf
        repeat ((first | with_reducible refine branch_true rfl ?_ | with_reducible refine branch_false rfl ?_); conv => whnf)
        refine branch_of (fun h3 => ?_) (fun h3 => ?_)
        · have h3 : 1024 < l.length + net.length := by
            have h3 : 1024 < IntKind.i64.wrap ((l.length : Int) + (nl : Int)) := of_decide_eq_true h3
            rw [hw1] at h3; omega
          conv => whnf
          repeat ((first | with_reducible refine branch_true rfl ?_ | with_reducible refine branch_false rfl ?_); conv => whnf)
          exact turnV_bad (by simp [makeS, h1, hne, h2, hnt, h3])
        · have h3 : ¬ 1024 < l.length + net.length := by
            have h3 : ¬ 1024 < IntKind.i64.wrap ((l.length : Int) + (nl : Int)) := of_decide_eq_false h3
            rw [hw1] at h3; omega
          have hS : makeS l fl n ks = bif decide (1152921504606846976 < lastId l + net.length) then ([], 2) else (l ++ newP (lastId l) net, 0) := by
            simp only [makeS, h1, hne, h2, hnt, decide_eq_false h3]; rfl
          conv => whnf
          repeat ((first | with_reducible refine branch_true rfl ?_ | with_reducible refine branch_false rfl ?_); conv => whnf)
          refine branch_of (fun h4 => ?_) (fun h4 => ?_)
          · have h4 : 0 < l.length := by have := of_decide_eq_true h4; omega
            have e : lastId l = (atP l (l.length - 1)).id := by rw [lastId, decide_eq_true h4]; rfl
            have hw : IntKind.i64.wrap ((l.length : Int) - 1) = ((l.length - 1 : Nat) : Int) := by rw [wrap64 (by omega)]; omega
            conv => whnf
            repeat ((first | with_reducible refine branch_true rfl ?_ | with_reducible refine branch_false rfl ?_); conv => whnf)
            refine st_addr_v (sz := 5) (len := l.length) (n := IntKind.i64.wrap ((l.length : Int) - 1)) (u := 51) (v := encP (atP l (l.length - 1))) rfl rfl rfl rfl rfl (by rw [hw]; exact in_range (by omega)) (by rw [hw]; rfl) ?_
            conv => whnf
            repeat ((first | with_reducible refine branch_true rfl ?_ | with_reducible refine branch_false rfl ?_); conv => whnf)
            have hidv : (atP l (l.length - 1)).id = lastId l := e.symm
            have hw2 : IntKind.i64.wrap ((atP l (l.length - 1)).id + (nl : Int)) = lastId l + net.length := by rw [hidv, wrap64 (by omega)]; omega
            refine branch_of (fun h5 => ?_) (fun h5 => ?_)
            · have h5 : 1152921504606846976 < lastId l + (net.length : Int) := by
                have h5 : 1152921504606846976 < IntKind.i64.wrap ((atP l (l.length - 1)).id + (nl : Int)) := of_decide_eq_true h5
                rw [hw2] at h5; exact h5
              conv => whnf
              repeat ((first | with_reducible refine branch_true rfl ?_ | with_reducible refine branch_false rfl ?_); conv => whnf)
              exact turnV_bad (by rw [hS, decide_eq_true h5]; rfl)
            · have h5 : ¬ 1152921504606846976 < lastId l + (net.length : Int) := by
                have h5 : ¬ 1152921504606846976 < IntKind.i64.wrap ((atP l (l.length - 1)).id + (nl : Int)) := of_decide_eq_false h5
                rw [hw2] at h5; exact h5
              conv => whnf
              repeat ((first | with_reducible refine branch_true rfl ?_ | with_reducible refine branch_false rfl ?_); conv => whnf)
              refine st_append (sz := 5) (len := 0) (u := 51) (m := l.length) (gg := fun i => encP (atP l i)) rfl rfl rfl rfl rfl (room56 (by omega)) ?_
              conv => whnf
              repeat ((first | with_reducible refine branch_true rfl ?_ | with_reducible refine branch_false rfl ?_); conv => whnf)
              refine loop_by (cx := cxV) rfl progOK (ι := MkHd l net) (fun x => net.length - x.i) (fun x => ⟨[(7, .vec 4 nl ng), (9, .int .i64 ((atP l (l.length - 1)).id)), (10, .own (.vec 5 x.len x.g)), (11, .int .i64 x.i)], [], [], none⟩) ?_ ⟨0, 0 + l.length, vapp (zeroElem Try.prog 51) (vlist (zeroElem Try.prog 51) []) 0 (fun i => encP (atP l i)) l.length, Nat.zero_le _, by simpa [newP] using paysAt_app (z := zeroElem Try.prog 51) (paysAt_nil (g := vlist (zeroElem Try.prog 51) [])) (paysAt_self l), by omega⟩
              intro x ih
              have hxi := x.hi
              have hxm := x.hm
              have hxl := x.hg.1
              rw [List.length_append, newP_len, List.length_take] at hxl
              conv => whnf
              repeat ((first | with_reducible refine branch_true rfl ?_ | with_reducible refine branch_false rfl ?_); conv => whnf)
              refine branch_of (fun g1 => ?_) (fun g1 => ?_)
              · have g2 : x.i < net.length := by
                  have g1 : (x.i : Int) < (nl : Int) := of_decide_eq_true g1
                  omega
                have hw : IntKind.i64.wrap ((x.i : Int) + 1) = ((x.i + 1 : Nat) : Int) := by rw [wrap64 (by omega)]; omega
                have hf : net[x.i]? = some (Fw.flOf net x.i) := by
                  unfold Fw.flOf
                  rw [List.getD, List.getElem?_eq_getElem g2]; rfl
                have hat := hng.2 _ _ hf
                generalize Fw.flOf net x.i = f at hf hat
                have hwi : IntKind.i64.wrap (IntKind.i64.wrap ((atP l (l.length - 1)).id + 1) + (x.i : Int)) = lastId l + ((x.i + 1 : Nat) : Int) := by rw [hidv, wrap64 (x := lastId l + 1) (by omega), wrap64 (by omega)]; omega
                conv => whnf
                repeat ((first | with_reducible refine branch_true rfl ?_ | with_reducible refine branch_false rfl ?_); conv => whnf)
                refine st_addr_v (sz := 4) (len := nl) (n := (x.i : Int)) (u := 38) (v := Fw.encF f) rfl rfl rfl rfl rfl (in_range (by omega)) hat ?_
                conv => whnf
                repeat ((first | with_reducible refine branch_true rfl ?_ | with_reducible refine branch_false rfl ?_); conv => whnf)
                refine st_addr_v (sz := 4) (len := nl) (n := (x.i : Int)) (u := 38) (v := Fw.encF f) rfl rfl rfl rfl rfl (in_range (by omega)) hat ?_
                conv => whnf
                repeat ((first | with_reducible refine branch_true rfl ?_ | with_reducible refine branch_false rfl ?_); conv => whnf)
                refine st_addr_v (sz := 4) (len := nl) (n := (x.i : Int)) (u := 38) (v := Fw.encF f) rfl rfl rfl rfl rfl (in_range (by omega)) hat ?_
                conv => whnf
                repeat ((first | with_reducible refine branch_true rfl ?_ | with_reducible refine branch_false rfl ?_); conv => whnf)
                refine st_append (sz := 5) (len := x.len) (g := x.g) (u := 51) (m := 1) (gg := vlist (zeroElem Try.prog 51) [encP ⟨IntKind.i64.wrap (IntKind.i64.wrap ((atP l (l.length - 1)).id + 1) + (x.i : Int)), f.m, f.c, f.n, 1⟩]) rfl rfl rfl rfl rfl (room56 (by omega)) ?_
                conv => whnf
                repeat ((first | with_reducible refine branch_true rfl ?_ | with_reducible refine branch_false rfl ?_); conv => whnf)
                obtain ⟨y, y1, y2, y3⟩ : ∃ y : MkHd l net, y.i = x.i + 1 ∧ y.len = x.len + 1 ∧ y.g = vapp (zeroElem Try.prog 51) x.g x.len (vlist (zeroElem Try.prog 51) [encP ⟨IntKind.i64.wrap (IntKind.i64.wrap ((atP l (l.length - 1)).id + 1) + (x.i : Int)), f.m, f.c, f.n, 1⟩]) 1 := by
                  refine ⟨⟨x.i + 1, x.len + 1, _, g2, ?_, by omega⟩, rfl, rfl, rfl⟩
                  rw [Fw.take_snocF hf, newP_snoc, ← List.append_assoc]
                  refine paysAt_app x.hg (paysAt_one ?_)
                  show encP ⟨IntKind.i64.wrap (IntKind.i64.wrap ((atP l (l.length - 1)).id + 1) + (x.i : Int)), f.m, f.c, f.n, 1⟩ = _
                  rw [hwi, List.length_take, Nat.min_eq_left (by omega), show lastId l + ((x.i + 1 : Nat) : Int) = lastId l + (x.i : Int) + 1 by omega]
                refine loop_to ih y (by omega) ?_
                show St.mk [(7, .vec 4 nl ng), (9, .int .i64 ((atP l (l.length - 1)).id)), (10, .own (.vec 5 (x.len + 1) (vapp (zeroElem Try.prog 51) x.g x.len (vlist (zeroElem Try.prog 51) [encP ⟨IntKind.i64.wrap (IntKind.i64.wrap ((atP l (l.length - 1)).id + 1) + (x.i : Int)), f.m, f.c, f.n, 1⟩]) 1))), (11, .int .i64 (IntKind.i64.wrap ((x.i : Int) + 1)))] [] [] none = St.mk [(7, .vec 4 nl ng), (9, .int .i64 ((atP l (l.length - 1)).id)), (10, .own (.vec 5 y.len y.g)), (11, .int .i64 y.i)] [] [] none
                rw [y1, y2, y3, hw]
              · have g2 : x.i = net.length := by
                  have g1 : ¬ (x.i : Int) < (nl : Int) := of_decide_eq_false g1
                  omega
                have hend := x.hg
                rw [g2, List.take_length] at hend
                have hS2 : makeS l fl n ks = (l ++ newP (lastId l) net, 0) := by rw [hS, decide_eq_false h5]; rfl
                conv => whnf
                repeat ((first | with_reducible refine branch_true rfl ?_ | with_reducible refine branch_false rfl ?_); conv => whnf)
                rw [hS2]
                exact ⟨_, _, rfl, hend⟩
          · have h4 : l.length = 0 := by have := of_decide_eq_false h4; omega
            have e : lastId l = 0 := by rw [lastId, decide_eq_false (by omega)]; rfl
            conv => whnf
            repeat ((first | with_reducible refine branch_true rfl ?_ | with_reducible refine branch_false rfl ?_); conv => whnf)
            have hidv : (0 : Int) = lastId l := e.symm
            have hw2 : IntKind.i64.wrap ((0 : Int) + (nl : Int)) = lastId l + net.length := by rw [hidv, wrap64 (by omega)]; omega
            refine branch_of (fun h5 => ?_) (fun h5 => ?_)
            · have h5 : 1152921504606846976 < lastId l + (net.length : Int) := by
                have h5 : 1152921504606846976 < IntKind.i64.wrap ((0 : Int) + (nl : Int)) := of_decide_eq_true h5
                rw [hw2] at h5; exact h5
              conv => whnf
              repeat ((first | with_reducible refine branch_true rfl ?_ | with_reducible refine branch_false rfl ?_); conv => whnf)
              exact turnV_bad (by rw [hS, decide_eq_true h5]; rfl)
            · have h5 : ¬ 1152921504606846976 < lastId l + (net.length : Int) := by
                have h5 : ¬ 1152921504606846976 < IntKind.i64.wrap ((0 : Int) + (nl : Int)) := of_decide_eq_false h5
                rw [hw2] at h5; exact h5
              conv => whnf
              repeat ((first | with_reducible refine branch_true rfl ?_ | with_reducible refine branch_false rfl ?_); conv => whnf)
              refine st_append (sz := 5) (len := 0) (u := 51) (m := l.length) (gg := fun i => encP (atP l i)) rfl rfl rfl rfl rfl (room56 (by omega)) ?_
              conv => whnf
              repeat ((first | with_reducible refine branch_true rfl ?_ | with_reducible refine branch_false rfl ?_); conv => whnf)
              refine loop_by (cx := cxV) rfl progOK (ι := MkHd l net) (fun x => net.length - x.i) (fun x => ⟨[(7, .vec 4 nl ng), (9, .int .i64 ((0 : Int))), (10, .own (.vec 5 x.len x.g)), (11, .int .i64 x.i)], [], [], none⟩) ?_ ⟨0, 0 + l.length, vapp (zeroElem Try.prog 51) (vlist (zeroElem Try.prog 51) []) 0 (fun i => encP (atP l i)) l.length, Nat.zero_le _, by simpa [newP] using paysAt_app (z := zeroElem Try.prog 51) (paysAt_nil (g := vlist (zeroElem Try.prog 51) [])) (paysAt_self l), by omega⟩
              intro x ih
              have hxi := x.hi
              have hxm := x.hm
              have hxl := x.hg.1
              rw [List.length_append, newP_len, List.length_take] at hxl
              conv => whnf
              repeat ((first | with_reducible refine branch_true rfl ?_ | with_reducible refine branch_false rfl ?_); conv => whnf)
              refine branch_of (fun g1 => ?_) (fun g1 => ?_)
              · have g2 : x.i < net.length := by
                  have g1 : (x.i : Int) < (nl : Int) := of_decide_eq_true g1
                  omega
                have hw : IntKind.i64.wrap ((x.i : Int) + 1) = ((x.i + 1 : Nat) : Int) := by rw [wrap64 (by omega)]; omega
                have hf : net[x.i]? = some (Fw.flOf net x.i) := by
                  unfold Fw.flOf
                  rw [List.getD, List.getElem?_eq_getElem g2]; rfl
                have hat := hng.2 _ _ hf
                generalize Fw.flOf net x.i = f at hf hat
                have hwi : IntKind.i64.wrap (IntKind.i64.wrap ((0 : Int) + 1) + (x.i : Int)) = lastId l + ((x.i + 1 : Nat) : Int) := by rw [hidv, wrap64 (x := lastId l + 1) (by omega), wrap64 (by omega)]; omega
                conv => whnf
                repeat ((first | with_reducible refine branch_true rfl ?_ | with_reducible refine branch_false rfl ?_); conv => whnf)
                refine st_addr_v (sz := 4) (len := nl) (n := (x.i : Int)) (u := 38) (v := Fw.encF f) rfl rfl rfl rfl rfl (in_range (by omega)) hat ?_
                conv => whnf
                repeat ((first | with_reducible refine branch_true rfl ?_ | with_reducible refine branch_false rfl ?_); conv => whnf)
                refine st_addr_v (sz := 4) (len := nl) (n := (x.i : Int)) (u := 38) (v := Fw.encF f) rfl rfl rfl rfl rfl (in_range (by omega)) hat ?_
                conv => whnf
                repeat ((first | with_reducible refine branch_true rfl ?_ | with_reducible refine branch_false rfl ?_); conv => whnf)
                refine st_addr_v (sz := 4) (len := nl) (n := (x.i : Int)) (u := 38) (v := Fw.encF f) rfl rfl rfl rfl rfl (in_range (by omega)) hat ?_
                conv => whnf
                repeat ((first | with_reducible refine branch_true rfl ?_ | with_reducible refine branch_false rfl ?_); conv => whnf)
                refine st_append (sz := 5) (len := x.len) (g := x.g) (u := 51) (m := 1) (gg := vlist (zeroElem Try.prog 51) [encP ⟨IntKind.i64.wrap (IntKind.i64.wrap ((0 : Int) + 1) + (x.i : Int)), f.m, f.c, f.n, 1⟩]) rfl rfl rfl rfl rfl (room56 (by omega)) ?_
                conv => whnf
                repeat ((first | with_reducible refine branch_true rfl ?_ | with_reducible refine branch_false rfl ?_); conv => whnf)
                obtain ⟨y, y1, y2, y3⟩ : ∃ y : MkHd l net, y.i = x.i + 1 ∧ y.len = x.len + 1 ∧ y.g = vapp (zeroElem Try.prog 51) x.g x.len (vlist (zeroElem Try.prog 51) [encP ⟨IntKind.i64.wrap (IntKind.i64.wrap ((0 : Int) + 1) + (x.i : Int)), f.m, f.c, f.n, 1⟩]) 1 := by
                  refine ⟨⟨x.i + 1, x.len + 1, _, g2, ?_, by omega⟩, rfl, rfl, rfl⟩
                  rw [Fw.take_snocF hf, newP_snoc, ← List.append_assoc]
                  refine paysAt_app x.hg (paysAt_one ?_)
                  show encP ⟨IntKind.i64.wrap (IntKind.i64.wrap ((0 : Int) + 1) + (x.i : Int)), f.m, f.c, f.n, 1⟩ = _
                  rw [hwi, List.length_take, Nat.min_eq_left (by omega), show lastId l + ((x.i + 1 : Nat) : Int) = lastId l + (x.i : Int) + 1 by omega]
                refine loop_to ih y (by omega) ?_
                show St.mk [(7, .vec 4 nl ng), (9, .int .i64 ((0 : Int))), (10, .own (.vec 5 (x.len + 1) (vapp (zeroElem Try.prog 51) x.g x.len (vlist (zeroElem Try.prog 51) [encP ⟨IntKind.i64.wrap (IntKind.i64.wrap ((0 : Int) + 1) + (x.i : Int)), f.m, f.c, f.n, 1⟩]) 1))), (11, .int .i64 (IntKind.i64.wrap ((x.i : Int) + 1)))] [] [] none = St.mk [(7, .vec 4 nl ng), (9, .int .i64 ((0 : Int))), (10, .own (.vec 5 y.len y.g)), (11, .int .i64 y.i)] [] [] none
                rw [y1, y2, y3, hw]
              · have g2 : x.i = net.length := by
                  have g1 : ¬ (x.i : Int) < (nl : Int) := of_decide_eq_false g1
                  omega
                have hend := x.hg
                rw [g2, List.take_length] at hend
                have hS2 : makeS l fl n ks = (l ++ newP (lastId l) net, 0) := by rw [hS, decide_eq_false h5]; rfl
                conv => whnf
                repeat ((first | with_reducible refine branch_true rfl ?_ | with_reducible refine branch_false rfl ?_); conv => whnf)
                rw [hS2]
                exact ⟨_, _, rfl, hend⟩
end Go.Proofs


set_option linter.unusedVariables false
set_option linter.unusedSimpArgs false
namespace Go.Proofs
open Ax Go
set_option maxRecDepth 10000
theorem roomF {m : Nat} (h : m ≤ 1000000) : roomOK m (tyBy Try.prog 38) = true := by
  have : tyBy Try.prog 38 ≤ 64 := by decide +kernel
  generalize tyBy Try.prog 38 = b at this
  simp only [roomOK, Bool.and_eq_true, Nat.ble_eq]
  refine ⟨?_, by omega⟩
  calc (m + (m + 768) / 4 + 512) * b ≤ 2000000 * 64 := Nat.mul_le_mul (by omega) this
    _ ≤ 281474976710656 := by decide
set_option maxHeartbeats 8000000 in
theorem lawMakes : ∀ xs, TypedArgs Try.prog 8 Try.f3.params.toList xs → CallOK Try.prog 3 xs (fun r => r = .bool true) := by
  intro xs h
  rw [Try.params3] at h
  obtain ⟨a0, r0, rfl, h0, a1, r1, rfl, h1, rfl⟩ := h
  obtain ⟨l, hs, hz, hn⟩ := arg_pays (d := 5) h0
  obtain ⟨fl, n, hs2, hn2⟩ := arg_flows (d := 5) h1
  refine ok_same (.cons hs (.cons hs2 .nil)) ?_
  refine okV ?_
  conv => whnf
  repeat ((first | with_reducible refine branch_true rfl ?_ | with_reducible refine branch_false rfl ?_); conv => whnf)
  refine branch_of (fun g1 => ?_) (fun g1 => ?_)
  · conv => whnf
    repeat ((first | with_reducible refine branch_true rfl ?_ | with_reducible refine branch_false rfl ?_); conv => whnf)
    refine call_is goesOK ?_
    conv => whnf
    repeat ((first | with_reducible refine branch_true rfl ?_ | with_reducible refine branch_false rfl ?_); conv => whnf)
  · have g1 : l.length ≤ 1100 := by have := of_decide_eq_false g1; omega
    conv => whnf
    repeat ((first | with_reducible refine branch_true rfl ?_ | with_reducible refine branch_false rfl ?_); conv => whnf)
    refine branch_of (fun g2 => ?_) (fun g2 => ?_)
    · conv => whnf
      repeat ((first | with_reducible refine branch_true rfl ?_ | with_reducible refine branch_false rfl ?_); conv => whnf)
      refine call_is goesOK ?_
      conv => whnf
      repeat ((first | with_reducible refine branch_true rfl ?_ | with_reducible refine branch_false rfl ?_); conv => whnf)
    · have g2 : n ≤ 200 := by have := of_decide_eq_false g2; omega
      obtain ⟨ks, hr, hp⟩ := exists_rise (Fw.keysF fl n) (Fw.keysF_nodup fl n)
      have lA := makeS_len (l := l) (fl := fl) (n := n) (ks := ks) g1 hp
      have hF : Same (.vec 4 (0 + n) (vapp (zeroElem Try.prog 38) (vlist (zeroElem Try.prog 38) []) 0 (fun i => Fw.encF (fl i)) n)) (Fw.encL fl n) := by
        have e : 0 + n = n := Nat.zero_add n
        rw [e]
        exact .vec fun i hi => vapp_two (F := fun i => Fw.encF (fl i)) (i := 0) (fun j hj => absurd hj (by omega)) (fun j hj => by rw [Nat.zero_add]) i (by omega)
      have hO : PaysAt l (0 + l.length) (vapp (zeroElem Try.prog 51) (vlist (zeroElem Try.prog 51) []) 0 (fun i => encP (atP l i)) l.length) := paysAt_app (paysAt_nil (g := vlist (zeroElem Try.prog 51) [])) (paysAt_self l)
      have vM := ok_same (.cons (paysAt_same hO) (.cons hF .nil)) (make l fl n ks hr hp)
      have vR := refMake l hz fl n ks hr hp
      have hnil : (makeS l fl n ks).2 ≠ 0 → (makeS l fl n ks).1 = [] := makeS_nil
      conv => whnf
      repeat ((first | with_reducible refine branch_true rfl ?_ | with_reducible refine branch_false rfl ?_); conv => whnf)
      refine st_append (sz := 5) (len := 0) (u := 51) (m := l.length) (gg := fun i => encP (atP l i)) rfl rfl rfl rfl rfl (room56 (by omega)) ?_
      conv => whnf
      repeat ((first | with_reducible refine branch_true rfl ?_ | with_reducible refine branch_false rfl ?_); conv => whnf)
      refine st_append (sz := 4) (len := 0) (u := 38) (m := n) (gg := fun i => Fw.encF (fl i)) rfl rfl rfl rfl rfl (roomF (by omega)) ?_
      conv => whnf
      repeat ((first | with_reducible refine branch_true rfl ?_ | with_reducible refine branch_false rfl ?_); conv => whnf)
      obtain ⟨A, e, hM⟩ : ∃ A e, makeS l fl n ks = (A, e) := ⟨_, _, rfl⟩
      rw [hM] at vM vR lA hnil
      by_cases he : e = 0
      · subst he
        refine call_by vM (makeR_some _ (fun h => absurd rfl h)) ?_
        intro r hr
        obtain ⟨la, ga, rfl, ha⟩ := hr.elim (fun h => h.2) (fun h => absurd rfl h.1)
        have hal : la ≤ 100000 := by rw [ha.1]; exact lA
        conv => whnf
        repeat ((first | with_reducible refine branch_true rfl ?_ | with_reducible refine branch_false rfl ?_); conv => whnf)
        refine call_by vR (turnV_some _) ?_
        rintro r ⟨lb, gb, rfl, hb⟩
        conv => whnf
        repeat ((first | with_reducible refine branch_true rfl ?_ | with_reducible refine branch_false rfl ?_); conv => whnf)
        refine call_is (ok_same (.cons (paysAt_same hO) .nil) (check l)) ?_
        conv => whnf
        repeat ((first | with_reducible refine branch_true rfl ?_ | with_reducible refine branch_false rfl ?_); conv => whnf)
        refine call_is (refCheck l hz) ?_
        conv => whnf
        repeat ((first | with_reducible refine branch_true rfl ?_ | with_reducible refine branch_false rfl ?_); conv => whnf)
        refine branch_false (by simp) ?_
        conv => whnf
        repeat ((first | with_reducible refine branch_true rfl ?_ | with_reducible refine branch_false rfl ?_); conv => whnf)
        refine force_by (lend_row (id := 0) (sz := 5) (n := la) (n' := la) rfl (Nat.le_refl _)) ?_
        conv => whnf
        repeat ((first | with_reducible refine branch_true rfl ?_ | with_reducible refine branch_false rfl ?_); conv => whnf)
        refine call_is (same_at (paysAt_shift ha) hb (by have := ha.1; omega)) ?_
        conv => whnf
        repeat ((first | with_reducible refine branch_true rfl ?_ | with_reducible refine branch_false rfl ?_); conv => whnf)
        refine loop_by (cx := cxV) rfl progOK (ι := {i : Nat // i ≤ la} × (Nat → AV)) (fun x => la - x.1.1) (fun x => ⟨[(0, .row 0 5 0 la), (4, .int .i64 la), (5, .int .i64 x.1.1)], [.arr 5 la x.2], [], none⟩) ?_ (⟨0, Nat.zero_le _⟩, _)
        rintro ⟨⟨i, hi⟩, e⟩ ih
        conv => whnf
        repeat ((first | with_reducible refine branch_true rfl ?_ | with_reducible refine branch_false rfl ?_); conv => whnf)
        refine branch_of (fun t1 => ?_) (fun t1 => ?_)
        · have t2 : i < la := by
            have t1 : (i : Int) < (la : Int) := of_decide_eq_true t1
            omega
          have hw : IntKind.i64.wrap ((i : Int) + 1) = ((i + 1 : Nat) : Int) := by rw [wrap64 (by omega)]; omega
          conv => whnf
          repeat ((first | with_reducible refine branch_true rfl ?_ | with_reducible refine branch_false rfl ?_); conv => whnf)
          refine st_addr_row (u := 51) (id := 0) (sz := 5) (lo := 0) (len := la) (n := (i : Int)) rfl rfl rfl rfl rfl (in_range t2) ?_
          conv => whnf
          repeat ((first | with_reducible refine branch_true rfl ?_ | with_reducible refine branch_false rfl ?_); conv => whnf)
          refine st_store_e (id := 0) (sz := 5) (j := 0 + i) (len := la) (g := e) rfl rfl (by omega) rfl rfl ?_
          conv => whnf
          repeat ((first | with_reducible refine branch_true rfl ?_ | with_reducible refine branch_false rfl ?_); conv => whnf)
          exact loop_to ih (⟨i + 1, t2⟩, _) (show la - (i + 1) < la - i by omega) (congrArg (fun q => St.mk [(0, .row 0 5 0 la), (4, .int .i64 la), (5, .int .i64 q)] [.arr 5 la _] [] none) hw)
        · clear ih t1
          conv => whnf
          repeat ((first | with_reducible refine branch_true rfl ?_ | with_reducible refine branch_false rfl ?_); conv => whnf)
          refine call_is (same_at hO (paysAt_self l) (by omega)) ?_
          conv => whnf
          repeat ((first | with_reducible refine branch_true rfl ?_ | with_reducible refine branch_false rfl ?_); conv => whnf)
          refine call_is goesOK ?_
          conv => whnf
          repeat ((first | with_reducible refine branch_true rfl ?_ | with_reducible refine branch_false rfl ?_); conv => whnf)
          rfl
      · obtain rfl : A = [] := hnil he
        refine call_by vM (makeR_some _ (fun _ => rfl)) ?_
        intro r hr
        obtain ⟨ga, rfl⟩ := hr.elim (fun h => absurd h.1 he) (fun h => h.2.2)
        have ha : PaysAt [] 0 ga := paysAt_nil
        conv => whnf
        repeat ((first | with_reducible refine branch_true rfl ?_ | with_reducible refine branch_false rfl ?_); conv => whnf)
        refine call_by vR (turnV_some _) ?_
        rintro r ⟨lb, gb, rfl, hb⟩
        conv => whnf
        repeat ((first | with_reducible refine branch_true rfl ?_ | with_reducible refine branch_false rfl ?_); conv => whnf)
        refine call_is (ok_same (.cons (paysAt_same hO) .nil) (check l)) ?_
        conv => whnf
        repeat ((first | with_reducible refine branch_true rfl ?_ | with_reducible refine branch_false rfl ?_); conv => whnf)
        refine call_is (refCheck l hz) ?_
        conv => whnf
        repeat ((first | with_reducible refine branch_true rfl ?_ | with_reducible refine branch_false rfl ?_); conv => whnf)
        refine branch_false (by simp) ?_
        conv => whnf
        repeat ((first | with_reducible refine branch_true rfl ?_ | with_reducible refine branch_false rfl ?_); conv => whnf)
        refine call_is (same_at (paysAt_shift ha) hb (by have := ha.1; omega)) ?_
        conv => whnf
        repeat ((first | with_reducible refine branch_true rfl ?_ | with_reducible refine branch_false rfl ?_); conv => whnf)
        refine branch_false (by simp) ?_
        conv => whnf
        repeat ((first | with_reducible refine branch_true rfl ?_ | with_reducible refine branch_false rfl ?_); conv => whnf)
        refine loop_by (cx := cxV) rfl progOK (ι := {i : Nat // i ≤ 0} × (Nat → AV)) (fun x => 0 - x.1.1) (fun x => ⟨[(0, .row 0 5 0 0), (4, .int .i64 0), (5, .int .i64 x.1.1)], [.arr 5 0 x.2], [], none⟩) ?_ (⟨0, Nat.zero_le _⟩, _)
        rintro ⟨⟨i, hi⟩, e⟩ ih
        clear ih
        conv => whnf
        repeat ((first | with_reducible refine branch_true rfl ?_ | with_reducible refine branch_false rfl ?_); conv => whnf)
        refine call_is (same_at hO (paysAt_self l) (by omega)) ?_
        conv => whnf
        repeat ((first | with_reducible refine branch_true rfl ?_ | with_reducible refine branch_false rfl ?_); conv => whnf)
        refine call_is goesOK ?_
        conv => whnf
        repeat ((first | with_reducible refine branch_true rfl ?_ | with_reducible refine branch_false rfl ?_); conv => whnf)
        rfl
end Go.Proofs

