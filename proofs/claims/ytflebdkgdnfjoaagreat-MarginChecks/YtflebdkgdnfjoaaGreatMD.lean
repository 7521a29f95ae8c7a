import Derived.Test.YtflebdkgdnfjoaaGreatMC
import Derived.Laws.BytesString
import Derived.Laws.Cells
set_option linter.unusedVariables false
set_option linter.unusedSimpArgs false
namespace Ax
open Go Go.RowKit
section
variable {P : Program} {w : World} {F : Nat → Prop} {U : Nat → Nat} {bl : Blocks}
theorem eqFs_conf {E : TypeId → AV → AV → Option Bool} (hE : ∀ t x y bx b', E t x x = some bx → E t y y = some b' → ∃ b, E t x y = some b) {xs ys : List AV} : ∀ (fs : List Field) bx b', eqFsWith P E xs xs fs = some bx → eqFsWith P E ys ys fs = some b' → ∃ b, eqFsWith P E xs ys fs = some b
  | [], bx, b', h, k => ⟨true, rfl⟩
  | f :: r, bx, b', h, k => by
    simp only [eqFsWith] at h k ⊢
    cases hn : (f.name == "_") with
    | true => simp [hn] at h
    | false =>
      simp only [hn, cond_false] at h k ⊢
      cases h1 : partAV P f.type xs f.offset with
      | none => simp [h1] at h
      | some a =>
        cases k1 : partAV P f.type ys f.offset with
        | none => simp [k1] at k
        | some c =>
          simp only [h1, k1] at h k ⊢
          cases h3 : E f.type a a with
          | none => simp [h3] at h
          | some e =>
            cases k3 : E f.type c c with
            | none => simp [k3] at k
            | some e' =>
              simp only [h3, k3] at h k
              obtain ⟨d, hd, _⟩ := Option.map_eq_some_iff.1 h
              obtain ⟨d', hd', _⟩ := Option.map_eq_some_iff.1 k
              obtain ⟨b, hb⟩ := hE _ _ _ _ _ h3 k3
              obtain ⟨b2, hb2⟩ := eqFs_conf hE r d d' hd hd'
              simp only [hb, hb2]; exact ⟨_, rfl⟩
theorem eqT_conf : ∀ (d : Nat) t x y bx b', eqT P d t x x = some bx → eqT P d t y y = some b' → ∃ b, eqT P d t x y = some b
  | 0, t, x, y, bx, b', h, _ => by simp [eqT] at h
  | d + 1, t, x, y, bx, b', h, k => by
    unfold eqT at h k ⊢
    split at h
    · rename_i _ k0 ka na kb nb ht he
      injection he with e1 e2
      subst e1 e2
      rw [ht] at k ⊢
      cases y <;> simp only [reduceCtorEq] at k
      rename_i ky ny
      cases hk : decide (ka = k0) with
      | false => simp [hk] at h
      | true =>
        cases hk' : decide (ky = k0) with
        | false => simp [hk'] at k
        | true => simp [hk, hk']
    · rename_i _ a a' ht he
      rw [ht] at k ⊢
      cases y <;> simp only [reduceCtorEq] at k
      exact ⟨_, rfl⟩
    · rename_i _ a a' ht he
      rw [ht] at k ⊢
      cases y <;> simp only [reduceCtorEq] at k
      exact ⟨_, rfl⟩
    · rename_i _ fs xs xs' ht he
      injection he with e1
      subst e1
      rw [ht] at k ⊢
      cases y <;> simp only [reduceCtorEq] at k
      rename_i ys
      cases hst : P.stoodInHeld t with
      | true => simp [hst] at h
      | false =>
        simp only [hst, cond_false] at h k ⊢
        exact eqFs_conf (fun t x y bx b' => eqT_conf d t x y bx b') _ _ _ h k
    · simp at h
theorem eqFs_mem {E : TypeId → AV → AV → Option Bool} {xs : List AV} : ∀ {fs : List Field} {b : Bool}, eqFsWith P E xs xs fs = some b → ∀ f ∈ fs, f.name ≠ "_" ∧ ∃ a c, partAV P f.type xs f.offset = some a ∧ E f.type a a = some c
  | [], b, _, f, hf => by simp at hf
  | g :: r, b, h, f, hf => by
    simp only [eqFsWith] at h
    cases hn : (g.name == "_") with
    | true => simp [hn] at h
    | false =>
      simp only [hn, cond_false] at h
      cases h1 : partAV P g.type xs g.offset with
      | none => simp [h1] at h
      | some a =>
        simp only [h1] at h
        cases h3 : E g.type a a with
        | none => simp [h3] at h
        | some e =>
          simp only [h3] at h
          obtain ⟨d, hd, _⟩ := Option.map_eq_some_iff.1 h
          rcases List.mem_cons.1 hf with rfl | hf
          · exact ⟨by simpa using hn, a, e, h1, h3⟩
          · exact eqFs_mem hd f hf
theorem forIn_ok {α : Type} {g : α → PUnit → Sem (ForInStep PUnit)} : ∀ (l : List α), (∀ x ∈ l, (g x ⟨⟩).run P w = .ok (.yield ⟨⟩) w) → (forIn l PUnit.unit g : Sem PUnit).run P w = .ok ⟨⟩ w
  | [], _ => by simp
  | x :: r, h => by
    simp only [List.forIn_cons, Sem.run_bind, h x (by simp), Result.andThen_ok]
    exact forIn_ok r fun y hy => h y (by simp [hy])
theorem checkKey_run {em : Bool} : ∀ (d n : Nat), d ≤ n → ∀ t x x' b, eqT P d t x x = some b → Rep w F U bl x x' → (Instr.checkKey em n t x').run P w = .ok () w
  | 0, _, _ => fun t x x' b h _ => by simp [eqT] at h
  | d + 1, 0, hd => absurd hd (by omega)
  | d + 1, n + 1, hd => fun t x x' b h hx => by
    unfold eqT at h
    split at h
    · rename_i _ k0 ka na kb nb ht he
      obtain rfl := rep_int hx
      simp [Instr.checkKey, run_und ht (by simp)]
    · rename_i _ a a' ht he
      obtain rfl := rep_bool hx
      simp [Instr.checkKey, run_und ht (by simp)]
    · rename_i _ a a' ht he
      obtain rfl := rep_str hx
      simp [Instr.checkKey, run_und ht (by simp)]
    · rename_i _ fs xs xs' ht he
      injection he with e1
      subst e1
      cases hst : P.stoodInHeld t with
      | true => simp [hst] at h
      | false =>
        simp only [hst, cond_false] at h
        cases hx with
        | agg hn1 h1 =>
          simp only [Instr.checkKey, Sem.run_bind, run_und ht (by simp), Result.andThen_ok]
          rw [← Array.forIn_toList, forIn_ok _ (fun f hf => ?_)]
          · simp
          · obtain ⟨hne, a, c, ha, hc⟩ := eqFs_mem h f hf
            obtain ⟨a', ra, pa⟩ := part_sound ha (cellsRep_arr hn1 h1)
            simp [hne, ra, checkKey_run d n (by omega) _ _ _ _ hc pa]
    · simp at h
theorem key_equal {kt : TypeId} {q k : AV} {q' k' : Value} {b : Bool} (h : eqT P depth0 kt q k = some b) (hq : Rep w F U bl q q') (hk : Rep w F U bl k k') : (Op.equal kt q' k').run P w = .ok b w := by
  simp only [Op.equal, Op.maxDepth]; exact eqT_sound depth0 10000 (by decide) _ _ _ _ _ _ h hq hk
theorem keyOk_of {kt : TypeId} {q : AV} (h : keyOk P kt q = true) : (∃ b, eqT P depth0 kt q q = some b) ∧ q.isData = true := by
  unfold keyOk at h
  rw [Bool.and_eq_true, Bool.and_eq_true] at h
  exact ⟨Option.isSome_iff_exists.1 h.1, h.2.1⟩
theorem keyOk_shape {kt : TypeId} {q : AV} (h : keyOk P kt q = true) : keyShape P kt q = true := by
  unfold keyOk at h
  rw [Bool.and_eq_true, Bool.and_eq_true] at h
  exact h.2.2
theorem eqKey_of {kt : TypeId} {q k : AV} (hq : keyOk P kt q = true) (hk : keyOk P kt k = true) : eqT P depth0 kt q k = some (eqKey P kt q k) := by
  obtain ⟨⟨b1, h1⟩, _⟩ := keyOk_of hq
  obtain ⟨⟨b2, h2⟩, _⟩ := keyOk_of hk
  obtain ⟨b, hb⟩ := eqT_conf depth0 kt q k b1 b2 h1 h2
  rw [eqKey, hb]; rfl
def found (es : List MapEntry) (i : Nat) : Option Nat → Option (Nat × Value)
  | none => none
  | some j => (es[j]?).map fun e => (i + j, e.val)
theorem found_cons (e : MapEntry) (es : List MapEntry) (i : Nat) (r : Option Nat) : found (e :: es) i (r.map (· + 1)) = found es (i + 1) r := by
  cases r with
  | none => rfl
  | some j => simp only [Option.map_some, found, List.getElem?_cons_succ]; congr 1; funext e; congr 1; omega
theorem findAsking_run {kt : TypeId} {q : AV} {q' : Value} (hq : Rep w F U bl q q') (hqk : keyOk P kt q = true) : ∀ (ents : List (AV × AV)) (es : List MapEntry) (i : Nat), ents.length = es.length → (∀ p ∈ ents, keyOk P kt p.1 = true) →
    (∀ (j : Nat) p e, ents[j]? = some p → es[j]? = some e → Rep w F U bl p.1 e.key) → (Instr.findAsking kt q' es i).run P w = .ok (found es i (mpos P kt ents q)) w
  | [], [], i, _, _, _ => by simp [Instr.findAsking, mpos, found]
  | [], e :: es, i, h, _, _ => by simp at h
  | p :: ents, [], i, h, _, _ => by simp at h
  | (k, v) :: ents, e :: es, i, h, hk, hr => by
    have h1 := key_equal (eqKey_of hqk (hk (k, v) (by simp))) hq (hr 0 (k, v) e rfl rfl)
    have ih := findAsking_run hq hqk ents es (i + 1) (by simpa using h) (fun p hp => hk p (by simp [hp])) (fun j p e hp he => hr (j + 1) p e (by simpa using hp) (by simpa using he))
    simp only [Instr.findAsking, Sem.run_bind, h1, Result.andThen_ok, mpos]
    cases eqKey P kt q k with
    | true => simp [found]
    | false => simp only [Bool.false_eq_true, if_false, cond_false]; rw [ih, found_cons]
theorem sameNow_of {kt : TypeId} {q k : AV} {q' k' : Value} (hqk : keyOk P kt q = true) (hkk : keyOk P kt k = true) (hq : Rep w F U bl q q') (hk : Rep w F U bl k k') :
    Instr.sameNow (tyD P kt) q' k' = some (eqKey P kt q k) ∨ ((∃ fs, tyD P kt = .struct fs) ∧ Instr.sameNow (tyD P kt) q' k' = none) := by
  have h := eqKey_of hqk hkk
  revert h
  generalize eqKey P kt q k = b
  intro h
  replace h : eqT P (11 + 1) kt q k = some b := h
  unfold eqT at h
  split at h
  · rename_i k0 ka na kb nb ht
    obtain rfl := rep_int hq
    obtain rfl := rep_int hk
    rw [ht]
    left
    cases hk : decide (ka = k0) with
    | false => simp [hk] at h
    | true =>
      cases hk' : decide (kb = k0) with
      | false => simp [hk, hk'] at h
      | true =>
        simp only [hk, hk', Bool.and_true, cond_true, Option.some.injEq] at h
        simp only [decide_eq_true_eq] at hk hk'
        subst hk hk' h
        simp only [Instr.sameNow, if_true]; rfl
  · rename_i a a' ht
    obtain rfl := rep_bool hq
    obtain rfl := rep_bool hk
    rw [ht]; left
    simp only [Instr.sameNow]; exact h
  · rename_i a a' ht
    obtain rfl := rep_str hq
    obtain rfl := rep_str hk
    rw [ht]; left
    simp only [Instr.sameNow]
    rw [← h]; congr 1
    rw [Bool.eq_iff_iff, decide_eq_true_iff]
    obtain ⟨x⟩ := a
    obtain ⟨y⟩ := a'
    show (x == y) = true ↔ _
    simp
  · rename_i fs xs ys ht
    right
    cases hq; cases hk
    rw [ht]
    exact ⟨⟨_, rfl⟩, rfl⟩
  · simp at h
theorem findNow_run {kt : TypeId} {q : AV} {q' : Value} (hq : Rep w F U bl q q') (hqk : keyOk P kt q = true) : ∀ (ents : List (AV × AV)) (es : List MapEntry) (i : Nat), ents.length = es.length → (∀ p ∈ ents, keyOk P kt p.1 = true) →
    (∀ (j : Nat) p e, ents[j]? = some p → es[j]? = some e → Rep w F U bl p.1 e.key) → Instr.findNow (tyD P kt) q' es i = some (found es i (mpos P kt ents q)) ∨ Instr.findNow (tyD P kt) q' es i = none
  | [], [], i, _, _, _ => .inl rfl
  | [], e :: es, i, h, _, _ => by simp at h
  | p :: ents, [], i, h, _, _ => by simp at h
  | (k, v) :: ents, e :: es, i, h, hk, hr => by
    have ih := findNow_run hq hqk ents es (i + 1) (by simpa using h) (fun p hp => hk p (by simp [hp])) (fun j p e hp he => hr (j + 1) p e (by simpa using hp) (by simpa using he))
    simp only [Instr.findNow, mpos]
    rcases sameNow_of hqk (hk (k, v) (by simp)) hq (hr 0 (k, v) e rfl rfl) with h1 | ⟨_, h1⟩
    · rw [h1]
      cases eqKey P kt q k with
      | true => left; simp [found]
      | false => simp only [cond_false, found_cons]; exact ih
    · rw [h1]; exact .inr rfl
theorem findKey_run {kt : TypeId} {q : AV} {q' : Value} (hq : Rep w F U bl q q') (hqk : keyOk P kt q = true) {ents : List (AV × AV)} {es : List MapEntry} (hl : ents.length = es.length) (hk : ∀ p ∈ ents, keyOk P kt p.1 = true)
    (hr : ∀ (j : Nat) p e, ents[j]? = some p → es[j]? = some e → Rep w F U bl p.1 e.key) : (Instr.findKey kt q' es).run P w = .ok (found es 0 (mpos P kt ents q)) w := by
  have hu : ∃ d, tyD P kt = d ∧ d ≠ .invalid := by
    refine ⟨_, rfl, fun h => ?_⟩
    obtain ⟨⟨b, hb⟩, _⟩ := keyOk_of hqk
    have hb : eqT P (11 + 1) kt q q = some b := hb
    unfold eqT at hb
    rw [h] at hb
    simp at hb
  obtain ⟨d, hd, hne⟩ := hu
  simp only [Instr.findKey, Sem.run_bind, run_und hd hne, Result.andThen_ok]
  rw [← hd]
  rcases findNow_run hq hqk ents es 0 hl hk hr with h | h
  · rw [h]; simp
  · rw [h]; exact findAsking_run hq hqk ents es 0 hl hk hr
theorem eqT_scalar {d : Nat} {t : TypeId} (ht : scalarT P t = true) {x y : AV} (h : eqT P d t x y = some true) : x = y ∧ ∀ a b : Value, Rep w F U bl x a → Rep w F U bl x b → a = b ∧ ∀ n, Instr.sameBits (n + 1) a b = true := by
  cases d with
  | zero => simp [eqT] at h
  | succ d =>
    unfold eqT at h
    split at h
    · rename_i k0 ka na kb nb ht
      cases hk : decide (ka = k0) with
      | false => simp [hk] at h
      | true =>
        cases hk' : decide (kb = k0) with
        | false => simp [hk, hk'] at h
        | true =>
          simp [hk, hk'] at h
          simp only [decide_eq_true_eq] at hk hk'
          subst hk hk' h
          exact ⟨rfl, fun a b ha hb => by obtain rfl := rep_int ha; obtain rfl := rep_int hb; exact ⟨rfl, fun n => by simp [Instr.sameBits]⟩⟩
    · simp at h; subst h
      exact ⟨rfl, fun a b ha hb => by obtain rfl := rep_bool ha; obtain rfl := rep_bool hb; exact ⟨rfl, fun n => by simp [Instr.sameBits]⟩⟩
    · simp at h; subst h
      exact ⟨rfl, fun a b ha hb => by
        obtain rfl := rep_str ha; obtain rfl := rep_str hb
        refine ⟨rfl, fun n => ?_⟩
        simp only [Instr.sameBits]
        rename_i s _
        obtain ⟨s⟩ := s
        show (s == s) = true
        simp⟩
    · rename_i ht'; simp [scalarT, ht'] at ht
    · simp at h
theorem scalar_part {t : TypeId} (ht : scalarT P t = true) {cs : List AV} {off : Nat} {a : AV} (h : partAV P t cs off = some a) : cs[off]? = some a := by
  have hn : tyAgg P t = false := by
    unfold scalarT at ht; unfold tyAgg
    generalize tyD P t = d at *
    cases d <;> simp at ht ⊢
  unfold partAV at h
  rw [hn] at h
  simp only [cond_false] at h
  cases hc : ((P.underlying t).isSome && Nat.beq (tySz P t) 1) with
  | true => rw [hc] at h; exact (oneAV_some h).1
  | false => rw [hc] at h; simp at h
theorem eqFs_flat {d : Nat} {xs ys : List AV} : ∀ (fs : List Field) (i : Nat), flatFields P i fs = true → eqFsWith P (eqT P d) xs ys fs = some true → ∀ j, i ≤ j → j < i + fs.length → ∃ a, xs[j]? = some a ∧ ys[j]? = some a ∧
    ∀ u v : Value, Rep w F U bl a u → Rep w F U bl a v → u = v ∧ ∀ n, Instr.sameBits (n + 1) u v = true
  | [], i, _, _, j, h1, h2 => by simp at h2; omega
  | f :: r, i, hf, h, j, h1, h2 => by
    simp only [flatFields, Bool.and_eq_true, beq_eq, decide_eq_true_eq] at hf
    obtain ⟨⟨f1, f2⟩, f3⟩ := hf
    simp only [eqFsWith] at h
    cases hn : (f.name == "_") with
    | true => simp [hn] at h
    | false =>
      simp only [hn, cond_false] at h
      cases p1 : partAV P f.type xs f.offset with
      | none => simp [p1] at h
      | some a =>
        cases p2 : partAV P f.type ys f.offset with
        | none => simp [p1, p2] at h
        | some c =>
          simp only [p1, p2] at h
          cases h3 : eqT P d f.type a c with
          | none => simp [h3] at h
          | some e =>
            simp only [h3] at h
            obtain ⟨e2, he2, he3⟩ := Option.map_eq_some_iff.1 h
            rw [Bool.and_eq_true] at he3
            obtain ⟨rfl, rfl⟩ := he3
            rcases Nat.eq_or_lt_of_le h1 with h1 | h1
            · subst h1
              obtain ⟨rfl, hu⟩ := eqT_scalar (w := w) (F := F) (U := U) (bl := bl) f2 h3
              refine ⟨a, ?_, ?_, hu⟩
              · rw [← f1]; exact scalar_part f2 p1
              · rw [← f1]; exact scalar_part f2 p2
            · exact eqFs_flat r (i + 1) f3 he2 j (by omega) (by simp at h2; omega)
theorem eqKey_eq {kt : TypeId} {q k : AV} (hq : keyOk P kt q = true) (hk : keyOk P kt k = true) (h : eqKey P kt q k = true) : q = k ∧ ∀ u v : Value, Rep w F U bl q u → Rep w F U bl q v → u = v ∧ Instr.sameBits 10000 u v = true := by
  have he := eqKey_of hq hk
  rw [h] at he
  by_cases hs : scalarT P kt = true
  · obtain ⟨rfl, hu⟩ := eqT_scalar (w := w) (F := F) (U := U) (bl := bl) hs he
    exact ⟨rfl, fun u v h1 h2 => ⟨(hu u v h1 h2).1, (hu u v h1 h2).2 9999⟩⟩
  · have s1 := keyOk_shape hq
    have s2 := keyOk_shape hk
    unfold keyShape at s1 s2
    unfold scalarT at hs
    replace he : eqT P (11 + 1) kt q k = some true := he
    unfold eqT at he
    cases ht : tyD P kt with
    | struct fs =>
      rw [ht] at s1 s2 he
      cases q <;> simp only [reduceCtorEq, Bool.false_eq_true] at s1
      cases k <;> simp only [reduceCtorEq, Bool.false_eq_true] at s2
      rename_i xs ys
      simp only [Bool.and_eq_true, beq_eq, decide_eq_true_eq] at s1 s2
      cases hst : P.stoodInHeld kt with
      | true => simp [hst] at he
      | false =>
        simp only [hst, cond_false] at he
        have key := eqFs_flat (w := w) (F := F) (U := U) (bl := bl) fs.toList 0 s1.1 he
        have hxy : xs = ys := by
          apply List.ext_getElem?
          intro j
          by_cases hj : j < fs.toList.length
          · obtain ⟨a, h1, h2, _⟩ := key j (Nat.zero_le _) (by omega)
            rw [h1, h2]
          · rw [List.getElem?_eq_none (by omega), List.getElem?_eq_none (by omega)]
        subst hxy
        refine ⟨rfl, fun u v hu hv => ?_⟩
        cases hu with
        | @agg _ _ us n1 r1 =>
          cases hv with
          | @agg _ _ vs n2 r2 =>
            have hcell : ∀ j (h1 : j < us.size) (h2 : j < vs.size), us[j] = vs[j] ∧ Instr.sameBits 9999 us[j] vs[j] = true := by
              intro j h1 h2
              obtain ⟨a, e1, _, e3⟩ := key j (Nat.zero_le _) (by omega)
              have := e3 us[j] vs[j] (r1 j a _ e1 (by simp [h1])) (r2 j a _ e1 (by simp [h2]))
              exact ⟨this.1, this.2 9998⟩
            have huv : us = vs := by
              apply Array.ext
              · omega
              · intro j h1 h2; exact (hcell j h1 h2).1
            subst huv
            refine ⟨rfl, ?_⟩
            simp only [Instr.sameBits, Bool.and_eq_true, beq_self_eq_true, true_and, List.all_eq_true]
            rintro ⟨x, y⟩ hxy
            obtain ⟨j, hj⟩ := List.getElem?_of_mem hxy
            have hjl := (List.getElem?_eq_some_iff.1 hj).1
            simp at hjl
            rw [List.getElem?_zip_eq_some] at hj
            obtain ⟨j1, j2⟩ := hj
            have := (hcell j hjl hjl).2
            simp [hjl] at j1 j2
            rw [j1] at this
            rw [← j2, j1]; exact this
    | _ => rw [ht] at s1 hs; first | exact absurd rfl hs | (cases q <;> simp at s1)
theorem mpos_lt {kt : TypeId} {q : AV} : ∀ {ents : List (AV × AV)} {i : Nat}, mpos P kt ents q = some i → i < ents.length ∧ ∃ p, ents[i]? = some p ∧ eqKey P kt q p.1 = true
  | [], i, h => by simp [mpos] at h
  | (k, v) :: r, i, h => by
    simp only [mpos] at h
    cases he : eqKey P kt q k with
    | true => simp [he] at h; subst h; exact ⟨by simp, (k, v), rfl, he⟩
    | false =>
      simp only [he, cond_false] at h
      obtain ⟨j, hj, rfl⟩ := Option.map_eq_some_iff.1 h
      obtain ⟨h1, p, h2, h3⟩ := mpos_lt hj
      exact ⟨by simp; omega, p, by simpa using h2, h3⟩
theorem mpos_none {kt : TypeId} {q : AV} : ∀ {ents : List (AV × AV)}, mpos P kt ents q = none → ∀ p ∈ ents, eqKey P kt q p.1 = false
  | [], _, p, hp => by simp at hp
  | (k, v) :: r, h, p, hp => by
    simp only [mpos] at h
    cases he : eqKey P kt q k with
    | true => simp [he] at h
    | false =>
      simp only [he, cond_false, Option.map_eq_none_iff] at h
      rcases List.mem_cons.1 hp with rfl | hp
      · exact he
      · exact mpos_none h p hp
theorem mval_get (z : AV) : ∀ (ents : List (AV × AV)) (i : Nat) p, ents[i]? = some p → mval z ents i = p.2
  | [], i, p, h => by simp at h
  | (k, v) :: r, 0, p, h => by simp at h; subst h; rfl
  | (k, v) :: r, i + 1, p, h => by simp only [mval]; exact mval_get z r i p (by simpa using h)
theorem msetAt_length : ∀ (ents : List (AV × AV)) (i : Nat) (x : AV), (msetAt ents i x).length = ents.length
  | [], i, x => rfl
  | (k, v) :: r, 0, x => rfl
  | p :: r, i + 1, x => by simp [msetAt, msetAt_length r i x]
theorem msetAt_get : ∀ (ents : List (AV × AV)) (i : Nat) (x : AV) (j : Nat), (msetAt ents i x)[j]? = if i = j then (ents[j]?).map fun p => (p.1, x) else ents[j]?
  | [], i, x, j => by simp [msetAt]
  | (k, v) :: r, 0, x, 0 => by simp [msetAt]
  | (k, v) :: r, 0, x, j + 1 => by simp [msetAt]
  | p :: r, i + 1, x, 0 => by simp [msetAt]
  | p :: r, i + 1, x, j + 1 => by simp [msetAt, msetAt_get r i x j]
theorem zeroElem_run {e : TypeId} (h : hasZero P e = true) : ∃ z, (zeroValue e).run P w = .ok z w ∧ Rep w F U bl (zeroAV P e) z ∧ ∀ B own, OwnAt w F U B own (zeroAV P e) z := by
  unfold hasZero at h
  cases hi : P.info? e with
  | none => simp [hi] at h
  | some i =>
    simp only [hi] at h
    obtain ⟨z, hz⟩ := Option.isSome_iff_exists.1 h
    exact ⟨z, (zeroAV_run (B := 0) (F := F) (U := U) (bl := bl) hi hz).1, (zeroAV_run (B := 0) hi hz).2.1, fun B => (zeroAV_run (B := B) (w := w) (F := F) (U := U) (bl := bl) hi hz).2.2⟩
theorem zero_all {e : TypeId} (h : hasZero P e = true) : ∃ z, ∀ (w : World) (F : Nat → Prop) (U : Nat → Nat) (bl : Blocks) (B : Nat), (zeroValue e).run P w = .ok z w ∧ Rep w F U bl (zeroAV P e) z ∧ ∀ own, OwnAt w F U B own (zeroAV P e) z := by
  unfold hasZero at h
  cases hi : P.info? e with
  | none => simp [hi] at h
  | some i =>
    simp only [hi] at h
    obtain ⟨z, hz⟩ := Option.isSome_iff_exists.1 h
    exact ⟨z, fun w F U bl B => zeroAV_run hi hz⟩
mutual
theorem strip_data (v : AV) (h : v.isData = true) : v.strip.isData = true := by
  cases v with
  | own v => simp only [AV.strip]; exact strip_data v (by simpa [AV.isData] using h)
  | agg cs => simp only [AV.strip, AV.isData] at h ⊢; exact stripL_data cs h
  | tup cs => simp only [AV.strip, AV.isData] at h ⊢; exact stripL_data cs h
  | fn f a b => simp only [AV.strip, AV.isData, Bool.and_eq_true] at h ⊢; exact ⟨stripL_data a h.1, stripL_data b h.2⟩
  | uni v => rfl
  | _ => first | exact h | rfl
theorem stripL_data (l : List AV) (h : AV.isDataL l = true) : AV.isDataL (AV.stripL l) = true := by
  cases l with
  | nil => rfl
  | cons v r => simp only [AV.stripL, AV.isDataL, Bool.and_eq_true] at h ⊢; exact ⟨strip_data v h.1, stripL_data r h.2⟩
end
theorem getObj_map {b : Nat} {es : Array MapEntry} {clock : Nat} (h : w.heap[b]? = some (.map es clock)) : (getObj b).run P w = .ok (.map es clock) w := by
  simp only [getObj, Sem.run, h]
theorem map_open {h : Heap} {B : Nat} {id b : Nat} {kt : TypeId} {reg : Bool} {ents : List (AV × AV)} (ho : ObjsOK P w F U bl B h) (hb : bl[id]? = some (some b)) (hg : h.get id = .map kt reg ents) :
    ∃ es clock, w.heap[b]? = some (.map es clock) ∧ EntRep w F U ents es ∧ (∀ p ∈ ents, keyOk P kt p.1 = true) := by
  obtain ⟨own, ownM, bor, hobj⟩ := ho id b hb
  rw [hg] at hobj
  obtain ⟨es, clock, h1, h2, h3, h4, _⟩ := hobj
  exact ⟨es, clock, h1, h2, h4⟩
theorem found_get {ents : List (AV × AV)} {es : Array MapEntry} (hl : ents.length = es.size) {i : Nat} (hi : i < ents.length) : found es.toList 0 (some i) = some (i, (es[i]'(by omega)).val) := by
  have hlt : i < es.size := by omega
  simp [found, hlt]
theorem lookAV_sound {t kt e : TypeId} {h : Heap} {m q v : AV} {m' q' : Value} {ok : Bool} {B : Nat} (ht : tyD P t = .map kt e) (hl : lookAV P t h m q ok = some v) (hm : Rep w F U bl m m') (hq : Rep w F U bl q q') (ho : ObjsOK P w F U bl B h) :
    ∃ r, (Instr.lookup t m' q' ok).run P w = .ok r w ∧ Rep w F U bl v r ∧ Bare v := by
  unfold lookAV at hl
  have hbt : ∀ x : AV, Bare x → ∀ b : Bool, Bare (.tup [x, .bool b]) := by
    intro x hx b p u hp
    cases p with
    | nil => simp [AV.at] at hp; subst hp; rfl
    | cons i p =>
      simp only [AV.at] at hp
      match i with
      | 0 => exact hx p u (by simpa using hp)
      | 1 => exact bare_of rfl p u (by simpa using hp)
      | i + 2 => simp at hp
  have hrt : ∀ x y, Rep w F U bl x y → ∀ b : Bool, Rep w F U bl (.tup [x, .bool b]) (.tuple #[y, .bool b]) := by
    intro x y hr b
    refine .tup rfl fun i a c ha hc => ?_
    match i with
    | 0 => simp at ha hc; subst ha hc; exact hr
    | 1 => simp at ha hc; subst ha hc; exact .bool
    | i + 2 => simp at ha
  split at hl
  · rename_i kt' e' ht'
    rw [ht] at ht'; cases ht'
    cases hc : (keyOk P kt q && hasZero P e) with
    | false => rw [hc] at hl; simp at hl
    | true =>
      rw [hc] at hl
      simp only [cond_true, Option.some.injEq] at hl
      rw [Bool.and_eq_true] at hc
      obtain ⟨z, hz, hzr, _⟩ := zeroElem_run (w := w) (F := F) (U := U) (bl := bl) hc.2
      obtain ⟨⟨b1, hb1⟩, _⟩ := keyOk_of hc.1
      cases hm
      have hfk := findKey_run (w := w) (F := F) (U := U) (bl := bl) hq hc.1 (ents := []) (es := []) rfl (fun p hp => by simp at hp) (fun j p e hp => by simp at hp)
      refine ⟨if ok then .tuple #[z, .bool false] else z, ?_, ?_⟩
      · simp only [Instr.lookup, Sem.run_bind, run_und ht (by simp), Result.andThen_ok, Sem.run_pure, checkKey_run depth0 10000 (by decide) kt q q' b1 hb1 hq]
        simp only [mpos, found] at hfk
        simp [hfk, hz]
      · subst hl
        cases ok
        · exact ⟨hzr.strip, strip_bare _⟩
        · exact ⟨hrt _ _ hzr.strip _, hbt _ (strip_bare _) _⟩
  · rename_i kt' e' id ht'
    rw [ht] at ht'; cases ht'
    split at hl
    · rename_i kt2 reg ents hg
      cases hc : (Nat.beq kt kt2 && keyOk P kt q && hasZero P e) with
      | false => rw [hc] at hl; simp at hl
      | true =>
        rw [hc] at hl
        simp only [cond_true] at hl
        simp only [Bool.and_eq_true, beq_eq, decide_eq_true_eq] at hc
        obtain ⟨⟨rfl, hqk⟩, hzz⟩ := hc
        obtain ⟨z, hz, hzr, _⟩ := zeroElem_run (w := w) (F := F) (U := U) (bl := bl) hzz
        obtain ⟨⟨b1, hb1⟩, hqd⟩ := keyOk_of hqk
        cases hm with
        | @mapr _ _ b hb =>
          obtain ⟨es, clock, h1, h2, h4⟩ := map_open ho hb hg
          have hfk := findKey_run (w := w) (F := F) (U := U) (bl := []) (hq.data hqd) hqk (ents := ents) (es := es.toList) (by simpa using h2.1) h4 (fun j p e hp he => (h2.2 j p e hp (by simpa using he)).1)
          have hck := checkKey_run (em := es.isEmpty) depth0 10000 (by decide) kt q q' b1 hb1 hq
          cases hp : mpos P kt ents q with
          | none =>
            rw [hp] at hfk hl
            simp only [found] at hfk
            simp only [Option.some.injEq] at hl
            refine ⟨if ok then .tuple #[z, .bool false] else z, ?_, ?_⟩
            · simp [Instr.lookup, run_und ht (by simp), getObj_map h1, hck, hfk, hz]
            · subst hl
              cases ok
              · exact ⟨hzr.strip, strip_bare _⟩
              · exact ⟨hrt _ _ hzr.strip _, hbt _ (strip_bare _) _⟩
          | some i =>
            rw [hp] at hfk hl
            obtain ⟨hi, p, hpi, _⟩ := mpos_lt hp
            rw [found_get h2.1 hi] at hfk
            simp only [Option.some.injEq] at hl
            have hlt : i < es.size := by rw [← h2.1]; exact hi
            have hr := ((h2.2 i p es[i] hpi (by simp [hlt])).2).ofNil (bl := bl)
            rw [mval_get _ _ _ _ hpi] at hl
            refine ⟨if ok then .tuple #[es[i].val, .bool true] else es[i].val, ?_, ?_⟩
            · simp [Instr.lookup, run_und ht (by simp), getObj_map h1, hck, hfk]
            · subst hl
              cases ok
              · exact ⟨hr.strip, strip_bare _⟩
              · exact ⟨hrt _ _ hr.strip _, hbt _ (strip_bare _) _⟩
    · simp at hl
  · simp at hl
end
end Ax

namespace Ax
open Go Go.RowKit
section
variable {P : Program} {w : World} {F : Nat → Prop} {U : Nat → Nat} {bl : Blocks} {B : Nat}
theorem convAV_sound {s d : TypeId} {x v : AV} {x' : Value} (h : convAV P s d x = some v) (hx : Rep w F U bl x x') (hs : (P.underlying s).isSome = true) : ∃ r, (Go.convert s d x').run P w = .ok r w ∧ Rep w F U bl v r ∧ Flat v := by
  obtain ⟨ds, hds⟩ := Option.isSome_iff_exists.1 hs
  have hus : (underlying s).run P w = .ok ds w := run_underlying hds w
  unfold convAV at h
  split at h
  · rename_i k kn n hd
    obtain rfl := rep_int hx
    simp at h; subst h
    refine ⟨.int k (k.wrap n), ?_, .int, trivial⟩
    unfold Go.convert
    simp only [Sem.run_bind, hus, run_und hd (by simp), Result.andThen_ok]
    cases ds <;> rfl
  · rename_i sb hd
    obtain rfl := rep_str hx
    simp at h; subst h
    refine ⟨.string sb, ?_, .str, trivial⟩
    unfold Go.convert
    simp only [Sem.run_bind, hus, run_und hd (by simp), Result.andThen_ok]
    cases ds <;> rfl
  · rename_i e sz n g hsl hd
    split at h
    · rename_i he
      cases hc : (Nat.beq sz 1 && (List.range n).all fun i => isByte (g i)) with
      | false => rw [hc] at h; simp at h
      | true =>
        rw [hc] at h
        simp only [cond_true, Option.some.injEq] at h
        subst h
        simp only [Bool.and_eq_true, beq_eq, decide_eq_true_eq] at hc
        obtain ⟨rfl, hall⟩ := hc
        have hus := und_of (P := P) hsl (by simp)
        have hue := und_of (P := P) he (by simp)
        have hud := und_of (P := P) hd (by simp)
        cases hx with
        | @vec _ _ _ _ ao cap hcap vals hz hsz ho hr =>
          refine ⟨.string (bytesV n g), ?_, .str, trivial⟩
          rw [run_convert_bytes_string w s d e _ n cap hus hue hud]
          rcases Nat.eq_zero_or_pos n with hn | hn
          · subst hn
            cases ao with
            | none => simp [Conv.bytesToString]; rfl
            | some a => simp [Conv.bytesToString, loadCells, loadCellsFrom]; rfl
          · obtain ⟨_, a, rfl, k1, k2, k3, k4⟩ := hz hn
            have hv : ∀ i, i < n → vals i 0 = .int .u8 (byteV (g i)) := fun i hi => by
              have hb : isByte (g i) = true := List.all_eq_true.1 hall i (List.mem_range.2 hi)
              have hr0 := hr i 0
              generalize g i = v at hb hr0
              cases v with
              | int k m =>
                cases k <;> simp [isByte] at hb
                exact rep_int (hr0 _ hi rfl)
              | _ => simp [isByte] at hb
            refine run_bytesToString w a n cap ((List.range n).map fun i => byteV (g i)) ?_
            rw [run_loadCells w a n (fun i => .int .u8 (byteV (g i))) (fun j hj => ?_)]
            · simp [List.map_map, Function.comp_def]
            · have := k4 j 0 hj (by omega)
              rw [hv j hj] at this
              obtain ⟨ab, ao, as⟩ := a
              simp only at k1
              subst k1
              have hplain : (⟨ab, ao, none⟩ : Addr).add j = ⟨ab, ao + j, none⟩ := by unfold Addr.add; split <;> simp_all
              rw [hplain]
              simpa using this
    · simp at h
  · simp at h
def GivesN (P : Program) (w : World) (F : Nat → Prop) (U : Nat → Nat) (bl : Blocks) (B : Nat) (s : Sem Next) (v : AV) : Prop :=
  ∃ x w' U', s.run P w = .ok (.value x) w' ∧ Ext w U w' U' ∧ Rep w' F U' bl v x ∧ ∀ own, OwnAt w' F U' B own v x
theorem Gives.next {s : Sem Value} {v : AV} (h : Gives P w F U bl B s v) : GivesN P w F U bl B (do pure (.value (← s))) v := by
  obtain ⟨x, w', U', h1, h2⟩ := h
  exact ⟨x, w', U', by simp [h1], h2⟩
theorem gives_strip {s : Sem Value} {v : AV} {x : Value} (h : s.run P w = .ok x w) (hv : Rep w F U bl v x) : Gives P w F U bl B s v.strip := Gives.plain h hv.strip (strip_bare v)
theorem partsOf_rep {env : Env} {a : Act} (hE : ∀ t, Rep w F U bl (env.get t) (a.tmps.getD t undef)) (t : TypeId) : ∀ (ps : List (Nat × Operand)),
    (partsOf P t env ps).length = (ps.map fun (i, x) => (i, a.eval x)).length ∧ ∀ (i : Nat) p q, (partsOf P t env ps)[i]? = some p → (ps.map fun (i, x) => (i, a.eval x))[i]? = some q → p.1 = q.1 ∧ Rep w F U bl p.2 q.2
  | [] => ⟨rfl, fun i p q h => by simp [partsOf] at h⟩
  | (j, x) :: r => by
    obtain ⟨h1, h2⟩ := partsOf_rep hE t r
    refine ⟨by simp [partsOf, h1], fun i p q hp hq => ?_⟩
    cases i with
    | zero => simp [partsOf] at hp hq; subst hp; subst hq; exact ⟨rfl, (evo_rep hE _ x).strip⟩
    | succ i => exact h2 i p q (by simpa [partsOf] using hp) (by simpa using hq)
theorem nilled_rep {env : Env} {a : Act} (hE : ∀ t, Rep w F U bl (env.get t) (a.tmps.getD t undef)) (e : TypeId) (x : Operand) : Rep w F U bl (nilled (isNilC x) (evo P e env x)) (a.eval x) := by
  cases hc : isNilC x with
  | false => exact (evo_rep hE _ x).strip
  | true =>
    have hx : x = .const (.slice none 0 0) := by
      unfold isNilC at hc
      split at hc
      · rfl
      · cases hc
    subst hx
    show Rep w F U bl (AV.asNil _) _
    unfold AV.asNil
    split
    · exact .nils
    · exact (evo_rep hE _ _).strip
theorem elemParts_rep {env : Env} {a : Act} (hE : ∀ t, Rep w F U bl (env.get t) (a.tmps.getD t undef)) (e : TypeId) : ∀ (ps : List (Nat × Operand)),
    (elemParts P e env ps).length = (ps.map fun (i, x) => (i, a.eval x)).length ∧ ∀ (i : Nat) p q, (elemParts P e env ps)[i]? = some p → (ps.map fun (i, x) => (i, a.eval x))[i]? = some q → p.1 = q.1 ∧ Rep w F U bl p.2 q.2
  | [] => ⟨rfl, fun i p q h => by simp [elemParts] at h⟩
  | (j, x) :: r => by
    obtain ⟨h1, h2⟩ := elemParts_rep hE e r
    refine ⟨by simp [elemParts, h1], fun i p q hp hq => ?_⟩
    cases i with
    | zero => simp [elemParts] at hp hq; subst hp; subst hq; exact ⟨rfl, nilled_rep hE _ x⟩
    | succ i => exact h2 i p q (by simpa [elemParts] using hp) (by simpa using hq)
theorem parts_map (a : Act) (ps : Array (Nat × Operand)) : (ps.map fun (i, x) => (i, a.eval x)).toList = ps.toList.map fun (i, x) => (i, a.eval x) := by simp
theorem opt_rep {env : Env} {a : Act} (hE : ∀ t, Rep w F U bl (env.get t) (a.tmps.getD t undef)) (t : TypeId) (x : Option Operand) : OptRep w F U bl (x.map (evo P t env)) (x.map a.eval) := by
  cases x with
  | none => trivial
  | some x => exact evo_rep hE t x
set_option maxHeartbeats 4000000 in
theorem evalOp_sound {o : Oper} {env : Env} {heap : Heap} {v : AV} {a : Act} (h : evalOp P o env heap = some v) (hE : ∀ t, Rep w F U bl (env.get t) (a.tmps.getD t undef))
    (ho : ObjsOK P w F U bl B heap) (hF : ¬ F w.heap.size) : GivesN P w F U bl B (execOp a.eval o) v := by
  unfold evalOp at h
  unfold execOp
  split at h
  ·
    rename_i c x y hop
    rw [hop]
    split at h
    · rename_i b hb
      simp at h; subst h
      have hc : a.eval c = .bool b := by have := evo_rep (P := P) hE 0 c; rw [hb] at this; exact rep_bool this
      obtain ⟨p1, p2⟩ := pick_rep (b := b) (evo_rep (P := P) hE o.type x).strip (evo_rep (P := P) hE o.type y).strip (strip_bare _) (strip_bare _)
      exact ⟨_, w, U, by simp [hc, asBool], Ext.refl w U, p1, fun _ => .bare p2⟩
    · simp at h
  ·
    rename_i t parts hop
    rw [hop]
    cases hb : (buildOk P t && (zeroN P t).cells.all AV.scal) with
    | false => rw [hb] at h; simp at h
    | true =>
      rw [hb] at h
      simp only [cond_true] at h
      simp only [Bool.and_eq_true] at hb
      split at h
      · rename_i cs hf
        simp only [Option.some.injEq] at h; subst h
        obtain ⟨q1, q2⟩ := partsOf_rep (P := P) hE t parts.toList
        obtain ⟨x, hx, hr⟩ := build_sound (w := w) (F := F) (U := U) (bl := bl) (qs := parts.map fun (i, x) => (i, a.eval x)) hb.1 hf (by rw [parts_map]; exact q1) (by rw [parts_map]; exact q2) hb.2
        exact (Gives.plain hx (keepNilL_rep hr) (keepNilL_bare _)).next
      · simp at h
  ·
    rename_i t len parts hop
    rw [hop]
    obtain ⟨q1, q2⟩ := elemParts_rep (P := P) hE (elemOfT P t) parts.toList
    exact (buildSlice_sound (qs := parts.map fun (i, x) => (i, a.eval x)) h hF (by rw [parts_map]; exact q1) (by rw [parts_map]; exact q2)).next
  ·
    rename_i op t x y yt hop
    rw [hop]
    obtain ⟨r, hr, hv, hf⟩ := binAV_sound (ox := x) (oy := y) h (evo_rep (P := P) hE t x).strip (evo_rep (P := P) hE yt y).strip
    exact (Gives.plain hr hv hf.bare).next
  ·
    rename_i op t x hop
    rw [hop]
    obtain ⟨r, hr, hv, hf⟩ := unAV_sound h (evo_rep (P := P) hE t x)
    exact (Gives.plain hr hv hf.bare).next
  ·
    rename_i s d x hop
    rw [hop]
    cases hs : (P.underlying s).isSome with
    | false => rw [hs] at h; simp at h
    | true =>
      rw [hs] at h
      simp only [cond_true] at h
      obtain ⟨r, hr, hv, hf⟩ := convAV_sound h (evo_rep (P := P) hE s x).strip hs
      exact (Gives.plain hr hv hf.bare).next
  ·
    rename_i x hop
    rw [hop]
    have hx := evo_rep (P := P) hE 0 x
    split at h <;> first | (simp at h; done) | skip
    all_goals rename_i hh; rw [hh] at hx; simp only [Option.some.injEq] at h; subst h; obtain ⟨x', hx'⟩ : ∃ x', a.eval x = x' := ⟨_, rfl⟩; rw [hx'] at hx
    · cases hx with | ptr hb => exact ⟨_, w, U, by simp [hx'], Ext.refl w U, .ptr hb, fun _ => .bare (bare_ptr trivial)⟩
    · cases hx with | eptr hb => exact ⟨_, w, U, by simp [hx'], Ext.refl w U, .eptr hb, fun _ => .bare (bare_ptr trivial)⟩
    · cases hx with | cptr vals hp hc hh => exact ⟨_, w, U, by simp [hx'], Ext.refl w U, .cptr vals hp hc hh, fun _ => .bare (bare_ptr trivial)⟩
    · cases hx with | fn hn hm h1 h2 => exact ⟨_, w, U, by simp [hx'], Ext.refl w U, .fn hn hm h1 h2, fun _ => .bare (bare_ptr trivial)⟩
  ·
    rename_i t x f hop
    rw [hop]
    obtain ⟨r, hr, hv, hb⟩ := fieldAddr_sound h (evo_rep (P := P) hE 0 x)
    exact (Gives.plain hr hv hb).next
  ·
    rename_i t x f hop
    rw [hop]
    have hx := (evo_rep (P := P) hE t x).strip
    split at h
    · rename_i cs u off hh hf
      obtain ⟨v0, hv0, rfl⟩ := Option.map_eq_some_iff.1 h
      rw [hh] at hx
      obtain ⟨x', hx'⟩ : ∃ x', a.eval x = x' := ⟨_, rfl⟩
      rw [hx'] at hx
      show GivesN P w F U bl B (do pure (.value (← Instr.field t (a.eval x) f))) _
      rw [hx']
      cases hx with
      | agg hn hq =>
        obtain ⟨r, hr, hv⟩ := field_sound hf hv0 (cellsRep_arr hn hq)
        exact (gives_strip hr hv).next
    · simp at h
  ·
    rename_i t x i hop
    rw [hop]
    split at h
    · rename_i n hn
      have hi := evo_rep (P := P) hE 0 i
      unfold intNat at hn
      split at hn
      · rename_i k m hh
        simp at hn; subst hn
        rw [hh] at hi
        have hi' := rep_int hi
        obtain ⟨r, hr, hv, hb⟩ := indexAddr_sound (k := k) h (evo_rep (P := P) hE t x)
        rw [← hi'] at hr
        exact (Gives.plain hr hv hb).next
      · simp at hn
    · simp at h
  ·
    rename_i t x i hop
    rw [hop]
    split at h
    · rename_i n hn
      obtain ⟨v0, hv0, rfl⟩ := Option.map_eq_some_iff.1 h
      have hi := evo_rep (P := P) hE 0 i
      unfold intNat at hn
      split at hn
      · rename_i k m hh
        simp at hn; subst hn
        rw [hh] at hi
        have hi' := rep_int hi
        obtain ⟨r, hr, hv⟩ := index_sound (k := k) hv0 (evo_rep (P := P) hE t x).strip
        rw [← hi'] at hr
        exact (gives_strip hr hv).next
      · simp at hn
    · simp at h
  ·
    rename_i t p hop
    rw [hop]
    obtain ⟨v0, hv0, rfl⟩ := Option.map_eq_some_iff.1 h
    obtain ⟨r, hr, hv⟩ := loadAV_sound hv0 (evo_rep (P := P) hE 0 p) ho
    exact (gives_strip hr hv).next
  ·
    rename_i x i hop
    rw [hop]
    split at h
    · rename_i vs hh
      obtain ⟨v0, hv0, rfl⟩ := Option.map_eq_some_iff.1 h
      have hx := evo_rep (P := P) hE 0 x
      rw [hh] at hx
      obtain ⟨x', hx'⟩ : ∃ x', a.eval x = x' := ⟨_, rfl⟩
      rw [hx'] at hx
      show GivesN P w F U bl B (do pure (.value (← Instr.extract (a.eval x) i))) _
      rw [hx']
      cases hx with
      | tup hn hq =>
        rename_i us
        have hlt : i < us.size := by rw [← hn]; exact (List.getElem?_eq_some_iff.1 hv0).1
        exact (gives_strip (s := Instr.extract (.tuple us) i) (x := us[i]) (by simp [Instr.extract, hlt]) (hq i v0 us[i] hv0 (by simp [hlt]))).next
    · simp at h
  ·
    rename_i f first caps hop
    rw [hop]
    simp only [Option.some.injEq] at h; subst h
    have e1 := evoL_rep (P := P) hE [] first.toList
    have e2 := evoL_rep (P := P) hE [] caps.toList
    refine (Gives.plain (x := .func (.func f) (first.map a.eval) (caps.map a.eval)) (by simp [Instr.makeFunc]) (.fn ?_ ?_ ?_ ?_) (bare_ptr trivial)).next
    · have := e1.1; simpa using this
    · have := e2.1; simpa using this
    · intro i x y hx hy; exact e1.2 i x y hx (by simpa using hy)
    · intro i x y hx hy; exact e2.2 i x y hx (by simpa using hy)
  ·
    rename_i t m k ok hop
    rw [hop]
    split at h
    · rename_i kt e ht
      obtain ⟨r, hr, hv⟩ := lookAV_sound ht h (evo_rep (P := P) hE t m).strip (evo_rep (P := P) hE kt k).strip ho
      exact Gives.next ⟨r, w, U, hr, Ext.refl w U, hv.1, fun _ => .bare hv.2⟩
    · simp at h
  ·
    rename_i it hop
    rw [hop]
    split at h
    · rename_i id hid
      split at h
      · rename_i qi left p hg
        simp only [Option.some.injEq] at h; subst h
        have hx := evo_rep (P := P) hE 0 it
        rw [hid] at hx
        obtain ⟨x', hx'⟩ : ∃ x', a.eval it = x' := ⟨_, rfl⟩
        rw [hx'] at hx
        cases hx with
        | @iter _ _ b hb =>
          obtain ⟨o1, o2, o3, hobj⟩ := ho id b hb
          rw [hg] at hobj
          obtain ⟨bm, es, clock, seen, last, k1, k2, k3, k4, k5, k6, k7⟩ := hobj
          obtain ⟨q1, e, q2, q3, q4, q5⟩ := k7 p rfl
          have hrun : (Instr.entry (.pointer (some ⟨b, 0, none⟩))).run P w = .ok (.tuple #[e.key, e.val]) w := by
            simp [Instr.entry, getObj, Sem.run, k3, k2, q1, q2, q3]
          refine ⟨.tuple #[e.key, e.val], w, U, by simp [hx', hrun], Ext.refl w U, ?_, fun _ => .bare ?_⟩
          · refine .tup rfl fun i x y hx hy => ?_
            match i with
            | 0 => simp at hx hy; subst hx hy; exact q4.strip.ofNil
            | 1 => simp at hx hy; subst hx hy; exact q5.strip.ofNil
            | i + 2 => simp at hx
          · have := strip_bare (.tup [p.1, p.2])
            simpa only [AV.strip, AV.stripL] using this
      · simp at h
    · simp at h
  ·
    rename_i t x lo hi mx hop
    rw [hop]
    obtain ⟨r, hr, hv, hown⟩ := sliceAV_sound (B := B) h (evo_rep (P := P) hE t x) (opt_rep hE 3 lo) (opt_rep hE 3 hi) (opt_rep hE 3 mx)
    exact Gives.next ⟨r, w, U, hr, Ext.refl w U, hv, hown⟩
  ·
    rename_i args argTypes hop
    rw [hop]
    split at h
    · rename_i x t hx ht
      have hargs : args = #[x] := by apply Array.ext'; simpa using hx
      have htys : argTypes = #[t] := by apply Array.ext'; simpa using ht
      subst hargs; subst htys
      obtain ⟨r, hr, hv, hf⟩ := lenAV_sound (args := #[]) h (evo_rep (P := P) hE t x) ho o.type
      refine ⟨r, w, U, ?_, Ext.refl w U, hv, fun _ => .bare hf.bare⟩
      simp only [resolve, Sem.run_bind, Sem.run_pure, Result.andThen_ok, invoke, builtin]
      simp [hr]
    · simp at h
  ·
    rename_i args argTypes hop
    rw [hop]
    split at h
    · rename_i x y r hl
      have hL := evoL_rep (P := P) hE [] args.toList
      rw [hl] at hL
      obtain ⟨x', r', he, hx, hr⟩ := hL.head
      have he' : (args.map a.eval).toList = x' :: r' := by simpa using he
      obtain ⟨q, hq, pq, fq⟩ := foldAV_sound (P := P) (w := w) (F := F) (U := U) (bl := bl) (f := min2) (g := Builtin.min2) (fun _ _ _ _ _ h1 h2 h3 => min2_sound h1 h2 h3) (y :: r) r' x v x' h hx hr (fun e => by simp at e)
      refine ⟨q, w, U, ?_, Ext.refl w U, pq, fun _ => .bare fq.bare⟩
      simp only [resolve, Sem.run_bind, Sem.run_pure, Result.andThen_ok, invoke, builtin]
      simp only [Builtin.min_, he', Sem.run_bind, hq, Result.andThen_ok, Sem.run_pure]
    · simp at h
  ·
    rename_i args argTypes hop
    rw [hop]
    split at h
    · rename_i x y r hl
      have hL := evoL_rep (P := P) hE [] args.toList
      rw [hl] at hL
      obtain ⟨x', r', he, hx, hr⟩ := hL.head
      have he' : (args.map a.eval).toList = x' :: r' := by simpa using he
      obtain ⟨q, hq, pq, fq⟩ := foldAV_sound (P := P) (w := w) (F := F) (U := U) (bl := bl) (f := max2) (g := Builtin.max2) (fun _ _ _ _ _ h1 h2 h3 => max2_sound h1 h2 h3) (y :: r) r' x v x' h hx hr (fun e => by simp at e)
      refine ⟨q, w, U, ?_, Ext.refl w U, pq, fun _ => .bare fq.bare⟩
      simp only [resolve, Sem.run_bind, Sem.run_pure, Result.andThen_ok, invoke, builtin]
      simp only [Builtin.max_, he', Sem.run_bind, hq, Result.andThen_ok, Sem.run_pure]
    · simp at h
  · simp at h
end
end Ax

namespace Ax
open Go Go.RowKit
theorem heap_set_length : ∀ (h : Heap) (i : Nat) (o : AObj), (h.set i o).length = h.length
  | [], _, _ => rfl
  | _ :: r, 0, _ => rfl
  | x :: r, n + 1, o => by simp only [Heap.set, List.length_cons, heap_set_length r n o]
theorem heap_get_set : ∀ (h : Heap) (i j : Nat) (o : AObj), (h.set i o).get j = if i = j ∧ j < h.length then o else h.get j
  | [], i, j, o => by simp [Heap.set, Heap.get]
  | x :: r, 0, 0, o => by simp [Heap.set, Heap.get]
  | x :: r, 0, j + 1, o => by simp [Heap.set, Heap.get]
  | x :: r, i + 1, 0, o => by simp [Heap.set, Heap.get]
  | x :: r, i + 1, j + 1, o => by simp only [Heap.set, Heap.get, heap_get_set r i j o, List.length_cons, Nat.add_right_cancel_iff, Nat.add_lt_add_iff_right]
theorem heap_get_append : ∀ (h g : Heap) (j : Nat), Heap.get (h ++ g) j = if j < h.length then h.get j else g.get (j - h.length)
  | [], g, j => by simp
  | x :: r, g, 0 => by simp [Heap.get]
  | x :: r, g, j + 1 => by simp only [List.cons_append, Heap.get, heap_get_append r g j, List.length_cons, Nat.add_lt_add_iff_right, Nat.add_sub_add_right]
theorem heap_get_none : ∀ (h : Heap) (j : Nat), h.length ≤ j → h.get j = .dead
  | [], j, _ => by cases j <;> rfl
  | x :: r, 0, h => by simp at h
  | x :: r, j + 1, h => by simp only [Heap.get]; exact heap_get_none r j (by simpa using h)
structure Wrote (w : World) (b : Nat) (o : Obj) (w' : World) : Prop where
  os : w'.os = w.os
  tape : w'.tape = w.tape
  output : w'.output = w.output
  size : w'.heap.size = w.heap.size
  here : w'.heap[b]? = some o
  other : ∀ c, c ≠ b → w'.heap[c]? = w.heap[c]?
  drawn : w'.drawn = w.drawn
theorem storeCells_run {P : Program} (b off : Nat) : ∀ (vs : List Value) (i : Nat) (w : World) (c : Array Value) (e : TypeId) (fr : Nat × Nat), w.heap[b]? = some (.cells c e fr) →
    off + i + vs.length ≤ c.size → (∀ v ∈ vs, v.oneCell' = true) → (∀ o, off + i ≤ o → o < off + i + vs.length → w.frozen? ⟨b, o, none⟩ = false) →
    ∃ w' c', (storeCells ⟨b, off, none⟩ vs i).run P w = .ok () w' ∧ Wrote w b (.cells c' e fr) w' ∧ c'.size = c.size ∧ ∀ j, c'[j]? = if off + i ≤ j ∧ j < off + i + vs.length then vs[j - (off + i)]? else c[j]?
  | [], i, w, c, e, fr, hb, hl, ho, hf => ⟨w, c, rfl, ⟨rfl, rfl, rfl, rfl, hb, fun _ _ => rfl, rfl⟩, rfl, fun j => by simp; intro h1 h2; omega⟩
  | v :: vs, i, w, c, e, fr, hb, hl, ho, hf => by
    simp only [List.length_cons] at hl hf
    have hone := ho v (by simp)
    have hlt : off + i < c.size := by omega
    have hcell : w.cell? ⟨b, off + i, none⟩ = some (c[off + i]) := by rw [cell_row hb]; simp [hlt]
    have hfr := hf (off + i) (by omega) (by omega)
    have hbs : b < w.heap.size := lt_of_some hb
    have hw1 : (w.setCell ⟨b, off + i, none⟩ v).heap[b]? = some (.cells (c.setIfInBounds (off + i) v) e fr) := by
      simp only [World.setCell, Array.getElem?_modify]
      rw [if_pos trivial, hb]; rfl
    have hoth : ∀ k, k ≠ b → (w.setCell ⟨b, off + i, none⟩ v).heap[k]? = w.heap[k]? := fun k hk => by
      simp only [World.setCell, Array.getElem?_modify]; rw [if_neg (fun h => hk h.symm)]
    have hfz : ∀ o, (w.setCell ⟨b, off + i, none⟩ v).frozen? ⟨b, o, none⟩ = w.frozen? ⟨b, o, none⟩ := by
      intro o; simp only [World.frozen?, hw1, hb]
    obtain ⟨w', c', r1, r2, r3, r4⟩ := storeCells_run (P := P) b off vs (i + 1) (w.setCell ⟨b, off + i, none⟩ v) _ e fr hw1 (by simp; omega) (fun u hu => ho u (by simp [hu])) (fun o h1 h2 => by
      rw [hfz]; exact hf o (by omega) (by omega))
    refine ⟨w', c', ?_, ⟨r2.os, r2.tape, r2.output, r2.size.trans (by simp [World.setCell]), r2.here, fun k hk => (r2.other k hk).trans (hoth k hk), r2.drawn⟩, by rw [r3]; simp, fun j => ?_⟩
    · simp only [storeCells, Sem.run_bind, addr_add]
      rw [run_store P w _ v .plain hone, hcell]
      simp only [hfr, Bool.false_eq_true, if_false, Result.andThen_ok]
      exact r1
    · rw [r4]
      simp only [List.length_cons]
      by_cases h1 : off + (i + 1) ≤ j ∧ j < off + (i + 1) + vs.length
      · rw [if_pos h1, if_pos (by omega)]
        have : j - (off + i) = (j - (off + (i + 1))) + 1 := by omega
        rw [this]; simp
      · rw [if_neg h1, Array.getElem?_setIfInBounds]
        by_cases h2 : off + i = j
        · subst h2; rw [if_pos rfl, if_pos (by omega)]; simp [hlt]
        · rw [if_neg h2, if_neg (by omega)]
section
variable {P : Program} {A : Amb} {nt : Nat} {pend : List (Nat × AObj)} {env : Env} {heap : Heap} {bor : Option (Nat × AV)} {tm : Array Value} {w : World} {U : Nat → Nat} {bl : Blocks} {ob : Loc → Option Nat}
theorem Rel.notF (h : Rel P A nt pend env heap bor tm w U bl ob) {b : Nat} (hb : w.heap.size ≤ b) : ¬ forb A bl heap b := by
  rintro (hf | ⟨id, hi, _⟩)
  · have := h.f0 b hf; have := h.hB; omega
  · have := (h.base id b hi).2.1; omega
theorem Rel.objsOK (h : Rel P A nt pend env heap bor tm w U bl ob) : ObjsOK P w (forb A bl heap) U bl A.B heap := fun id b hb => ⟨_, _, _, h.objs id b hb⟩
theorem own_keeps {w w' : World} {F F' : Nat → Prop} {U U' : Nat → Nat} {B : Nat} {own : Option Nat} {v : AV} {x : Value} (h : OwnOK w F U B own v x) (g : Grow0 w F U w' F' U')
    (hk : ∀ b, own = some b → b < w.heap.size → ¬ F b → w'.heap[b]? = w.heap[b]? ∧ U' b = U b ∧ ¬ F' b) : OwnOK w' F' U' B own v x := by
  unfold OwnOK at *
  split at h
  · rename_i sz n gg ao len cap
    rcases h with h | ⟨a, hn, e1, e2, e3, e4, e5, e6, hsz, c, el, fr, e7, e8, e9⟩
    · exact .inl h
    · obtain ⟨b1, b2, b3⟩ := hk _ e2 (lt_of_some e7) e5
      exact .inr ⟨a, hn, e1, e2, e3, e4, b3, b2.trans e6, hsz, c, el, fr, b1.trans e7, e8, fun o h1 => (frozen_block b1 o).trans (e9 o h1)⟩
  · obtain ⟨ao, cap, hx, hc, h⟩ := h
    refine ⟨ao, cap, hx, hc, ?_⟩
    rcases h with h | ⟨b, e1, e2, e3, e4, e5, hsz, c, el, fr, e7, e8, e9, e10, e11⟩
    · exact .inl h
    · obtain ⟨b1, b2, b3⟩ := hk _ e2 (lt_of_some e7) e4
      exact .inr ⟨b, e1, e2, e3, b3, b2.trans e5, hsz, c, el, fr, b1.trans e7, e8, fun o => (frozen_block b1 o).trans (e9 o), e10, fun i j q hi hq => let ⟨y, h1, h2, h3⟩ := e11 i j q hi hq; ⟨y, h1, h2, h3.mono g (BlLe.refl _)⟩⟩
  · obtain ⟨ao, cap, hx, hc, h⟩ := h
    refine ⟨ao, cap, hx, hc, ?_⟩
    rcases h with h | ⟨b, e1, e2, e3, e4, e5, hsz, c, el, fr, e7, e8, e9, e10, e11⟩
    · exact .inl h
    · obtain ⟨b1, b2, b3⟩ := hk _ e2 (lt_of_some e7) e4
      exact .inr ⟨b, e1, e2, e3, b3, b2.trans e5, hsz, c, el, fr, b1.trans e7, e8, fun o h1 => (frozen_block b1 o).trans (e9 o h1), e10, fun i j q hi hq => let ⟨y, h1, h2, h3⟩ := e11 i j q hi hq; ⟨y, h1, h2, h3.mono g (BlLe.refl _)⟩⟩
  · trivial
theorem ownAt_keeps {w w' : World} {F F' : Nat → Prop} {U U' : Nat → Nat} {B : Nat} {own : List Nat → Option Nat} {v : AV} {x : Value} (h : OwnAt w F U B own v x) (g : Grow0 w F U w' F' U')
    (hk : ∀ p b, own p = some b → b < w.heap.size → ¬ F b → w'.heap[b]? = w.heap[b]? ∧ U' b = U b ∧ ¬ F' b) : OwnAt w' F' U' B own v x :=
  fun p u hp ho => let ⟨y, h1, h2⟩ := h p u hp ho; ⟨y, h1, own_keeps h2 g (hk p)⟩
theorem obj_keeps {w w' : World} {F F' : Nat → Prop} {U U' : Nat → Nat} {bl bl' : Blocks} {B : Nat} {own : Nat → List Nat → Option Nat} {ownM : Nat → List Nat → Option Nat} {bor : Option AV} {o : AObj} {b : Nat}
    (h : ObjRep P w F U bl B own ownM bor o b) (g : Grow0 w F U w' F' U') (hbl : BlLe bl bl') (hb : w'.heap[b]? = w.heap[b]?) (hU : o.isO = true → U' b = U b) (hmi : ∀ id left bm cu, o = .iter (some id) left cu → bl[id]? = some (some bm) → w'.heap[bm]? = w.heap[bm]?)
    (hk : ∀ c, ((∃ i p, own i p = some c) ∨ ∃ i p, ownM i p = some c) → c < w.heap.size → ¬ F c → w'.heap[c]? = w.heap[c]? ∧ U' c = U c ∧ ¬ F' c) : ObjRep P w' F' U' bl' B own ownM bor o b := by
  cases o with
  | cells cs =>
    obtain ⟨c, el, fr, h1, h2, h3, h4⟩ := h
    exact ⟨c, el, fr, hb.trans h1, h2, fun o ho => (frozen_block hb o).trans (h3 o ho), fun i x y hx hy => ⟨(h4 i x y hx hy).1.mono g hbl, ownAt_keeps (h4 i x y hx hy).2 g (fun p c hc => hk c (.inl ⟨i, p, hc⟩))⟩⟩
  | arr sz n gg =>
    obtain ⟨c, el, fr, h1, h2, h3, h4, h5, h6⟩ := h
    exact ⟨c, el, fr, hb.trans h1, h2, h3, fun o ho => (frozen_block hb o).trans (h4 o ho), h5, fun i j x hi hx =>
      let ⟨y, hy, h1, hr⟩ := h6 i j x hi hx; ⟨y, hy, h1, hr.mono g (BlLe.refl _)⟩⟩
  | oarr sz n gg =>
    obtain ⟨c, el, fr, h1, h2, h3, hu, h4, h5, h6⟩ := h
    exact ⟨c, el, fr, hb.trans h1, h2, h3, (hU rfl).trans hu, fun o => (frozen_block hb o).trans (h4 o), h5, fun i j x hi hx =>
      let ⟨y, hy, h1, hr, ho⟩ := h6 i j x hi hx; ⟨y, hy, h1, hr.mono g (BlLe.refl _), ownAt_keeps ho g (fun p c hc => hk c (.inl ⟨i * sz + j, p, hc⟩))⟩⟩
  | map kt ow ents =>
    obtain ⟨es, clock, h1, h2, h3, h4, h5, h6, h7⟩ := h
    exact ⟨es, clock, hb.trans h1, ⟨h2.1, fun i p q hp hq => ⟨((h2.2 i p q hp hq).1).mono g (BlLe.refl _), ((h2.2 i p q hp hq).2).mono g (BlLe.refl _)⟩⟩, h3, h4, h5, h6,
      fun i p q hp hq => ownAt_keeps (h7 i p q hp hq) g (fun p' c hc => hk c (.inr ⟨i, p', hc⟩))⟩
  | iter o l cu =>
    cases o with
    | none => obtain ⟨h0, s, q, r, h1⟩ := h; exact ⟨h0, s, q, r, hb.trans h1⟩
    | some id =>
      obtain ⟨bm, es, clock, seen, last, h1, h2, h3, h4, h5, h6, h7⟩ := h
      exact ⟨bm, es, clock, seen, last, hbl _ _ h1, (hmi id l bm cu rfl h1).trans h2, hb.trans h3, h4, h5,
        ⟨h6.1, fun i p q hp hq => ⟨((h6.2 i p q hp hq).1).mono g (BlLe.refl _), ((h6.2 i p q hp hq).2).mono g (BlLe.refl _)⟩⟩,
        fun p hp => let ⟨k1, e', k2, k3, k4, k5⟩ := h7 p hp; ⟨k1, e', k2, k3, k4.mono g (BlLe.refl _), k5.mono g (BlLe.refl _)⟩⟩
  | dead => trivial
theorem Rel.adopt (h : Rel P A nt pend env heap bor tm w U bl ob) {id : Nat} (hid : bl[id]? = some none) {o : Obj} {w' : World} (hw : w' = { w with heap := w.heap.push o })
    (hobj : ObjRep P w' (forb A (bl.set id (some w.heap.size)) heap) U (bl.set id (some w.heap.size)) A.B (fun i p => ob (.cell id i p)) (fun i p => ob (.mapv id i p)) (borAt bor id) (heap.get id) w.heap.size)
    (hA : A.bl0[id]? ≠ some none) :
    Rel P A nt (pend.filter fun p => p.1 != id) env heap bor tm w' U (bl.set id (some w.heap.size)) ob := by
  subst hw
  have hlt : id < bl.length := (List.getElem?_eq_some_iff.1 hid).1
  have hget : ∀ (j b : Nat), (bl.set id (some w.heap.size))[j]? = some (some b) ↔ (j = id ∧ b = w.heap.size) ∨ (j ≠ id ∧ bl[j]? = some (some b)) := by
    intro j b
    rw [List.getElem?_set]
    by_cases e : id = j
    · subst e; simp [hlt]; exact ⟨fun h => h.symm, fun h => h.symm⟩
    · have e' : j ≠ id := fun h => e h.symm
      simp [e, e']
  have hle : BlLe bl (bl.set id (some w.heap.size)) := fun j b hj => (hget j b).2 (.inr ⟨fun e => by subst e; rw [hid] at hj; simp at hj, hj⟩)
  have hblk : ∀ b, b < w.heap.size → (w.heap.push o)[b]? = w.heap[b]? := fun b hb => by rw [Array.getElem?_push, if_neg (by omega)]
  have hforb : ∀ b, b < w.heap.size → forb A (bl.set id (some w.heap.size)) heap b → forb A bl heap b := by
    rintro b hb (hf | ⟨j, hj, hd⟩)
    · exact .inl hf
    · rcases (hget j b).1 hj with ⟨_, rfl⟩ | ⟨_, hj'⟩
      · omega
      · exact .inr ⟨j, hj', hd⟩
  have g : Grow0 w (forb A bl heap) U { w with heap := w.heap.push o } (forb A (bl.set id (some w.heap.size)) heap) U :=
    ⟨fun b hb hf => .inl (hforb b hb hf), fun b hb _ => ⟨Nat.le_refl _, fun o _ => cell_block (hblk b hb) o⟩, fun b hb => ⟨by simp; omega, Nat.le_refl _⟩⟩
  have kp : ∀ b, b < w.heap.size → ¬ forb A bl heap b → (w.heap.push o)[b]? = w.heap[b]? ∧ U b = U b ∧ ¬ forb A (bl.set id (some w.heap.size)) heap b :=
    fun b hb hn => ⟨hblk b hb, rfl, fun hf => hn (hforb b hb hf)⟩
  have hsz : ({ w with heap := w.heap.push o } : World).heap.size = w.heap.size + 1 := by simp
  refine { size := h.size, env := fun t => ⟨(h.env t).1.mono g hle, ownAt_keeps (h.env t).2 g (fun p b _ => kp b)⟩, len := (by rw [List.length_set]; exact h.len), objs := ?_, inj := ?_, base := ?_, obinj := h.obinj, obok := fun l b hb => ⟨(h.obok l b hb).1, (by rw [hsz]; have := (h.obok l b hb).2.1; omega), fun j hj => (by
    rcases (hget j b).1 hj with ⟨_, e⟩ | ⟨_, hj'⟩
    · have := (h.obok l b hb).2.1; omega
    · exact (h.obok l b hb).2.2 j hj')⟩, since := ?_, f0 := h.f0, hB := (by rw [hsz]; have := h.hB; omega), hG := fun b hb => (by rw [hsz]; have := h.hG b hb; omega), pend := ?_, fro := h.fro }
  · intro j b hj
    rcases (hget j b).1 hj with ⟨rfl, rfl⟩ | ⟨_, hj'⟩
    · exact hobj
    · exact obj_keeps (h.objs j b hj') g hle (hblk b (h.base j b hj').2.1) (fun _ => rfl) (fun _ _ bm _ _ hm => hblk bm (h.base _ bm hm).2.1) (fun c _ => kp c)
  · intro i j b hi hj
    rcases (hget i b).1 hi with ⟨rfl, rfl⟩ | ⟨_, hi'⟩ <;> rcases (hget j _).1 hj with ⟨rfl, e⟩ | ⟨_, hj'⟩
    · rfl
    · have := (h.base j _ hj').2.1; omega
    · have := (h.base i _ hi').2.1; omega
    · exact h.inj i j b hi' hj'
  · intro j b hj
    rcases (hget j b).1 hj with ⟨rfl, rfl⟩ | ⟨_, hj'⟩
    · exact ⟨h.hB, by rw [hsz]; omega, fun hf => by have := h.f0 _ hf; have := h.hB; omega, fun hf => by have := h.hG _ hf; omega⟩
    · obtain ⟨b1, b2, b3⟩ := h.base j b hj'
      exact ⟨b1, by rw [hsz]; omega, b3⟩
  · refine { below := h.since.below.trans ⟨rfl, rfl, rfl, by rw [hsz]; omega, fun k hk => hblk k (by have := h.hB; omega), Nat.le_refl _⟩, g0 := h.since.g0.trans g h.since.below.size, ble := h.since.ble.trans hle, pnd := ?_, gown := ?_, blen := (by rw [List.length_set]; exact h.since.blen), ub := h.since.ub }
    · intro j hj
      have hne : id ≠ j := fun e => by subst e; exact hA hj
      rw [List.getElem?_set, if_neg hne]
      exact h.since.pnd j hj
    · intro b hb
      obtain ⟨g1, g2⟩ := h.since.gown b hb
      exact ⟨(hblk b (h.hG b hb)).trans g1, g2⟩
  · intro p hp
    obtain ⟨hp1, hp2⟩ := List.mem_filter.1 hp
    obtain ⟨q1, q2⟩ := h.pend p hp1
    refine ⟨?_, q2⟩
    rw [List.getElem?_set, if_neg (fun e => by subst e; simp at hp2)]
    exact q1
theorem noIter_get : ∀ {h : Heap} {id j : Nat} {left cu : List (AV × AV)}, noIter id h = true → h.get j ≠ .iter (some id) left cu
  | [], id, j, left, cu, _, hg => by simp [Heap.get] at hg
  | o :: r, id, 0, left, cu, hn, hg => by
    simp only [Heap.get] at hg
    subst hg
    simp [noIter] at hn
  | o :: r, id, j + 1, left, cu, hn, hg => by
    refine noIter_get (h := r) (j := j) (left := left) (cu := cu) ?_ (by simpa [Heap.get] using hg)
    unfold noIter at hn
    split at hn
    · rename_i h1; cases h1
    · rename_i h1; cases h1; simp at hn; exact hn.2
    · rename_i h1; cases h1; exact hn
theorem Rel.write (h : Rel P A nt pend env heap bor tm w U bl ob) {id b : Nat} (hid : bl[id]? = some (some b)) (hnd : heap.get id ≠ .dead) (hni : noIter id heap = true ∨ ∀ kt reg ents, heap.get id ≠ .map kt reg ents) {o : AObj} (hod : o ≠ .dead) (hfo : o.isO = true → A.bl0.length ≤ id) {o' : Obj} {w' : World} (hw : Wrote w b o' w') {ob' : Loc → Option Nat} {bor' : Option (Nat × AV)}
    (hobj : ∀ F, (∀ c, F c ↔ forb A bl heap c) → (∀ bl2 v x, Rep w F U bl2 v x → Rep w' F U bl2 v x) → (∀ own v x, (∀ p, own p ≠ some b) → OwnAt w F U A.B own v x → OwnAt w' F U A.B own v x) →
      ObjRep P w' F U bl A.B (fun i p => ob' (.cell id i p)) (fun i p => ob' (.mapv id i p)) (borAt bor' id) o b)
    (hob : ∀ l, (∀ i p, l ≠ .cell id i p) → (∀ i p, l ≠ .mapv id i p) → ob' l = ob l)
    (hobinj : ∀ l m c, ob' l = some c → ob' m = some c → l = m) (hobok : ∀ l c, ob' l = some c → ¬ A.G c ∧ c < w.heap.size ∧ ∀ id : Nat, bl[id]? ≠ some (some c)) (hbor : ∀ j, j ≠ id → borAt bor' j = borAt bor j) :
    Rel P A nt pend env (heap.set id o) bor' tm w' U bl ob' := by
  have hidl : id < heap.length := by rw [← h.len]; exact (List.getElem?_eq_some_iff.1 hid).1
  have hget : ∀ j, (heap.set id o).get j = if id = j then o else heap.get j := by
    intro j; rw [heap_get_set]
    by_cases e : id = j
    · subst e; simp [hidl]
    · simp [e]
  have hforb : ∀ c, forb A bl (heap.set id o) c ↔ forb A bl heap c := by
    intro c
    constructor
    · rintro (hf | ⟨j, hj, hd⟩)
      · exact .inl hf
      · rw [hget] at hd
        by_cases e : id = j
        · subst e; exact .inr ⟨id, hj, hnd⟩
        · rw [if_neg e] at hd; exact .inr ⟨j, hj, hd⟩
    · rintro (hf | ⟨j, hj, hd⟩)
      · exact .inl hf
      · refine .inr ⟨j, hj, ?_⟩
        rw [hget]
        by_cases e : id = j
        · rw [if_pos e]; exact hod
        · rw [if_neg e]; exact hd
  have hbF : forb A bl heap b := .inr ⟨id, hid, hnd⟩
  have hblk : ∀ c, ¬ forb A bl heap c → w'.heap[c]? = w.heap[c]? := fun c hc => hw.other c (fun e => by subst e; exact hc hbF)
  have g : Grow0 w (forb A bl heap) U w' (forb A bl (heap.set id o)) U :=
    ⟨fun c _ hf => .inl ((hforb c).1 hf), fun c _ hc => ⟨Nat.le_refl _, fun o _ => cell_block (hblk c hc) o⟩, fun c hc => ⟨by rw [hw.size]; exact hc, Nat.le_refl _⟩⟩
  have kp : ∀ c, c < w.heap.size → ¬ forb A bl heap c → w'.heap[c]? = w.heap[c]? ∧ U c = U c ∧ ¬ forb A bl (heap.set id o) c :=
    fun c _ hn => ⟨hblk c hn, rfl, fun hf => hn ((hforb c).1 hf)⟩
  refine { size := h.size, env := fun t => ?_, len := (by rw [heap_set_length]; exact h.len), objs := ?_, inj := h.inj, base := ?_, obinj := hobinj, obok := fun l c hc => ⟨(hobok l c hc).1, (by rw [hw.size]; exact (hobok l c hc).2.1), (hobok l c hc).2.2⟩, since := ?_, f0 := h.f0, hB := (by rw [hw.size]; exact h.hB), hG := fun c hc => (by rw [hw.size]; exact h.hG c hc), pend := ?_, fro := fun j hj => (by
    rw [hget] at hj
    by_cases e : id = j
    · subst e; rw [if_pos rfl] at hj; exact hfo hj
    · rw [if_neg e] at hj; exact h.fro j hj) }
  · have e : (fun p => ob' (.env t p)) = fun p => ob (.env t p) := funext fun p => hob _ (fun i p h => by cases h) (fun i p h => by cases h)
    rw [e]
    exact ⟨(h.env t).1.mono g (BlLe.refl _), ownAt_keeps (h.env t).2 g (fun p c _ => kp c)⟩
  · intro j c hj
    rw [hget]
    by_cases e : id = j
    · subst e
      obtain rfl : b = c := by rw [hid] at hj; simpa using hj
      rw [if_pos rfl]
      have g' : Grow0 w (forb A bl (heap.set id o)) U w' (forb A bl (heap.set id o)) U := ⟨fun c _ hf => .inl hf, fun c _ hc => ⟨Nat.le_refl _, fun o _ => cell_block (hblk c (fun hf => hc ((hforb c).2 hf))) o⟩, fun c hc => ⟨by rw [hw.size]; exact hc, Nat.le_refl _⟩⟩
      exact hobj (forb A bl (heap.set id o)) hforb (fun bl2 v x hv => hv.mono g' (BlLe.refl _)) (fun own v x hn ho => ownAt_keeps ho g' (fun p c hc hlt hF => ⟨hw.other c (fun e => by subst e; exact hn p hc), rfl, hF⟩))
    · rw [if_neg e]
      have e1 : (fun i p => ob' (.cell j i p)) = fun i p => ob (.cell j i p) := funext fun i => funext fun p => hob _ (fun i' p' h => by injection h with h1; exact e h1.symm) (fun i' p' h => by cases h)
      have e2 : (fun i p => ob' (.mapv j i p)) = fun i p => ob (.mapv j i p) := funext fun i => funext fun p => hob _ (fun i' p' h => by cases h) (fun i' p' h => by injection h with h1; exact e h1.symm)
      rw [e1, e2, hbor j (fun e' => e e'.symm)]
      have hcb : c ≠ b := fun e' => e (h.inj id j b hid (e' ▸ hj))
      refine obj_keeps (h.objs j c hj) g (BlLe.refl _) (hw.other c hcb) (fun _ => rfl) (fun id' left bm cu hit hm => hw.other bm (fun e' => ?_)) (fun c _ => kp c)
      obtain rfl : id' = id := h.inj id' id b (e' ▸ hm) hid
      rcases hni with hni | hni
      · exact noIter_get hni hit
      · have h1 := h.objs j c hj
        rw [hit] at h1
        obtain ⟨bm', es, clock, seen, last, k1, k2, _⟩ := h1
        rw [hid] at k1
        obtain rfl : b = bm' := by simpa using k1
        have h2 := h.objs id' b hid
        cases ho : heap.get id' with
        | cells cs => rw [ho] at h2; obtain ⟨c, e, fr, q1, _⟩ := h2; rw [k2] at q1; cases q1
        | arr sz n g => rw [ho] at h2; obtain ⟨c, e, fr, q1, _⟩ := h2; rw [k2] at q1; cases q1
        | oarr sz n g => rw [ho] at h2; obtain ⟨c, e, fr, q1, _⟩ := h2; rw [k2] at q1; cases q1
        | map kt reg ents => exact hni _ _ _ ho
        | iter q l cu =>
          rw [ho] at h2
          cases q with
          | none => obtain ⟨_, _, _, _, q1⟩ := h2; rw [k2] at q1; cases q1
          | some q => obtain ⟨_, _, _, _, _, _, _, q1, _⟩ := h2; rw [k2] at q1; cases q1
        | dead => exact hnd ho
  · intro j c hj
    obtain ⟨b1, b2, b3⟩ := h.base j c hj
    exact ⟨b1, by rw [hw.size]; exact b2, b3⟩
  · have hbB := (h.base id b hid).1
    have hbG := (h.base id b hid).2.2.2
    refine { below := h.since.below.trans ⟨hw.os, hw.tape, hw.output, Nat.le_of_eq hw.size.symm, fun k hk => hw.other k (by omega), Nat.le_of_eq hw.drawn.symm⟩, g0 := h.since.g0.trans g h.since.below.size, ble := h.since.ble, pnd := ?_, gown := ?_, blen := h.since.blen, ub := h.since.ub }
    · intro j hj
      obtain ⟨p1, p2⟩ := h.since.pnd j hj
      refine ⟨p1, ?_⟩
      rw [hget, if_neg (fun e => by subst e; rw [hid] at p1; simp at p1)]
      exact p2
    · intro c hc
      obtain ⟨g1, g2⟩ := h.since.gown c hc
      exact ⟨(hw.other c (fun e => by subst e; exact hbG hc)).trans g1, g2⟩
  · intro p hp
    obtain ⟨q1, q2⟩ := h.pend p hp
    refine ⟨q1, ?_⟩
    rw [hget, if_neg (fun e => by subst e; rw [hid] at q1; simp at q1)]
    exact q2
end
end Ax

namespace Ax
open Go Go.RowKit
def waits : Nat → Heap → List (Nat × AObj)
  | _, [] => []
  | n, o :: r => (n, o) :: waits (n + 1) r
theorem waits_mem : ∀ (os : Heap) (n : Nat) p, p ∈ waits n os → n ≤ p.1 ∧ os.get (p.1 - n) = p.2 ∧ p.1 < n + os.length
  | [], n, p, h => by simp [waits] at h
  | o :: r, n, p, h => by
    simp only [waits, List.mem_cons] at h
    rcases h with rfl | h
    · exact ⟨Nat.le_refl _, by simp [Heap.get], by simp⟩
    · obtain ⟨h1, h2, h3⟩ := waits_mem r (n + 1) p h
      refine ⟨by omega, ?_, by simp only [List.length_cons]; omega⟩
      have : p.1 - n = (p.1 - (n + 1)) + 1 := by omega
      rw [this]; simp only [Heap.get]; exact h2
theorem waits_in : ∀ (os : Heap) (n : Nat) p, p ∈ waits n os → p.2 ∈ os
  | [], n, p, h => by simp [waits] at h
  | o :: r, n, p, h => by
    simp only [waits, List.mem_cons] at h
    rcases h with rfl | h
    · simp
    · exact List.mem_cons_of_mem _ (waits_in r (n + 1) p h)
section
variable {P : Program} {A : Amb} {nt : Nat} {pend : List (Nat × AObj)} {env : Env} {heap : Heap} {bor : Option (Nat × AV)} {tm : Array Value} {w : World} {U : Nat → Nat} {bl : Blocks} {ob : Loc → Option Nat}
theorem Rel.lay (h : Rel P A nt pend env heap bor tm w U bl ob) (os : Heap) :
    Rel P A nt pend env (heap ++ os) bor tm w U (bl ++ List.replicate os.length none) ob := by
  have hget : ∀ (j b : Nat), (bl ++ List.replicate os.length none)[j]? = some (some b) ↔ bl[j]? = some (some b) := by
    intro j b
    by_cases hj : j < bl.length
    · rw [List.getElem?_append_left hj]
    · rw [List.getElem?_append_right (by omega), List.getElem?_eq_none (l := bl) (by omega), List.getElem?_replicate]
      split <;> simp
  have hgh : ∀ (j b : Nat), bl[j]? = some (some b) → Heap.get (heap ++ os) j = heap.get j := by
    intro j b hj
    rw [heap_get_append, if_pos (by rw [← h.len]; exact (List.getElem?_eq_some_iff.1 hj).1)]
  have hle : BlLe bl (bl ++ List.replicate os.length none) := fun j b hj => (hget j b).2 hj
  have hforb : ∀ c, forb A (bl ++ List.replicate os.length none) (heap ++ os) c ↔ forb A bl heap c := by
    intro c
    constructor
    · rintro (hf | ⟨j, hj, hd⟩)
      · exact .inl hf
      · rw [hget] at hj; rw [hgh j c hj] at hd; exact .inr ⟨j, hj, hd⟩
    · rintro (hf | ⟨j, hj, hd⟩)
      · exact .inl hf
      · exact .inr ⟨j, (hget j c).2 hj, by rw [hgh j c hj]; exact hd⟩
  have g : Grow0 w (forb A bl heap) U w (forb A (bl ++ List.replicate os.length none) (heap ++ os)) U := ⟨fun b _ hf => .inl ((hforb b).1 hf), fun b _ _ => ⟨Nat.le_refl _, fun _ _ => rfl⟩, fun _ hb => ⟨hb, Nat.le_refl _⟩⟩
  have kp : ∀ b, b < w.heap.size → ¬ forb A bl heap b → w.heap[b]? = w.heap[b]? ∧ U b = U b ∧ ¬ forb A (bl ++ List.replicate os.length none) (heap ++ os) b := fun b _ hn => ⟨rfl, rfl, fun hf => hn ((hforb b).1 hf)⟩
  refine { size := h.size, env := fun t => ⟨(h.env t).1.mono g hle, ownAt_keeps (h.env t).2 g (fun p b _ => kp b)⟩, len := (by simp [h.len]), objs := ?_, inj := ?_, base := ?_, obinj := h.obinj, obok := fun l b hb => ⟨(h.obok l b hb).1, (h.obok l b hb).2.1, fun j hj => (h.obok l b hb).2.2 j ((hget j b).1 hj)⟩, since := ?_, f0 := h.f0, hB := h.hB, hG := h.hG, pend := ?_, fro := fun j hj => (by
    rw [heap_get_append] at hj
    split at hj
    · exact h.fro j hj
    · have := h.since.blen; have := h.len; omega) }
  · intro j b hj
    rw [hget] at hj
    rw [hgh j b hj]
    exact obj_keeps (h.objs j b hj) g hle rfl (fun _ => rfl) (fun _ _ _ _ _ _ => rfl) (fun c _ => kp c)
  · intro i j b hi hj; rw [hget] at hi hj; exact h.inj i j b hi hj
  · intro j b hj; rw [hget] at hj; exact h.base j b hj
  · refine { below := h.since.below, g0 := h.since.g0.trans g h.since.below.size, ble := h.since.ble.trans hle, pnd := ?_, gown := h.since.gown, blen := (by rw [List.length_append]; have := h.since.blen; omega), ub := h.since.ub }
    intro j hj
    obtain ⟨p1, p2⟩ := h.since.pnd j hj
    have hlt := (List.getElem?_eq_some_iff.1 p1).1
    exact ⟨by rw [List.getElem?_append_left hlt]; exact p1, by rw [heap_get_append, if_pos (by rw [← h.len]; exact hlt)]; exact p2⟩
  · intro p hp
    obtain ⟨p1, p2, p3⟩ := h.pend p hp
    have hlt := (List.getElem?_eq_some_iff.1 p1).1
    exact ⟨by rw [List.getElem?_append_left hlt]; exact p1, by rw [heap_get_append, if_pos (by rw [← h.len]; exact hlt)]; exact p2, p3⟩
theorem Rel.hoist (h : Rel P A nt pend env heap bor tm w U bl ob) (os : Heap) (hos : ∀ o ∈ os, o.isArr = false) :
    Rel P A nt (pend ++ waits heap.length os) env (heap ++ os) bor tm w U (bl ++ List.replicate os.length none) ob := by
  refine { h.lay os with pend := fun p hp => ?_ }
  rcases List.mem_append.1 hp with hp | hp
  · exact (h.lay os).pend p hp
  · obtain ⟨q1, q2, q3⟩ := waits_mem os heap.length p hp
    refine ⟨?_, by rw [heap_get_append, if_neg (by omega)]; exact q2, hos _ (waits_in os heap.length p hp)⟩
    rw [List.getElem?_append_right (by rw [h.len]; exact q1), List.getElem?_replicate, if_pos (by rw [h.len]; omega)]
theorem Rel.unpend (h : Rel P A nt pend env heap bor tm w U bl ob) {pend' : List (Nat × AObj)} (hp : ∀ p ∈ pend', p ∈ pend) : Rel P A nt pend' env heap bor tm w U bl ob :=
  { h with pend := fun p hp' => h.pend p (hp p hp') }
theorem drew_ext (w : World) (n : Nat) (U : Nat → Nat) (hn : w.drawn ≤ n) : Ext w U { w with drawn := n } U := ⟨rfl, rfl, rfl, Nat.le_refl _, fun _ _ => ⟨rfl, rfl⟩, hn⟩
theorem Rel.growIn (h : Rel P A nt pend env heap bor tm w U bl ob) {l : Loc} {b n' : Nat} (hl : ob l = some b) (hlt : b < w.heap.size) (hbB : A.B ≤ b) (hbF : ¬ forb A bl heap b) {o' : Obj} {w' : World} (hw : Wrote w b o' w')
    (hn : U b ≤ n') (hold : ∀ o, o < U b → w'.cell? ⟨b, o, none⟩ = w.cell? ⟨b, o, none⟩) (hlenv : ∃ s p, l = .env s p) :
    ∀ s, (∃ p, l = .env s p) → Rel P A nt pend (env.bare s) heap bor tm w' (fun c => if c = b then n' else U c) bl (fun m => match m with | .env t p => if t = s then none else ob (.env t p) | m => ob m) := by
  rintro s ⟨p0, rfl⟩
  have hblk : ∀ c, c ≠ b → w'.heap[c]? = w.heap[c]? := hw.other
  have g : Grow0 w (forb A bl heap) U w' (forb A bl heap) (fun c => if c = b then n' else U c) := by
    refine ⟨fun _ _ hf => .inl hf, fun c _ _ => ?_, fun c hc => ⟨by rw [hw.size]; exact hc, by by_cases e : c = b; (· subst e; rw [if_pos rfl]; exact hn); (· rw [if_neg e]; exact Nat.le_refl _)⟩⟩
    by_cases e : c = b
    · subst e; simp only [if_true]; exact ⟨hn, hold⟩
    · simp only [if_neg e]; exact ⟨Nat.le_refl _, fun o _ => cell_block (hblk c e) o⟩
  have kp : ∀ m c, ob m = some c → m ≠ .env s p0 → c < w.heap.size → ¬ forb A bl heap c → w'.heap[c]? = w.heap[c]? ∧ (if c = b then n' else U c) = U c ∧ ¬ forb A bl heap c := by
    intro m c hm hne _ hf
    have hcb : c ≠ b := fun e => hne (h.obinj _ _ b (e ▸ hm) hl)
    exact ⟨hblk c hcb, if_neg hcb, hf⟩
  refine { size := h.size, env := fun t => ?_, len := h.len, objs := ?_, inj := h.inj, base := ?_, obinj := ?_, obok := ?_, since := ?_, f0 := h.f0, hB := (by rw [hw.size]; exact h.hB), hG := fun c hc => (by rw [hw.size]; exact h.hG c hc), pend := h.pend, fro := h.fro }
  · rw [get_bare]
    by_cases e : s = t
    · subst e; simp only [if_true]; exact ⟨(h.env s).1.strip.mono g (BlLe.refl _), .bare (strip_bare _)⟩
    · have e' : ¬ t = s := fun q => e q.symm
      simp only [e, e', if_false]
      exact ⟨(h.env t).1.mono g (BlLe.refl _), ownAt_keeps (h.env t).2 g (fun p c hc => kp _ c hc (fun hh => by injection hh with h1; exact e' h1))⟩
  · intro j c hj
    by_cases hdead : heap.get j = .dead
    · rw [hdead]; trivial
    refine obj_keeps (h.objs j c hj) g (BlLe.refl _) (hblk c (fun e => hbF (.inr ⟨j, by rw [← e]; exact hj, hdead⟩))) (fun _ => if_neg (fun e : c = b => hbF (.inr ⟨j, by rw [← e]; exact hj, hdead⟩))) (fun id _ bm _ _ hm => hblk bm (fun e => (h.obok _ b hl).2.2 id (e ▸ hm))) (fun d hd => ?_)
    · rcases hd with ⟨i, p, hd⟩ | ⟨i, p, hd⟩
      · exact kp _ d hd (by simp)
      · exact kp _ d hd (by simp)
  · intro j c hj
    obtain ⟨b1, b2, b3⟩ := h.base j c hj
    exact ⟨b1, by rw [hw.size]; exact b2, b3⟩
  · intro l m c hl' hm'
    refine h.obinj l m c ?_ ?_
    · cases l <;> simp only at hl' <;> first | exact hl' | (split at hl' <;> first | exact hl' | simp at hl')
    · cases m <;> simp only at hm' <;> first | exact hm' | (split at hm' <;> first | exact hm' | simp at hm')
  · intro l c hl'
    have key : ob l = some c := by
      cases l <;> simp only at hl' <;> first | exact hl' | (split at hl' <;> first | exact hl' | simp at hl')
    exact ⟨(h.obok l c key).1, (by rw [hw.size]; exact (h.obok l c key).2.1), (h.obok l c key).2.2⟩
  · refine { below := h.since.below.trans ⟨hw.os, hw.tape, hw.output, Nat.le_of_eq hw.size.symm, fun k hk => hblk k (by omega), Nat.le_of_eq hw.drawn.symm⟩, g0 := h.since.g0.trans g h.since.below.size, ble := h.since.ble, pnd := h.since.pnd, gown := fun c hc => ?_, blen := h.since.blen, ub := fun c hc => ?_ }
    · obtain ⟨g1, g2⟩ := h.since.gown c hc
      have hcb : c ≠ b := fun e => (h.obok _ b hl).1 (e ▸ hc)
      exact ⟨(hblk c hcb).trans g1, by rw [if_neg hcb]; exact g2⟩
    · rw [if_neg (by omega)]; exact h.since.ub c hc
end
end Ax

namespace Ax
open Go Go.RowKit
theorem growBy_le (newLen : Nat) : ∀ (r c : Nat), c < newLen → Builtin.growBy newLen r c ≤ newLen + (newLen + 768) / 4
  | 0, c, h => by simp only [Builtin.growBy]; omega
  | r + 1, c, h => by
    simp only [Builtin.growBy]
    split
    · omega
    · by_cases h2 : c + (c + 768) / 4 < newLen
      · exact growBy_le newLen r _ h2
      · cases r with
        | zero => simp only [Builtin.growBy]; omega
        | succ r => simp only [Builtin.growBy]; rw [if_pos (by omega)]; omega
theorem nextcap_le (n c : Nat) (h : c < n) : Builtin.nextslicecap n c ≤ n + (n + 768) / 4 + 512 := by
  unfold Builtin.nextslicecap
  split
  · omega
  · split
    · omega
    · have := growBy_le n 4 c h; omega
section
variable {P : Program} {w : World} {F : Nat → Prop} {U : Nat → Nat} {bl : Blocks} {B : Nat}
def SrcRep (P : Program) (w : World) (F : Nat → Prop) (U : Nat → Nat) (sz m : Nat) (g : Nat → AV) (x : Value) : Prop :=
  ∃ cs : List Value, (Builtin.lenOf x).run P w = .ok m w ∧ (∀ w' : World, w'.heap = w.heap → (Builtin.firstCells sz m x).run P w' = .ok cs.toArray w') ∧ cs.length = m * sz ∧ (∀ y ∈ cs, y.oneCell' = true) ∧
    (∀ i, i < m → (g i).cells.length = sz) ∧ ∀ (i j : Nat) c, i < m → (g i).cells[j]? = some c → ∃ y, cs[i * sz + j]? = some y ∧ Rep w F U [] c y
theorem cell_heap {w w' : World} (h : w'.heap = w.heap) (a : Addr) : w'.cell? a = w.cell? a := by simp [World.cell?, h]
theorem divmod_cell {sz i j : Nat} (hj : j < sz) : (i * sz + j) / sz = i ∧ (i * sz + j) % sz = j := by
  have h0 : 0 < sz := by omega
  constructor
  · rw [Nat.add_comm, Nat.add_mul_div_right _ _ h0, Nat.div_eq_of_lt hj]; omega
  · rw [Nat.add_comm, Nat.add_mul_mod_self_right, Nat.mod_eq_of_lt hj]
theorem vec_src {sz n cap : Nat} {g : Nat → AV} {ao : Option Addr} (h : Rep w F U bl (.vec sz n g) (.slice ao n cap)) (h0 : 0 < sz) : SrcRep P w F U sz n g (.slice ao n cap) := by
  cases h with
  | vec hcap vals hz hs hone hh =>
    refine ⟨(List.range (n * sz)).map fun k => vals (k / sz) (k % sz), rfl, fun w' hw' => ?_, by simp, fun y hy => (by
        obtain ⟨k, hk, rfl⟩ := List.mem_map.1 hy
        exact hone _ _ ((Nat.div_lt_iff_lt_mul h0).2 (by simpa using hk)) (Nat.mod_lt _ h0)), hs, fun i j c hi hc => ?_⟩
    · cases Nat.eq_zero_or_pos n with
      | inl hn =>
        subst hn
        cases ao with
        | none => simp [Builtin.firstCells]
        | some a => simp [Builtin.firstCells, loadCells, loadCellsFrom]
      | inr hn =>
        obtain ⟨_, a, e1, e2, e3, e4, e5⟩ := hz hn
        subst e1
        obtain ⟨ab, ao, as⟩ := a
        simp only at e2; subst e2
        have := run_loadCells (P := P) w' ⟨ab, ao, none⟩ (n * sz) (fun k => vals (k / sz) (k % sz)) (fun k hk => by
          rw [addr_add, cell_heap hw']
          have h1 : k / sz < n := (Nat.div_lt_iff_lt_mul h0).2 hk
          have h2 := e5 (k / sz) (k % sz) h1 (Nat.mod_lt _ h0)
          simp only at h2
          rw [← h2]
          congr 2
          have := Nat.div_add_mod k sz
          rw [Nat.mul_comm] at this; omega)
        simpa [Builtin.firstCells] using this
    · have hj : j < sz := by rw [← hs i hi]; exact (List.getElem?_eq_some_iff.1 hc).1
      obtain ⟨d1, d2⟩ := divmod_cell (i := i) hj
      refine ⟨vals i j, ?_, hh i j c hi hc⟩
      have hlt : i * sz + j < n * sz := by have := index_mul (sz := sz) hi; omega
      simp [hlt, d1, d2]
theorem srcOf_sound {e : TypeId} {h : Heap} {x : AV} {m : Nat} {g : Nat → AV} {x' : Value} (hs : srcOf P e h x = some (m, g)) (hx : Rep w F U bl x x') (ho : ObjsOK P w F U bl B h) (h0 : 0 < tySz P e) :
    SrcRep P w F U (tySz P e) m g x' := by
  have vcase : ∀ sz n g0, Rep w F U bl (.vec sz n g0) x' → (bif Nat.beq sz (tySz P e) then some (n, g0) else none) = some (m, g) → SrcRep P w F U (tySz P e) m g x' := by
    intro sz n g0 hr hh
    rw [beq_eq] at hh
    by_cases hz : sz = tySz P e
    · simp [hz] at hh
      obtain ⟨rfl, rfl⟩ := hh
      rw [hz] at hr
      have hr' := hr
      cases hr' with
      | vec => exact vec_src hr h0
    · simp [hz] at hh
  unfold srcOf at hs
  split at hs
  · exact vcase _ _ _ hx hs
  · cases hx with | own hx => exact vcase _ _ _ hx hs
  · simp at hs
    obtain ⟨rfl, rfl⟩ := hs
    cases hx with
    | rvec hcap vals hz hh1 hh2 =>
      rename_i ao cap
      refine ⟨[], rfl, fun w' hw' => ?_, by simp, fun y hy => by simp at hy, fun i hi => absurd hi (by omega), fun i j c hi => absurd hi (by omega)⟩
      cases ao with
      | none => simp [Builtin.firstCells]
      | some a => simp [Builtin.firstCells, loadCells, loadCellsFrom]
  · rename_i id sz lo n
    split at hs
    · rename_i sz' n' g0 hg
      cases hc : (Nat.beq sz sz' && Nat.beq sz (tySz P e) && Nat.ble (lo + n) n') with
      | false => simp [hc] at hs
      | true =>
        simp [hc] at hs
        obtain ⟨rfl, rfl⟩ := hs
        simp only [Bool.and_eq_true, beq_eq, ble_eq, decide_eq_true_eq] at hc
        obtain ⟨⟨c1, c2⟩, c3⟩ := hc
        subst c1
        cases hx with
        | @row _ _ _ _ _ ao cap hcap hz =>
          rcases Nat.eq_zero_or_pos n with hn | hn
          · subst hn
            refine ⟨[], rfl, fun w' hw' => ?_, by simp, fun y hy => by simp at hy, fun i hi => absurd hi (by omega), fun i j c hi => absurd hi (by omega)⟩
            cases ao with
            | none => simp [Builtin.firstCells]
            | some a => simp [Builtin.firstCells, loadCells, loadCellsFrom]
          obtain ⟨b, hb, rfl⟩ := hz hn
          obtain ⟨o1, o2, o3, hobj⟩ := ho id b hb
          rw [hg] at hobj
          obtain ⟨c, el, fr, k1, k2, k3, k4, k5, k6⟩ := hobj
          have hle : (lo + n) * sz ≤ n' * sz := Nat.mul_le_mul_right _ c3
          have hsp : (lo + n) * sz = lo * sz + n * sz := Nat.add_mul _ _ _
          refine ⟨(List.range (n * sz)).map fun k => c.getD (lo * sz + k) undef, rfl, fun w' hw' => ?_, by simp [← c2], fun y hy => ?_, fun i hi => by rw [← c2]; exact k5 _ (by omega), fun i j x hi hx => ?_⟩
          · have := run_loadCells (P := P) w' ⟨b, lo * sz, none⟩ (n * sz) (fun k => c.getD (lo * sz + k) undef) (fun k hk => by
              rw [addr_add, cell_heap hw', cell_row k1]
              have : lo * sz + k < c.size := by omega
              simp [Array.getD, this])
            rw [← c2]
            simpa [Builtin.firstCells] using this
          · obtain ⟨k, hk, rfl⟩ := List.mem_map.1 hy
            have hk' : k < n * sz := by simpa using hk
            have hq : k / sz < n := (Nat.div_lt_iff_lt_mul (by omega)).2 hk'
            have hmod := Nat.mod_lt k k2
            obtain ⟨y, hy, h1, _⟩ := k6 (lo + k / sz) (k % sz) _ (by omega) (List.getElem?_eq_getElem (by rw [k5 _ (by omega)]; exact hmod))
            have hkk : k / sz * sz + k % sz = k := by have := Nat.div_add_mod k sz; rw [Nat.mul_comm] at this; exact this
            rw [Nat.add_mul, Nat.add_assoc, hkk] at hy
            have hl := (Array.getElem?_eq_some_iff.1 hy).1
            have hv := (Array.getElem?_eq_some_iff.1 hy).2
            have hgd : c.getD (lo * sz + k) undef = y := by rw [Array.getD, dif_pos hl]; exact hv
            rw [hgd]; exact h1
          · obtain ⟨y, hy, _, hr⟩ := k6 (lo + i) j x (by omega) hx
            have hj : j < sz := by rw [← k5 (lo + i) (by omega)]; exact (List.getElem?_eq_some_iff.1 hx).1
            have hlt : i * sz + j < n * sz := by have := index_mul (sz := sz) hi; omega
            refine ⟨y, ?_, hr⟩
            rw [← c2]
            rw [Nat.add_mul] at hy
            have hlt2 := (Array.getElem?_eq_some_iff.1 hy).1
            have hval := (Array.getElem?_eq_some_iff.1 hy).2
            simp only [List.getElem?_map, List.getElem?_range hlt, Option.map_some, Option.some.injEq]
            have e1 : lo * sz + (i * sz + j) = lo * sz + i * sz + j := by omega
            rw [e1]
            simp [Array.getD, hlt2, hval]
    · simp at hs
  · simp at hs
theorem vapp_get {z : AV} {g g' : Nat → AV} {n m i : Nat} : vapp z g n g' m i = if i < n then g i else if i < n + m then g' (i - n) else z := by
  unfold vapp
  rw [blt_eq, blt_eq]
  by_cases h1 : i < n
  · simp [h1]
  · by_cases h2 : i < n + m <;> simp [h1, h2]
theorem slice_of {u : TypeId} (h : isSliceT P u = true) : ∃ d, tyD P u = .slice d := by
  unfold isSliceT at h
  cases hd : tyD P u <;> simp [hd] at h
  exact ⟨_, rfl⟩
theorem append_stay {t u e : TypeId} {ty : TypeId} {base : Option Addr} {n cap m : Nat} {x' : Value} {cs : List Value} (ht : tyD P t = .slice e) (hu : isSliceT P u = true)
    (h0 : 0 < tySz P e) (hl : (Builtin.lenOf x').run P w = .ok m w) (hc : (Builtin.firstCells (tySz P e) m x').run P w = .ok cs.toArray w) (hle : n + m ≤ cap) :
    (Builtin.append_ #[t, u] ty #[.slice base n cap, x']).run P w =
      (match base with | some a => (storeCells (a.add (n * tySz P e)) cs).run P w | none => .ok () w).andThen fun _ w' => .ok (.slice base (n + m) cap) w' := by
  obtain ⟨d, hd⟩ := slice_of hu
  unfold Builtin.append_
  simp only [List.getElem?_toArray, List.getElem?_cons_zero, List.getElem?_cons_succ, Sem.run_bind, run_und ht (by simp), run_und hd (by simp), Result.andThen_ok, run_size' h0, Sem.run_pure,
    Bool.false_eq_true, if_false, hl, hle, if_true, Bool.not_false, hc]
  cases base with
  | none => simp only [Sem.run_pure, Result.andThen_ok]
  | some a => simp only [Sem.run_bind]; rfl
def grownRow (P : Program) (e : TypeId) (z : Value) (old new : List Value) (r : Nat) : Array Value := old.toArray ++ new.toArray ++ Builtin.zeroCells z.cells r
theorem append_move {t u e : TypeId} {ty : TypeId} {i : TypeInfo} {z : Value} {base : Option Addr} {n cap m : Nat} {x' : Value} {cs os : List Value} (ht : tyD P t = .slice e) (hu : isSliceT P u = true)
    (hi : P.info? e = some i) (hz : i.zero = some z) (h0 : 0 < tySz P e) (hb : 0 < tyBy P e) (hr : roomOK (n + m) (tyBy P e) = true) (hl : (Builtin.lenOf x').run P w = .ok m w)
    (hc : ∀ w' : World, w'.heap = w.heap → (Builtin.firstCells (tySz P e) m x').run P w' = .ok cs.toArray w')
    (hos : ∀ w' : World, w'.heap = w.heap → (Builtin.firstCells (tySz P e) n (.slice base n cap)).run P w' = .ok os.toArray w') (hle : ¬ n + m ≤ cap) :
    ∃ c q, (n + m ≤ c ∧ c ≤ 9223372036854775807) ∧ w.drawn ≤ q ∧ (Builtin.append_ #[t, u] ty #[.slice base n cap, x']).run P w =
      .ok (.slice (some ⟨w.heap.size, 0, none⟩) (n + m) c) (rowW { w with drawn := q } (grownRow P e z os cs (c - (n + m))) e) := by
  obtain ⟨d, hd⟩ := slice_of hu
  have hby : tyBy P e = i.bytes := by simp [tyBy, hi]
  simp only [roomOK, Bool.and_eq_true, ble_eq, decide_eq_true_eq] at hr
  have hnext : ¬ (Builtin.nextslicecap (n + m) cap * i.bytes > 2 ^ 48) := by
    have := Nat.mul_le_mul_right i.bytes (nextcap_le (n + m) cap (by omega))
    rw [hby] at hr
    omega
  refine ⟨(Question.appendCap (n + m) cap e).cut (w.tape w.drawn (.appendCap (n + m) cap e)), w.drawn + 1, ⟨Nat.le_add_right _ _, by simp only [Question.cut]; have := Nat.mod_lt (w.tape w.drawn (.appendCap (n + m) cap e)) (y := 2 ^ 63 - (n + m)) (by omega); omega⟩, Nat.le_succ _, ?_⟩
  unfold Builtin.append_
  have hti : ∀ w' : World, (typeInfo e).run P w' = .ok i w' := fun w' => by simp [typeInfo, hi]
  have hzr : ∀ w' : World, (zeroValue e).run P w' = .ok z w' := fun w' => by simp [zeroValue, typeInfo, hi, hz]
  have hb' : ¬ (((n + m : Nat) : Int) > IntKind.i64.max ∧ (False ∨ i.bytes = 0)) := by rw [hby] at hb; intro hh; rcases hh.2 with h | h; exact h; omega
  have hch : (choose (.appendCap (n + m) cap e)).run P w = .ok ((Question.appendCap (n + m) cap e).cut (w.tape w.drawn (.appendCap (n + m) cap e))) { w with drawn := w.drawn + 1 } := by
    rw [run_choose]; simp [Question.forced]
  simp only [List.getElem?_toArray, List.getElem?_cons_zero, List.getElem?_cons_succ, Sem.run_bind, run_und ht (by simp), run_und hd (by simp), Result.andThen_ok, run_size' h0, Sem.run_pure,
    Bool.false_eq_true, if_false, hl, if_neg hle, if_true, Bool.not_false, hti, if_neg hb', if_neg hnext, hch, run_askRoom, hos { w with drawn := w.drawn + 1 } rfl, hc { w with drawn := w.drawn + 1 } rfl, hzr]
  simp [newRow, rowW, grownRow]
  exact ⟨rfl, rfl, rfl⟩
end
end Ax
