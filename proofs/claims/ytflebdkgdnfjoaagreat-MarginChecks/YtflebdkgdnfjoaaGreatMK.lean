import Derived.Test.YtflebdkgdnfjoaaGreatMJ
set_option linter.unusedVariables false
set_option linter.unusedSimpArgs false
namespace Ax
open Go Go.RowKit
def moved (all : List Oper) (d : Option Nat) (op : Op) : List Nat :=
  match op with
  | .move x => bif isBaseO d all then tmpsOf [x] else []
  | .assign x => tmpsOf [x]
  | .store _ _ v => tmpsOf [v]
  | .mapUpdate _ _ _ x => tmpsOf [x]
  | .insert _ _ _ x => tmpsOf [x]
  | .entryStore _ _ _ x => tmpsOf [x]
  | .extract x _ => tmpsOf [x]
  | .call c => match c.callee with | .builtin .append => (match c.args.toList with | x :: _ => tmpsOf [x] | [] => []) | _ => []
  | _ => []
def optL (d : Option Nat) : List Nat := match d with | some d => [d] | none => []
def wrSlots (all : List Oper) (o : Oper) : List Nat := optL o.dst ++ moved all o.dst o.op
theorem effOp_same {cx : Ctx} {drawn : Bool} {fid rid ix base : Nat} {o : Oper} {rest : List Oper} {env env' : Env} {heap heap' : Heap} (h : SameOn (opSlots o.op) env env') (hh : rdH o.op = true → heap = heap') :
    effOp cx drawn fid rid ix base o rest env heap = effOp cx drawn fid rid ix base o rest env' heap' := by
  have ev := evalOp_same (P := cx.P) (o := o) h hh
  have ex : extEff cx o env heap = extEff cx o env' heap' := by unfold extEff; rw [extOp_same (P := cx.P) (o := o) h hh]
  have key : ∀ t x, x ∈ o.op.operands.toList → evo cx.P t env x = evo cx.P t env' x := fun t x hx => evo_same h t hx
  have kg : ∀ s, Operand.tmp s ∈ o.op.operands.toList → env.get s = env'.get s := fun s hs => h s (tmpsOf_mem hs)
  clear h
  have dflt : (match evalOp cx.P o env heap with
      | some v => Eff.put none (optW o.dst v) none
      | none => extEff cx o env heap) = (match evalOp cx.P o env' heap' with
      | some v => Eff.put none (optW o.dst v) none
      | none => extEff cx o env' heap') := by rw [ev, ex]
  have ldfl : (match evalOp cx.P o env heap with
      | some v => Eff.put none (optW o.dst v) none
      | none => .fail) = (match evalOp cx.P o env' heap' with
      | some v => Eff.put none (optW o.dst v) none
      | none => .fail) := by rw [ev]
  clear ev
  unfold effOp
  generalize hop : o.op = op at *
  cases op with
  | move x =>
    cases x with
    | tmp s => simp only [kg s (by simp [Op.operands])]
    | _ => rfl
  | assign x =>
    cases x with
    | tmp s => simp only [kg s (by simp [Op.operands])]
    | _ => rfl
  | alloc t => rfl
  | makeMap t r => cases r with
    | none => rfl
    | some r => exact dflt
  | box t x => simp only [key _ x (by simp [Op.operands]), hh rfl]
  | store t p v => simp only [key _ p (by simp [Op.operands]), key _ v (by simp [Op.operands]), hh rfl]
  | call c =>
    obtain ⟨callee, args, argTypes⟩ := c
    cases callee with
    | value f =>
      have ka : ∀ t x, x ∈ args.toList → evo cx.P t env x = evo cx.P t env' x := fun t x hx => key t x (by simp [Op.operands, Call.operands] at hx ⊢; exact .inr hx)
      simp only [key _ f (by simp [Op.operands, Call.operands]), evoL_same argTypes.toList args.toList ka]
    | invoke r m => rfl
    | builtin b =>
      cases b with
      | append =>
        have ka : ∀ t x, x ∈ args.toList → evo cx.P t env x = evo cx.P t env' x := fun t x hx => key t x (by simpa [Op.operands, Call.operands] using hx)
        have kga : ∀ s, Operand.tmp s ∈ args.toList → env.get s = env'.get s := fun s hx => kg s (by simpa [Op.operands, Call.operands] using hx)
        have he : heap = heap' := hh rfl
        subst he
        dsimp only
        generalize args.toList = l at *
        generalize argTypes.toList = m
        rcases l with _ | ⟨y, _ | ⟨x, _ | ⟨z, l⟩⟩⟩
        · rfl
        · cases y <;> rfl
        · rcases m with _ | ⟨t, _ | ⟨u, _ | ⟨z, m⟩⟩⟩
          · cases y <;> rfl
          · cases y <;> rfl
          · cases y with
            | tmp s => simp only [kga s (by simp), ka u x (by simp)]
            | const v => simp only [ka u x (by simp)]
            | _ => rfl
          · cases y <;> rfl
        · cases y <;> rfl
      | _ => exact dflt
  | load t p =>
    have he : heap = heap' := hh rfl
    subst he
    simp only [key _ p (by simp [Op.operands])]
    cases isBaseO o.dst rest || (!drawn && cx.xf fid rid ix) with
    | true => rfl
    | false => exact ldfl
  | lookup t m q ok =>
    have he : heap = heap' := hh rfl
    subst he
    simp only [key _ m (by simp [Op.operands]), key _ q (by simp [Op.operands])]
    cases !ok && (isBaseO o.dst rest || (!drawn && cx.xf fid rid ix)) with
    | true => rfl
    | false => exact ldfl
  | makeSlice t l c =>
    simp only [key _ l (by simp [Op.operands]), key _ c (by simp [Op.operands]), ex]
  | buildSlice t l ps =>
    dsimp only
    rw [elemParts_same _ ps.toList (fun u x hx => key u x (by simpa [Op.operands] using hx))]
    cases !drawn && cx.xf fid rid ix with
    | true => rfl
    | false => exact dflt
  | binOp op t x y yt =>
    simp only [key _ x (by simp [Op.operands])]
    cases nilTest cx.P op t (evo cx.P t env' x).strip y with
    | none => exact dflt
    | some p => rfl
  | extract x i =>
    cases x with
    | tmp s => simp only [kg s (by simp [Op.operands])]
    | _ => rfl
  | range t x => simp only [key _ x (by simp [Op.operands]), hh rfl]
  | next it s => simp only [key _ it (by simp [Op.operands]), hh rfl]
  | _ => exact dflt
def SoftL (cs cs' : List AV) : Prop := cs'.length = cs.length ∧ ∀ (k : Nat) x x', cs[k]? = some x → cs'[k]? = some x' → x' = x ∨ (x.scal = true ∧ x' = x.strip)
inductive SoftO : AObj → AObj → Prop
  | map {kt kt' r r' ents ents'} (h : ents'.length = ents.length) : SoftO (.map kt r ents) (.map kt' r' ents')
  | cells {cs cs'} (h : SoftL cs cs') : SoftO (.cells cs) (.cells cs')
  | oarr {sz n g g'} (h : ∀ i, SoftL (g i).cells (g' i).cells) : SoftO (.oarr sz n g) (.oarr sz n g')
def OffMap (h h' : Heap) : Prop := ∀ id, h'.get id = h.get id ∨ SoftO (h.get id) (h'.get id)
theorem SoftL.refl (cs : List AV) : SoftL cs cs := ⟨rfl, fun k x x' h h' => .inl (by rw [h] at h'; cases h'; rfl)⟩
mutual
theorem strip_strip : ∀ v : AV, v.strip.strip = v.strip
  | .own v => by simp only [AV.strip]; exact strip_strip v
  | .uni _ => rfl
  | .agg cs => by simp only [AV.strip, stripL_stripL cs]
  | .tup vs => by simp only [AV.strip, stripL_stripL vs]
  | .fn f a b => by simp only [AV.strip, stripL_stripL a, stripL_stripL b]
  | .undef => rfl
  | .bool _ => rfl
  | .int _ _ => rfl
  | .str _ => rfl
  | .vec _ _ _ => rfl
  | .wide _ _ _ _ => rfl
  | .cptr _ => rfl
  | .ptr _ _ => rfl
  | .eptr _ _ _ _ => rfl
  | .nilptr => rfl
  | .row _ _ _ _ => rfl
  | .brow _ _ _ => rfl
  | .nils _ _ => rfl
  | .rvec _ => rfl
  | .mapr _ => rfl
  | .nilmap => rfl
  | .nilfn => rfl
  | .iter _ => rfl
  | .stamp _ _ => rfl
  | .iface _ _ => rfl
  | .nilIface => rfl
theorem stripL_stripL : ∀ l : List AV, AV.stripL (AV.stripL l) = AV.stripL l
  | [] => rfl
  | v :: r => by simp only [AV.stripL, strip_strip v, stripL_stripL r]
end
theorem scal_strip {v : AV} (h : v.scal = true) : v.strip.cells = [v.strip] ∧ ∀ cs, v.strip ≠ .agg cs := by
  cases v with
  | own w => cases w <;> simp [AV.scal] at h <;> exact ⟨rfl, fun cs e => by cases e⟩
  | uni w => exact ⟨rfl, fun cs e => by cases e⟩
  | agg _ => simp [AV.scal] at h
  | tup _ => simp [AV.scal] at h
  | _ => exact ⟨rfl, fun cs e => by cases e⟩
theorem stripL_soft : ∀ {cs cs' : List AV}, SoftL cs cs' → AV.stripL cs' = AV.stripL cs
  | [], [], _ => rfl
  | [], _ :: _, h => by simp [SoftL] at h
  | _ :: _, [], h => by simp [SoftL] at h
  | x :: r, x' :: r', h => by
    obtain ⟨h1, h2⟩ := h
    have e := stripL_soft (cs := r) (cs' := r') ⟨by simpa using h1, fun k y y' hy hy' => h2 (k + 1) y y' (by simpa using hy) (by simpa using hy')⟩
    simp only [AV.stripL, e]
    rcases h2 0 x x' rfl rfl with e | ⟨_, e⟩
    · rw [e]
    · rw [e, strip_strip]
theorem SoftL.sub {cs cs' : List AV} (h : SoftL cs cs') (off n : Nat) : SoftL ((cs.drop off).take n) ((cs'.drop off).take n) := by
  refine ⟨by simp [h.1], fun k x x' hx hx' => ?_⟩
  rw [List.getElem?_take] at hx hx'
  split at hx
  · rename_i hk
    rw [if_pos hk, List.getElem?_drop] at hx'
    rw [List.getElem?_drop] at hx
    exact h.2 _ x x' hx hx'
  · cases hx
theorem part_soft {P : Program} {t : TypeId} {cs cs' : List AV} {off : Nat} (h : SoftL cs cs') : (partAV P t cs' off).map AV.strip = (partAV P t cs off).map AV.strip := by
  unfold partAV
  cases tyAgg P t with
  | true =>
    simp only [cond_true, h.1]
    cases Nat.ble (off + tySz P t) cs.length with
    | false => rfl
    | true => simp only [cond_true, Option.map_some, AV.strip, stripL_soft (h.sub off (tySz P t))]
  | false =>
    simp only [cond_false]
    cases (P.underlying t).isSome && Nat.beq (tySz P t) 1 with
    | false => rfl
    | true =>
      simp only [cond_true]
      cases hx : cs[off]? with
      | none =>
        have : cs'[off]? = none := by rw [List.getElem?_eq_none_iff] at hx ⊢; rw [h.1]; exact hx
        rw [this]
      | some x =>
        cases hx' : cs'[off]? with
        | none =>
          have : cs[off]? = none := by rw [List.getElem?_eq_none_iff] at hx' ⊢; rw [← h.1]; exact hx'
          rw [this] at hx; cases hx
        | some x' =>
          rcases h.2 off x x' hx hx' with e | ⟨hs, e⟩
          · rw [e]
          · have hn := (scal_strip hs).2
            have h1 : oneAV (some x') = some x' := by
              rw [e]
              cases hq : x.strip with
              | agg cs => exact absurd hq (hn cs)
              | _ => rfl
            have h2 : oneAV (some x) = some x := by
              cases x with
              | agg cs => simp [AV.scal] at hs
              | _ => rfl
            rw [h1, h2, e]
            simp only [Option.map_some, strip_strip]
theorem setRange_soft {cs : List AV} {off : Nat} {v : AV} (hc : cs[off]? = some v) (hs : v.scal = true) : SoftL cs (setRange cs off [v.strip]) := by
  refine ⟨by simp [setRange], fun k x x' hx hx' => ?_⟩
  simp only [setRange] at hx'
  by_cases e : off = k
  · subst e
    rw [hc] at hx; cases hx
    rw [List.getElem?_set_self (List.getElem?_eq_some_iff.1 hc).1] at hx'
    cases hx'
    exact .inr ⟨hs, rfl⟩
  · rw [List.getElem?_set_ne e, hx] at hx'
    cases hx'
    exact .inl rfl
theorem part_one {P : Program} {t : TypeId} {cs : List AV} {off : Nat} {v : AV} (hna : tyAgg P t = false) (h : partAV P t cs off = some v) : cs[off]? = some v := by
  unfold partAV at h
  rw [hna] at h
  simp only [cond_false] at h
  cases hk : ((P.underlying t).isSome && Nat.beq (tySz P t) 1) with
  | false => simp [hk] at h
  | true =>
    simp only [hk, cond_true] at h
    unfold oneAV at h
    split at h
    · cases h
    · exact h
theorem setElem_soft {old : AV} {off sz : Nat} {v : AV} (hc : old.cells[off]? = some v) (hs : v.scal = true) : SoftL old.cells (setElem old off sz v.strip).cells := by
  obtain ⟨h1, h2⟩ := scal_strip hs
  cases old with
  | agg cs =>
    have e : ∀ u : AV, u.cells = [u] → (∀ cs, u ≠ .agg cs) → (setElem (.agg cs) off sz u).cells = setRange cs off [u] := by
      intro u h1 h2
      have e2 : setElem (.agg cs) off sz u = .agg (setRange cs off u.cells) := by
        unfold setElem
        cases u with
        | agg cs' => exact absurd rfl (h2 cs')
        | _ => cases (Nat.beq off 0 && Nat.beq _ sz) <;> rfl
      rw [e2, h1]; rfl
    rw [e _ h1 h2]
    exact setRange_soft hc hs
  | _ =>
    simp only [AV.cells] at hc
    cases off with
    | succ off => simp at hc
    | zero =>
      simp at hc
      subst hc
      simp only [setElem, AV.cells]
      try rw [h1]
      exact ⟨rfl, fun k x x' hx hx' => by
        cases k with
        | succ k => simp at hx
        | zero => simp at hx hx'; subst hx; subst hx'; exact .inr ⟨hs, rfl⟩⟩
theorem take_off {cx : Ctx} {t : TypeId} {h h' : Heap} {p v : AV} (hl : takeAV cx h t p = some (v, h')) : OffMap h h' := by
  unfold takeAV at hl
  split at hl
  · rename_i id off
    split at hl
    · rename_i cs hg
      split at hl
      · rename_i v0 hp
        cases hc : (!tyAgg cx.P t && v0.scal) with
        | false => rw [hc] at hl; simp at hl
        | true =>
          rw [hc] at hl
          simp only [cond_true, Option.some.injEq, Prod.mk.injEq] at hl
          obtain ⟨_, rfl⟩ := hl
          simp only [Bool.and_eq_true, Bool.not_eq_true'] at hc
          intro j
          rw [heap_get_set]
          by_cases e1 : id = j ∧ j < h.length
          · rw [if_pos e1]; right; rw [← e1.1, hg]; exact .cells (setRange_soft (part_one hc.1 hp) hc.2)
          · rw [if_neg e1]; exact .inl rfl
      · cases hl
    · cases hl
  · rename_i id sz i off
    split at hl
    · rename_i sz' n g hg
      cases hb : (Nat.beq sz sz' && Nat.blt i n) with
      | false => rw [hb] at hl; simp at hl
      | true =>
        rw [hb] at hl
        simp only [cond_true] at hl
        split at hl
        · rename_i v0 hp
          cases hc : (!tyAgg cx.P t && v0.scal) with
          | false => rw [hc] at hl; simp at hl
          | true =>
            rw [hc] at hl
            simp only [cond_true, Option.some.injEq, Prod.mk.injEq] at hl
            obtain ⟨_, rfl⟩ := hl
            simp only [Bool.and_eq_true, Bool.not_eq_true'] at hc
            intro j
            rw [heap_get_set]
            by_cases e1 : id = j ∧ j < h.length
            · rw [if_pos e1]; right; rw [← e1.1, hg]
              have hsz : sz = sz' := Nat.eq_of_beq_eq_true (by simp only [Bool.and_eq_true] at hb; exact hb.1)
              subst hsz
              refine .oarr fun k => ?_
              unfold upd
              by_cases ek : k = i
              · subst ek
                rw [Nat.beq_refl]
                exact setElem_soft (part_one hc.1 hp) hc.2
              · rw [show Nat.beq k i = false by cases hb : Nat.beq k i; rfl; exact absurd (Nat.eq_of_beq_eq_true hb) ek]
                exact SoftL.refl _
            · rw [if_neg e1]; exact .inl rfl
        · cases hl
    · cases hl
  · cases hl
def wrM (all : List Oper) (o : Oper) : Bool :=
  match o.op with
  | .lookup _ _ _ ok => !ok && isBaseO o.dst all
  | .load _ _ => isBaseO o.dst all
  | _ => false
def rdL (all : List Oper) (o : Oper) : Bool :=
  match o.op with
  | .load _ _ => !isBaseO o.dst all
  | .call { callee := .builtin .append, .. } => true
  | .call { callee := .builtin .len, .. } => true
  | .call { callee := .builtin .min, .. } => true
  | .call { callee := .builtin .max, .. } => true
  | _ => false
theorem lookTake_off {P : Program} {t : TypeId} {h h' : Heap} {m q v : AV} (hl : lookTakeAV P t h m q = some (v, h')) : OffMap h h' := by
  unfold lookTakeAV at hl
  split at hl
  · rename_i kt e id ht
    split at hl
    · rename_i kt2 reg ents hg
      cases hc : (Nat.beq kt kt2 && keyOk P kt q && noIter id h && hasZero P e) with
      | false => rw [hc] at hl; simp at hl
      | true =>
        rw [hc] at hl
        simp only [cond_true] at hl
        split at hl
        · simp only [Option.some.injEq, Prod.mk.injEq] at hl
          obtain ⟨_, rfl⟩ := hl
          intro j
          rw [heap_get_set]
          by_cases e1 : id = j ∧ j < h.length
          · rw [if_pos e1]; right; rw [← e1.1, hg]; exact .map (msetAt_length _ _ _)
          · rw [if_neg e1]; exact .inl rfl
        · simp only [Option.some.injEq, Prod.mk.injEq] at hl
          obtain ⟨_, rfl⟩ := hl
          exact fun j => .inl rfl
    · simp at hl
  · simp at hl
theorem load_off {P : Program} {t : TypeId} {h h' : Heap} (ho : OffMap h h') (p : AV) : (loadAV P h' t p).map AV.strip = (loadAV P h t p).map AV.strip := by
  unfold loadAV readCells
  cases p with
  | ptr id off =>
    rcases ho id with e | e
    · simp only [e]
    · dsimp only
      generalize h.get id = o at *
      generalize h'.get id = o' at *
      cases e with
      | map q => rfl
      | cells hs => exact part_soft hs
      | oarr hs => rfl
  | eptr id sz i off =>
    rcases ho id with e | e
    · simp only [e]
    · dsimp only
      generalize h.get id = o at *
      generalize h'.get id = o' at *
      cases e with
      | map q => rfl
      | cells hs => rfl
      | @oarr sz' n g g' hs =>
        dsimp only
        cases Nat.beq sz sz' && Nat.blt i n with
        | false => rfl
        | true => exact part_soft (hs i)
  | _ => rfl
theorem src_off {P : Program} {e : TypeId} {h h' : Heap} (ho : OffMap h h') (x : AV) : srcOf P e h' x = srcOf P e h x := by
  unfold srcOf
  split
  · rfl
  · rfl
  · rfl
  · rename_i id sz lo n
    rcases ho id with q | q
    · rw [q]
    · generalize h.get id = o at *
      generalize h'.get id = o' at *
      cases q <;> rfl
  · rfl
theorem append_off {P : Program} {t u : TypeId} {h h' : Heap} (ho : OffMap h h') (b x : AV) : appendAV P t u h' b x = appendAV P t u h b x := by
  unfold appendAV
  simp only [src_off ho]
theorem len_off {P : Program} {t : TypeId} {h h' : Heap} (ho : OffMap h h') (x : AV) : lenAV P h' t x = lenAV P h t x := by
  unfold lenAV
  split
  all_goals first | rfl | skip
  rename_i id _ _
  rcases ho id with q | q
  · rw [q]
  · generalize h.get id = o at *
    generalize h'.get id = o' at *
    cases q with
    | map q => simp only [q]
    | cells _ => rfl
    | oarr _ => rfl
theorem appendO_brow {P : Program} {t u : TypeId} {h : Heap} {b x : AV} (hb : ∀ id sz n, b ≠ .brow id sz n) : appendO P t u h b x = none := by
  unfold appendO
  split
  · exact absurd rfl (hb _ _ _)
  · rfl
theorem append_brow {P : Program} {t u : TypeId} {h : Heap} {id sz n : Nat} {x : AV} : appendAV P t u h (.brow id sz n) x = none := by
  unfold appendAV
  cases !isSliceT P u
  · simp only [cond_false]
    split <;> rfl
  · rfl
theorem effOp_load {all : List Oper} {cx : Ctx} {fid rid ix base : Nat} {o : Oper} {rest : List Oper} {env : Env} {heap heap' : Heap} (hb : isBaseO o.dst rest = true → isBaseO o.dst all = true) (hl : rdL all o = true) (ho : OffMap heap heap') :
    effOp cx true fid rid ix base o rest env heap' = effOp cx true fid rid ix base o rest env heap := by
  unfold rdL at hl
  split at hl
  · rename_i t p hop
    have hn : isBaseO o.dst rest = false := by
      cases hq : isBaseO o.dst rest with
      | false => rfl
      | true => rw [hb hq] at hl; cases hl
    unfold effOp evalOp
    rw [hop]
    simp only [hn, Bool.not_true, Bool.false_and, Bool.or_false, cond_false, load_off ho]
  · rename_i args ats hop
    unfold effOp
    rw [hop]
    dsimp only
    split
    · rename_i s x t u _ _
      by_cases hq : ∃ id sz n, env.get s = .brow id sz n
      · obtain ⟨id, sz, n, e⟩ := hq
        simp only [e, append_brow, Bool.not_true, Bool.false_and, cond_false]
        cases appendO cx.P t u heap' (.brow id sz n) (evo cx.P u env x) <;> cases appendO cx.P t u heap (.brow id sz n) (evo cx.P u env x) <;> rfl
      · have hq : ∀ id sz n, env.get s ≠ .brow id sz n := fun id sz n e => hq ⟨id, sz, n, e⟩
        simp only [appendO_brow hq, append_off ho]
    · simp only [append_off ho]
    · rfl
  · rename_i args ats hop
    unfold effOp evalOp extEff extOp
    rw [hop]
    dsimp only
    simp only [len_off ho]
  · rename_i args ats hop
    unfold effOp evalOp extEff extOp
    rw [hop]
  · rename_i args ats hop
    unfold effOp evalOp extEff extOp
    rw [hop]
  · cases hl
def Eff.within (l : List Nat) (wh wm cv : Bool) (heap : Heap) : Eff → Prop
  | .fail => True
  | .put b ws h => (∀ s, b = some s → s ∈ l) ∧ (∀ p ∈ ws, p.1 ∈ l) ∧ (wh = false → h = none ∨ (wm = true ∧ ∀ hh, h = some hh → OffMap heap hh))
  | .call _ _ => cv = true
  | .inl _ _ => False
  | .dc _ _ => False
  | .nilT _ _ => False
  | .nxt _ _ _ => False
  | .app _ _ _ => False
  | .mkO _ _ _ => False
theorem optW_in {d : Option Nat} {v : AV} {l : List Nat} : ∀ p ∈ optW d v, p.1 ∈ optL d ++ l := by
  intro p hp
  cases d with
  | none => simp [optW] at hp
  | some d => simp [optW] at hp; subst hp; simp [optL]
theorem extEff_within {all : List Oper} {cx : Ctx} {o : Oper} {env : Env} {heap : Heap} {wm cv : Bool} : (extEff cx o env heap).within (optL o.dst ++ moved all o.dst o.op) (wrH o.op) wm cv heap := by
  unfold extEff
  cases he : extOp cx.P o env heap with
  | none => trivial
  | some p =>
    obtain ⟨s, v, h⟩ := p
    have key : (∀ s0, s = some s0 → s0 ∈ moved all o.dst o.op) ∧ (wrH o.op = false → h = none) := by
      have tm : ∀ (x : Operand) s0, tmpOp x = some s0 → s0 ∈ tmpsOf [x] := by
        intro x s0 hx
        cases x <;> simp [tmpOp] at hx
        subst hx; simp [tmpsOf]
      unfold extOp at he
      split at he
      · rename_i hop
        rw [hop]
        split at he
        · simp only [Option.some.injEq, Prod.mk.injEq] at he
          obtain ⟨rfl, _, _⟩ := he
          exact ⟨fun s0 hs => tm _ _ hs, fun hw => by simp [wrH] at hw⟩
        · simp at he
      · rename_i hop
        rw [hop]
        split at he
        · simp only [Option.some.injEq, Prod.mk.injEq] at he
          obtain ⟨rfl, _, _⟩ := he
          exact ⟨fun s0 hs => tm _ _ hs, fun hw => by simp [wrH] at hw⟩
        · simp at he
      · rename_i hop
        rw [hop]
        split at he
        · simp only [Option.some.injEq, Prod.mk.injEq] at he
          obtain ⟨rfl, _, _⟩ := he
          exact ⟨fun s0 hs => by simp at hs, fun hw => by simp [wrH] at hw⟩
        · simp at he
      · rename_i hop
        rw [hop]
        split at he
        · simp only [Option.some.injEq, Prod.mk.injEq] at he
          obtain ⟨rfl, _, _⟩ := he
          exact ⟨fun s0 hs => tm _ _ hs, fun hw => by simp [wrH] at hw⟩
        · simp at he
      · rename_i hop
        obtain ⟨v1, _, he1⟩ := Option.map_eq_some_iff.1 he
        simp only [Prod.mk.injEq] at he1
        obtain ⟨rfl, _, rfl⟩ := he1
        exact ⟨fun s0 hs => by simp at hs, fun _ => rfl⟩
      · rename_i hop
        rw [hop]
        split at he
        · obtain ⟨v1, _, he1⟩ := Option.map_eq_some_iff.1 he
          simp only [Prod.mk.injEq] at he1
          obtain ⟨rfl, _, _⟩ := he1
          exact ⟨fun s0 hs => by simp at hs, fun hw => by simp [wrH] at hw⟩
        · simp at he
      · rename_i hop
        rw [hop]
        split at he
        · obtain ⟨v1, _, he1⟩ := Option.map_eq_some_iff.1 he
          simp only [Prod.mk.injEq] at he1
          obtain ⟨rfl, _, _⟩ := he1
          exact ⟨fun s0 hs => by simp at hs, fun hw => by simp [wrH] at hw⟩
        · simp at he
      · rename_i hop
        rw [hop]
        split at he
        · obtain ⟨v1, _, he1⟩ := Option.map_eq_some_iff.1 he
          simp only [Prod.mk.injEq] at he1
          obtain ⟨rfl, _, _⟩ := he1
          exact ⟨fun s0 hs => by simp at hs, fun hw => by simp [wrH] at hw⟩
        · simp at he
      · simp at he
    exact ⟨fun s0 hs => List.mem_append_right _ (key.1 s0 hs), optW_in, fun hw => .inl (key.2 hw)⟩
theorem effOp_within {all : List Oper} {cx : Ctx} {fid rid ix base : Nat} {o : Oper} {rest : List Oper} (hb : isBaseO o.dst rest = true → isBaseO o.dst all = true) {env : Env} {heap : Heap} :
    (effOp cx true fid rid ix base o rest env heap).within (wrSlots all o) (wrH o.op) (wrM all o) (isCallV o.op) heap := by
  have put1 : ∀ v wh cv l, (Eff.put none (optW o.dst v) none).within (optL o.dst ++ l) wh (wrM all o) cv heap := fun v wh cv l => ⟨fun s h => by simp at h, optW_in, fun _ => .inl rfl⟩
  have put2 : ∀ s v wh cv l, s ∈ l → (Eff.put (some s) (optW o.dst v) none).within (optL o.dst ++ l) wh (wrM all o) cv heap := fun s v wh cv l hl => ⟨fun t h => by simp at h; subst h; simp [hl], optW_in, fun _ => .inl rfl⟩
  have dflt : ∀ cv, (match evalOp cx.P o env heap with
      | some v => Eff.put none (optW o.dst v) none
      | none => extEff cx o env heap).within (optL o.dst ++ moved all o.dst o.op) (wrH o.op) (wrM all o) cv heap := by
    intro cv
    split
    · exact put1 _ _ _ _
    · exact extEff_within
  have hwm : ∀ t m q, o.op = .lookup t m q false → isBaseO o.dst rest = true → wrM all o = true := fun t m q h h2 => by unfold wrM; rw [h]; simp [hb h2]
  unfold effOp wrSlots
  generalize hop : o.op = op at *
  cases op with
  | move x =>
    cases x with
    | tmp s =>
      dsimp only
      cases hbb : isBaseO o.dst rest || (!true && cx.xf fid rid ix)
      · exact put1 _ _ _ _
      · have : isBaseO o.dst rest = true := by simpa using hbb
        exact put2 _ _ _ _ _ (by simp [moved, tmpsOf, hb this])
    | _ => exact put1 _ _ _ _
  | assign x =>
    cases x with
    | tmp s => exact put2 _ _ _ _ _ (by simp [moved, tmpsOf])
    | _ => exact put1 _ _ _ _
  | alloc t =>
    dsimp only
    cases (!(hasZero cx.P t && (zeroAV cx.P t).cells.all AV.scal))
    · exact put1 _ _ _ _
    · trivial
  | makeMap t r => cases r with
    | none => exact put1 _ _ _ _
    | some r => exact dflt _
  | box t x =>
    dsimp only
    cases sameShape cx.P t (evo cx.P t env x).keepA
    · trivial
    · exact ⟨fun s h => by simp at h, optW_in, fun h => by simp [wrH] at h⟩
  | store t p v =>
    dsimp only
    split
    · cases (!Nat.blt 0 (tySz cx.P t))
      · refine ⟨fun s h => ?_, optW_in, fun h => by simp [wrH] at h⟩
        cases v <;> simp [tmpO] at h
        subst h
        simp [moved, tmpsOf]
      · trivial
    · trivial
  | call c =>
    obtain ⟨callee, args, argTypes⟩ := c
    cases callee with
    | value f =>
      dsimp only
      split
      · rename_i g first caps _
        cases AV.isDataL (first ++ evoL cx.P env argTypes.toList args.toList ++ caps) && !cx.inl g
        · trivial
        · rfl
      · trivial
    | invoke r m => trivial
    | builtin b =>
      cases b with
      | append =>
        dsimp only [moved]
        generalize args.toList = l at *
        generalize argTypes.toList = m
        rcases l with _ | ⟨y, _ | ⟨x, _ | ⟨z, l⟩⟩⟩
        · trivial
        · cases y <;> trivial
        · rcases m with _ | ⟨t, _ | ⟨u, _ | ⟨z, m⟩⟩⟩
          · cases y <;> trivial
          · cases y <;> trivial
          · cases y with
            | tmp s =>
              simp only [Bool.not_true, Bool.false_and, cond_false]
              split
              · trivial
              split
              · exact put2 _ _ _ _ _ (by simp [tmpsOf])
              · trivial
            | const v =>
              dsimp only
              split
              · exact put1 _ _ _ _
              · trivial
            | _ => trivial
          · cases y <;> trivial
        · cases y <;> trivial
      | _ => exact dflt _
  | load t p =>
    simp only [Bool.not_true, Bool.false_and, Bool.or_false]
    cases hcc : isBaseO o.dst rest with
    | true =>
      simp only [cond_true]
      split
      · rename_i v h hv
        exact ⟨fun s h => by simp at h, optW_in, fun _ => .inr ⟨by unfold wrM; rw [hop]; exact hb hcc, fun hh e => by cases e; exact take_off hv⟩⟩
      · trivial
    | false =>
      simp only [cond_false]
      split
      · exact put1 _ _ _ _
      · trivial
  | lookup t m q ok =>
    simp only [Bool.not_true, Bool.false_and, Bool.or_false]
    cases hcc : (!ok && isBaseO o.dst rest) with
    | true =>
      simp only [Bool.and_eq_true, Bool.not_eq_true'] at hcc
      obtain ⟨rfl, hbb⟩ := hcc
      simp only [cond_true]
      split
      · split
        · rename_i v h hv
          exact ⟨fun s h => by simp at h, optW_in, fun _ => .inr ⟨hwm t m q rfl hbb, fun hh e => by cases e; exact lookTake_off hv⟩⟩
        · trivial
      · trivial
    | false =>
      simp only [cond_false]
      split
      · exact put1 _ _ _ _
      · trivial
  | buildSlice t l ps =>
    simp only [Bool.not_true, Bool.false_and, cond_false]
    exact dflt _
  | makeSlice t l c =>
    simp only [Bool.not_true, Bool.false_and, cond_false]
    have := extEff_within (all := all) (cx := cx) (o := o) (env := env) (heap := heap) (wm := wrM all o) (cv := isCallV o.op)
    rw [hop] at this; exact this
  | extract x i =>
    cases x with
    | tmp s =>
      dsimp only
      split
      · split
        · refine ⟨fun s h => by simp at h, fun p hp => ?_, fun _ => .inl rfl⟩
          rcases List.mem_cons.1 hp with rfl | hp
          · simp [moved, tmpsOf]
          · exact optW_in p hp
        · trivial
      · trivial
    | _ => trivial
  | binOp op t x y yt =>
    dsimp only
    cases nilTest cx.P op t (evo cx.P t env x).strip y with
    | none => exact dflt _
    | some p => trivial
  | range t x => trivial
  | next it s => trivial
  | _ => exact dflt _
theorem setL_out : ∀ (ws : List (Nat × AV)) (env : Env) (t : Nat), (∀ p ∈ ws, p.1 ≠ t) → (setL ws env).get t = env.get t
  | [], env, t, h => rfl
  | (d, v) :: r, env, t, h => by
    simp only [setL]
    rw [setL_out r _ t (fun p hp => h p (by simp [hp])), get_set, if_neg (h (d, v) (by simp))]
theorem setL_pt : ∀ (ws : List (Nat × AV)) (env env' : Env) (t : Nat), env.get t = env'.get t → (setL ws env).get t = (setL ws env').get t
  | [], env, env', t, h => h
  | (d, v) :: r, env, env', t, h => by
    simp only [setL]
    refine setL_pt r _ _ t ?_
    rw [get_set, get_set]; split
    · rfl
    · exact h
theorem bareO_out {b : Option Nat} {env : Env} {t : Nat} (h : ∀ s, b = some s → s ≠ t) : (bareO b env).get t = env.get t := by
  cases b with
  | none => rfl
  | some s => simp only [bareO]; rw [get_bare, if_neg (h s rfl)]
theorem bareO_pt {b : Option Nat} {env env' : Env} {t : Nat} (h : env.get t = env'.get t) : (bareO b env).get t = (bareO b env').get t := by
  cases b with
  | none => exact h
  | some s => simp only [bareO]; rw [get_bare, get_bare, h]
theorem setO_out {d : Option Nat} {v : AV} {env : Env} {t : Nat} (h : ∀ s, d = some s → s ≠ t) : (setO env d v).get t = env.get t := by
  cases d with
  | none => rfl
  | some s => simp only [setO]; rw [get_set, if_neg (h s rfl)]
theorem setO_pt {d : Option Nat} {v : AV} {env env' : Env} {t : Nat} (h : env.get t = env'.get t) : (setO env d v).get t = (setO env' d v).get t := by
  cases d with
  | none => exact h
  | some s => simp only [setO]; rw [get_set, get_set, h]
end Ax

namespace Ax
open Go Go.RowKit
structure Tag where
  ix : Nat
  base : Nat
  o : Oper
  rest : List Oper
def stepEff (cx : Ctx) (fid rid : Nat) (all : List Oper) (t : Tag) (env : Env) (heap : Heap) : Eff :=
  match t.o.guard with
  | none => effOp cx true fid rid t.ix t.base t.o t.rest env heap
  | some (j, want) =>
    match envGuard all env j with
    | .bool b => if b = want then effOp cx true fid rid t.ix t.base t.o t.rest env heap else .put none (optW t.o.dst (.tup [])) none
    | .tup [] => .put none (optW t.o.dst (.tup [])) none
    | _ => .fail
def guardSlots (all : List Oper) (o : Oper) : List Nat := match o.guard with | some (j, _) => optL (guardSlot all j) | none => []
def seen (all : List Oper) (o : Oper) : List Nat := guardSlots all o ++ opSlots o.op
def EqSt (a b : St) : Prop := (∀ t, a.env.get t = b.env.get t) ∧ a.heap = b.heap ∧ a.defers = b.defers ∧ a.bor = b.bor
theorem EqSt.refl (a : St) : EqSt a a := ⟨fun _ => rfl, rfl, rfl, rfl⟩
theorem EqSt.symm {a b : St} (h : EqSt a b) : EqSt b a := ⟨fun t => (h.1 t).symm, h.2.1.symm, h.2.2.1.symm, h.2.2.2.symm⟩
theorem EqSt.trans {a b c : St} (h : EqSt a b) (k : EqSt b c) : EqSt a c := ⟨fun t => (h.1 t).trans (k.1 t), h.2.1.trans k.2.1, h.2.2.1.trans k.2.2.1, h.2.2.2.trans k.2.2.2⟩
def Closed (k : St → Prop) : Prop := ∀ a b, EqSt a b → k a → k b
structure Calm (X : Rec Prop) : Prop where
  fail : ¬ X.fail
  some : ∀ f args Q, X.call f args Q → ∃ r, Q r
  mono : ∀ f args (Q Q' : AV → Prop), (∀ r, Q r → Q' r) → X.call f args Q → X.call f args Q'
  br : X.br = BrP
  all : X.all = fun n k => ∀ i, i < n → k i
section
variable {X : Rec Prop} {cx : Ctx} {fid rid : Nat} {all : List Oper}
def noIX (X : Rec Prop) : FuncId → List AV → Heap → (AV → Heap → Prop) → Prop := fun _ _ _ _ => X.fail
def noJX (X : Rec Prop) : Option Nat → FuncId → List AV → St → (St → Prop) → Prop := fun _ _ _ _ _ => X.fail
def stepE (X : Rec Prop) (cx : Ctx) (fid rid : Nat) (all : List Oper) (t : Tag) (st : St) (k : St → Prop) : Prop := effSem X (noIX X) (noJX X) t.o.dst (stepEff cx fid rid all t st.env st.heap) st k
theorem stepEff_same {t : Tag} {env env' : Env} {heap heap' : Heap} (h : SameOn (seen all t.o) env env') (hh : rdH t.o.op = true → heap = heap') :
    stepEff cx fid rid all t env heap = stepEff cx fid rid all t env' heap' := by
  have ho : effOp cx true fid rid t.ix t.base t.o t.rest env heap = effOp cx true fid rid t.ix t.base t.o t.rest env' heap' := effOp_same (fun s hs => h s (by simp [seen, hs])) hh
  unfold stepEff
  cases hg : t.o.guard with
  | none => exact ho
  | some jw =>
    obtain ⟨j, want⟩ := jw
    have : envGuard all env j = envGuard all env' j := by
      have hs : ∀ s, guardSlot all j = some s → env.get s = env'.get s := fun s hs => h s (by simp [seen, guardSlots, hg, hs, optL])
      unfold envGuard
      unfold guardSlot at hs
      cases ho : all[j]? with
      | none => rfl
      | some p =>
        rw [ho] at hs
        simp only [Option.bind_some] at hs
        cases hd : p.dst with
        | none => simp only [hd]
        | some d => simp only [hd]; exact hs d hd
    simp only [this, ho]
def BaseIn (all : List Oper) (t : Tag) : Prop := isBaseO t.o.dst t.rest = true → isBaseO t.o.dst all = true
theorem stepEff_same2 {t : Tag} (hb : BaseIn all t) {env env' : Env} {heap heap' : Heap} (h : SameOn (seen all t.o) env' env) (hh : rdH t.o.op = true → heap' = heap ∨ (rdL all t.o = true ∧ OffMap heap heap')) :
    stepEff cx fid rid all t env' heap' = stepEff cx fid rid all t env heap := by
  by_cases hc : rdH t.o.op = true → heap' = heap
  · exact stepEff_same h hc
  · have hr : rdH t.o.op = true := by
      cases hr : rdH t.o.op with
      | true => rfl
      | false => exact absurd (fun e => by rw [hr] at e; cases e) hc
    rcases hh hr with e | ⟨hl, ho⟩
    · exact absurd (fun _ => e) hc
    · have e1 : stepEff cx fid rid all t env heap' = stepEff cx fid rid all t env heap := by
        unfold stepEff
        rw [effOp_load hb hl ho]
      rw [← e1]
      exact stepEff_same h (fun _ => rfl)
theorem stepEff_within {t : Tag} (hb : BaseIn all t) {env : Env} {heap : Heap} : (stepEff cx fid rid all t env heap).within (wrSlots all t.o) (wrH t.o.op) (wrM all t.o) (isCallV t.o.op) heap := by
  have skip : (Eff.put none (optW t.o.dst (.tup [])) none).within (wrSlots all t.o) (wrH t.o.op) (wrM all t.o) (isCallV t.o.op) heap := ⟨fun s h => by simp at h, optW_in, fun _ => .inl rfl⟩
  unfold stepEff
  split
  · exact effOp_within hb
  · split
    · split
      · exact effOp_within hb
      · exact skip
    · exact skip
    · trivial
theorem effSem_mono (hX : Calm X) {d : Option Nat} {e : Eff} {st : St} {k k' : St → Prop} (h : ∀ s, k s → k' s) (hk : effSem X (noIX X) (noJX X) d e st k) : effSem X (noIX X) (noJX X) d e st k' := by
  cases e with
  | fail => exact hk
  | put b ws hp => exact h _ hk
  | call g args => exact hX.mono _ _ _ _ (fun r hr => h _ hr) hk
  | inl g args => exact absurd hk (by simp only [effSem, noIX]; split; exact hX.fail; cases !noO st.heap <;> exact hX.fail)
  | dc g args => exact absurd hk hX.fail
  | nilT n b =>
    simp only [effSem, hX.br, hX.all] at hk ⊢
    exact ⟨fun e i hi => h _ (hk.yes e i hi), fun e => h _ (hk.no e)⟩
  | nxt id q left =>
    simp only [effSem, hX.br, hX.all] at hk ⊢
    exact ⟨fun e => h _ (hk.yes e), fun e i hi => h _ (hk.no e i hi)⟩
  | app id v hp => exact h _ hk
  | mkO sz n z => exact h _ hk
theorem effSem_eq (hX : Calm X) {d : Option Nat} {e : Eff} {st st' : St} {k : St → Prop} (hc : Closed k) (h : EqSt st st') (hk : effSem X (noIX X) (noJX X) d e st k) : effSem X (noIX X) (noJX X) d e st' k := by
  obtain ⟨h1, h2, h3, h4⟩ := h
  cases e with
  | fail => exact hk
  | put b ws hp =>
    simp only [effSem] at hk ⊢
    refine hc _ _ ?_ hk
    exact ⟨fun t => setL_pt _ _ _ _ (bareO_pt (h1 t)), by simp only [h2], h3, h4⟩
  | call g args =>
    simp only [effSem] at hk ⊢
    refine hX.mono _ _ _ _ (fun r hr => ?_) hk
    refine hc _ _ ?_ hr
    exact ⟨fun t => setO_pt (h1 t), h2, h3, h4⟩
  | inl g args => exact absurd hk (by simp only [effSem, noIX]; split; exact hX.fail; cases !noO st.heap <;> exact hX.fail)
  | dc g args => exact absurd hk hX.fail
  | nilT n b =>
    simp only [effSem, hX.br, hX.all] at hk ⊢
    exact ⟨fun e i hi => hc ⟨setO st.env d (.bool (Nat.beq i 0)), st.heap, st.defers, st.bor⟩ _ ⟨fun t => setO_pt (h1 t), h2, h3, h4⟩ (hk.yes e i hi), fun e => hc ⟨setO st.env d (.bool b), st.heap, st.defers, st.bor⟩ _ ⟨fun t => setO_pt (h1 t), h2, h3, h4⟩ (hk.no e)⟩
  | nxt id q left =>
    simp only [effSem, hX.br, hX.all] at hk ⊢
    exact ⟨fun e => hc ⟨setO st.env d (.tup [.bool false]), st.heap.set id .dead, st.defers, st.bor⟩ _ ⟨fun t => setO_pt (h1 t), congrArg (fun h => Heap.set h id .dead) h2, h3, h4⟩ (hk.yes e),
      fun e i hi => hc ⟨setO st.env d (leftAt left i), st.heap.set id (.iter q (left.eraseIdx i) (curAt left i)), st.defers, st.bor⟩ _ ⟨fun t => setO_pt (h1 t), congrArg (fun h => Heap.set h id (.iter q (left.eraseIdx i) (curAt left i))) h2, h3, h4⟩ (hk.no e i hi)⟩
  | app id v hp =>
    simp only [effSem] at hk ⊢
    refine hc _ _ ?_ hk
    exact ⟨fun t => setO_pt (by rw [get_scrub, get_scrub, h1 t]), rfl, h3, h4⟩
  | mkO sz n z =>
    simp only [effSem] at hk ⊢
    refine hc _ _ ?_ hk
    exact ⟨fun t => by rw [h2]; exact setO_pt (h1 t), by simp only [h2], h3, h4⟩
theorem stepE_mono (hX : Calm X) {t : Tag} {st : St} {k k' : St → Prop} (h : ∀ s, k s → k' s) (hk : stepE X cx fid rid all t st k) : stepE X cx fid rid all t st k' := effSem_mono hX h hk
theorem stepE_closed (hX : Calm X) {t : Tag} {k : St → Prop} (hc : Closed k) : Closed fun st => stepE X cx fid rid all t st k := by
  intro a b h hk
  unfold stepE at *
  rw [stepEff_same (env' := a.env) (heap' := a.heap) (fun s _ => (h.1 s).symm) (fun _ => h.2.1.symm)]
  exact effSem_eq hX hc h hk
def disj (l m : List Nat) : Bool := l.all fun x => !memN x m
theorem memN_iff {t : Nat} : ∀ {l : List Nat}, memN t l = true ↔ t ∈ l
  | [] => by simp [memN]
  | s :: r => by
    simp only [memN, Bool.or_eq_true, memN_iff (l := r), beq_eq, decide_eq_true_eq, List.mem_cons]
    constructor
    · rintro (h | h)
      · exact .inl h.symm
      · exact .inr h
    · rintro (h | h)
      · exact .inl h.symm
      · exact .inr h
theorem disj_spec {l m : List Nat} (h : disj l m = true) {t : Nat} (hl : t ∈ l) (hm : t ∈ m) : False := by
  have := List.all_eq_true.1 h t hl
  rw [memN_iff.2 hm] at this
  simp at this
def wrA (all : List Oper) (o : Oper) : Bool := wrH o.op || wrM all o
def sees (all : List Oper) (x y : Oper) : Bool := (wrA all x && wrA all y) || (wrH x.op && rdH y.op) || (wrM all x && (rdH y.op && !rdL all y))
def clash (all : List Oper) (x y : Oper) : Bool := sees all x y || sees all y x || (isCallV x.op && isCallV y.op)
def indep0 (all : List Oper) (x y : Oper) : Bool := disj (wrSlots all x) (seen all y) && disj (wrSlots all y) (seen all x) && disj (wrSlots all x) (wrSlots all y) && !clash all x y
theorem dst_in {o : Oper} {d : Nat} (h : o.dst = some d) : d ∈ wrSlots all o := by simp [wrSlots, h, optL]
theorem stepE_swap0 (hX : Calm X) {x y : Tag} (hbx : BaseIn all x) (hby : BaseIn all y) (hi : indep0 all x.o y.o = true) {st : St} {k : St → Prop} (hc : Closed k)
    (hk : stepE X cx fid rid all x st fun st => stepE X cx fid rid all y st k) : stepE X cx fid rid all y st fun st => stepE X cx fid rid all x st k := by
  simp only [indep0, Bool.and_eq_true, Bool.not_eq_true', clash, Bool.or_eq_false_iff] at hi
  obtain ⟨⟨⟨d1, d2⟩, d3⟩, ⟨c1, c2⟩, c3⟩ := hi
  rw [Bool.and_eq_false_iff] at c3
  have wx := stepEff_within (cx := cx) (fid := fid) (rid := rid) (all := all) (t := x) hbx (env := st.env) (heap := st.heap)
  have wy := stepEff_within (cx := cx) (fid := fid) (rid := rid) (all := all) (t := y) hby (env := st.env) (heap := st.heap)
  have same_y : ∀ (st' : St), (∀ s, s ∉ wrSlots all x.o → st'.env.get s = st.env.get s) → (rdH y.o.op = true → st'.heap = st.heap ∨ (rdL all y.o = true ∧ OffMap st.heap st'.heap)) → stepEff cx fid rid all y st'.env st'.heap = stepEff cx fid rid all y st.env st.heap :=
    fun st' h1 h2 => stepEff_same2 hby (fun s hs => h1 s (fun hw => disj_spec d1 hw hs)) h2
  have same_x : ∀ (st' : St), (∀ s, s ∉ wrSlots all y.o → st'.env.get s = st.env.get s) → (rdH x.o.op = true → st'.heap = st.heap ∨ (rdL all x.o = true ∧ OffMap st.heap st'.heap)) → stepEff cx fid rid all x st'.env st'.heap = stepEff cx fid rid all x st.env st.heap :=
    fun st' h1 h2 => stepEff_same2 hbx (fun s hs => h1 s (fun hw => disj_spec d2 hw hs)) h2
  have seeH : ∀ {x y : Oper} {h : Option Heap}, sees all x y = false → (wrH x.op = false → h = none ∨ (wrM all x = true ∧ ∀ hh, h = some hh → OffMap st.heap hh)) → rdH y.op = true → h.getD st.heap = st.heap ∨ (rdL all y = true ∧ OffMap st.heap (h.getD st.heap)) := by
    intro x y h hs p hr
    simp only [sees, Bool.or_eq_false_iff, Bool.and_eq_false_iff] at hs
    obtain ⟨⟨_, s2⟩, s3⟩ := hs
    have hw : wrH x.op = false := by
      rcases s2 with s2 | s2
      · exact s2
      · rw [hr] at s2; cases s2
    rcases p hw with rfl | ⟨hm, hh⟩
    · exact .inl rfl
    · cases h with
      | none => exact .inl rfl
      | some h =>
        right
        refine ⟨?_, hh h rfl⟩
        rcases s3 with s3 | s3
        · rw [hm] at s3; cases s3
        · rcases s3 with s3 | s3
          · rw [hr] at s3; cases s3
          · simpa using s3
  have wrote : ∀ {x : Oper} {h : Option Heap} {hh : Heap}, (wrH x.op = false → h = none ∨ (wrM all x = true ∧ ∀ hh, h = some hh → OffMap st.heap hh)) → h = some hh → wrA all x = true := by
    intro x h hh p e
    unfold wrA
    cases hw : wrH x.op with
    | true => rfl
    | false =>
      rcases p hw with rfl | ⟨hm, _⟩
      · cases e
      · rw [hm]; rfl
  unfold stepE at hk ⊢
  generalize hex : stepEff cx fid rid all x st.env st.heap = ex at *
  generalize hey : stepEff cx fid rid all y st.env st.heap = ey at *
  have outP : ∀ {b : Option Nat} {ws : List (Nat × AV)} {l : List Nat} {env : Env}, (∀ s, b = some s → s ∈ l) → (∀ p ∈ ws, p.1 ∈ l) → ∀ s, s ∉ l → (setL ws (bareO b env)).get s = env.get s := by
    intro b ws l env h1 h2 s hs
    rw [setL_out ws _ s (fun p hp e => hs (e ▸ h2 p hp)), bareO_out (t := s) (fun t ht e => hs (e ▸ h1 t ht))]
  have outD : ∀ {o : Oper} {v : AV} {env : Env} {s : Nat}, s ∉ wrSlots all o → (setO env o.dst v).get s = env.get s := fun hs => setO_out (fun t ht e => hs (e ▸ dst_in ht))
  cases ex with
  | fail => exact absurd hk hX.fail
  | inl g args => exact wx.elim
  | dc g args => exact wx.elim
  | nilT n b => exact wx.elim
  | nxt i q l => exact wx.elim
  | app i v hp => exact wx.elim
  | mkO s n z => exact wx.elim
  | put b ws h =>
    obtain ⟨p1, p2, p3⟩ := wx
    simp only [effSem] at hk
    have hy : stepEff cx fid rid all y (setL ws (bareO b st.env)) (h.getD st.heap) = ey := by
      have := same_y ⟨setL ws (bareO b st.env), h.getD st.heap, st.defers, st.bor⟩ (fun s hs => outP p1 p2 s hs) (fun hr => seeH c1 p3 hr)
      exact this
    rw [hy] at hk
    cases ey with
    | inl g' args' => exact wy.elim
    | dc g' args' => exact wy.elim
    | nilT n' b' => exact wy.elim
    | nxt i' q' l' => exact wy.elim
    | app i' v' hp' => exact wy.elim
    | mkO s' n' z' => exact wy.elim
    | fail => exact absurd hk hX.fail
    | put b' ws' h' =>
      obtain ⟨q1, q2, q3⟩ := wy
      simp only [effSem] at hk ⊢
      have hx : stepEff cx fid rid all x (setL ws' (bareO b' st.env)) (h'.getD st.heap) = .put b ws h := by
        have := same_x ⟨setL ws' (bareO b' st.env), h'.getD st.heap, st.defers, st.bor⟩ (fun s hs => outP q1 q2 s hs) (fun hr => seeH c2 q3 hr)
        exact this
      rw [hx]
      refine hc _ _ ?_ hk
      refine ⟨fun t => ?_, ?_, rfl, rfl⟩
      · show (setL ws' (bareO b' (setL ws (bareO b st.env)))).get t = (setL ws (bareO b (setL ws' (bareO b' st.env)))).get t
        by_cases hw : t ∈ wrSlots all x.o
        · have hn : t ∉ wrSlots all y.o := fun hy => disj_spec d3 hw hy
          rw [outP q1 q2 t hn]
          exact setL_pt _ _ _ _ (bareO_pt (outP q1 q2 t hn).symm)
        · rw [outP p1 p2 t hw]
          exact setL_pt _ _ _ _ (bareO_pt (outP p1 p2 t hw))
      · cases h with
        | none => rfl
        | some hh =>
          cases h' with
          | none => rfl
          | some hh' =>
            exfalso
            simp only [sees, Bool.or_eq_false_iff, Bool.and_eq_false_iff] at c1
            have e1 := wrote p3 rfl
            have e2 := wrote q3 rfl
            rcases c1.1.1 with c1 | c1
            · rw [e1] at c1; cases c1
            · rw [e2] at c1; cases c1
    | call g args =>
      simp only [effSem] at hk ⊢
      refine hX.mono _ _ _ _ (fun r hr => ?_) hk
      have hx : stepEff cx fid rid all x (setO st.env y.o.dst r) st.heap = .put b ws h := same_x ⟨setO st.env y.o.dst r, st.heap, st.defers, st.bor⟩ (fun s hs => outD hs) (fun _ => .inl rfl)
      rw [hx]
      refine hc _ _ ?_ hr
      refine ⟨fun t => ?_, rfl, rfl, rfl⟩
      by_cases hw : t ∈ wrSlots all x.o
      · have hn : t ∉ wrSlots all y.o := fun hy => disj_spec d3 hw hy
        show (setO (setL ws (bareO b st.env)) y.o.dst r).get t = (setL ws (bareO b (setO st.env y.o.dst r))).get t
        rw [outD hn]
        exact setL_pt _ _ _ _ (bareO_pt (outD hn).symm)
      · show (setO (setL ws (bareO b st.env)) y.o.dst r).get t = (setL ws (bareO b (setO st.env y.o.dst r))).get t
        rw [outP p1 p2 t hw]
        exact setO_pt (outP p1 p2 t hw)
  | call g args =>
    simp only [effSem] at hk
    have hy : ∀ r, stepEff cx fid rid all y (setO st.env x.o.dst r) st.heap = ey := fun r => same_y ⟨setO st.env x.o.dst r, st.heap, st.defers, st.bor⟩ (fun s hs => outD hs) (fun _ => .inl rfl)
    simp only [hy] at hk
    cases ey with
    | inl g' args' => exact wy.elim
    | dc g' args' => exact wy.elim
    | nilT n' b' => exact wy.elim
    | nxt i' q' l' => exact wy.elim
    | app i' v' hp' => exact wy.elim
    | mkO s' n' z' => exact wy.elim
    | fail => obtain ⟨r, hr⟩ := hX.some _ _ _ hk; exact absurd hr hX.fail
    | put b' ws' h' =>
      obtain ⟨q1, q2, q3⟩ := wy
      simp only [effSem] at hk ⊢
      have hx : stepEff cx fid rid all x (setL ws' (bareO b' st.env)) (h'.getD st.heap) = .call g args := by
        have := same_x ⟨setL ws' (bareO b' st.env), h'.getD st.heap, st.defers, st.bor⟩ (fun s hs => outP q1 q2 s hs) (fun hr => seeH c2 q3 hr)
        exact this
      rw [hx]
      refine hX.mono _ _ _ _ (fun r hr => ?_) hk
      refine hc _ _ ?_ hr
      refine ⟨fun t => ?_, rfl, rfl, rfl⟩
      by_cases hw : t ∈ wrSlots all y.o
      · have hn : t ∉ wrSlots all x.o := fun hy => disj_spec d3 hy hw
        show (setL ws' (bareO b' (setO st.env x.o.dst r))).get t = (setO (setL ws' (bareO b' st.env)) x.o.dst r).get t
        rw [outD hn]
        exact setL_pt _ _ _ _ (bareO_pt (outD hn))
      · show (setL ws' (bareO b' (setO st.env x.o.dst r))).get t = (setO (setL ws' (bareO b' st.env)) x.o.dst r).get t
        rw [outP q1 q2 t hw]
        exact setO_pt (outP q1 q2 t hw).symm
    | call g' args' =>
      exfalso
      rcases c3 with c3 | c3
      · exact absurd wx (by simp [Eff.within, c3])
      · exact absurd wy (by simp [Eff.within, c3])
def twoParts (x y : Oper) : Bool :=
  match x.op, y.op, x.dst, y.dst, x.guard, y.guard with
  | .extract (.tmp s) i, .extract (.tmp t) j, some d, some e, none, none => Nat.beq s t && !Nat.beq i j && !Nat.beq d e && !Nat.beq d s && !Nat.beq e s
  | _, _, _, _, _, _ => false
def indep (all : List Oper) (x y : Oper) : Bool := indep0 all x y || twoParts x y
theorem stepE_extract {t : Tag} {s i d : Nat} (ho : t.o.op = .extract (.tmp s) i) (hd : t.o.dst = some d) (hg : t.o.guard = none) {st : St} {k : St → Prop} (hX : Calm X) (hk : stepE X cx fid rid all t st k) :
    ∃ vs v, st.env.get s = .tup vs ∧ vs[i]? = some v ∧ k ⟨(st.env.set s (.tup (vs.set i v.strip))).set d v, st.heap, st.defers, st.bor⟩ := by
  unfold stepE stepEff at hk
  rw [hg] at hk
  dsimp only at hk
  unfold effOp at hk
  rw [ho, hd] at hk
  dsimp only at hk
  cases hs : st.env.get s with
  | tup vs =>
    rw [hs] at hk
    dsimp only at hk
    cases hv : vs[i]? with
    | none => rw [hv] at hk; exact absurd hk hX.fail
    | some v => rw [hv] at hk; exact ⟨vs, v, rfl, hv, hk⟩
  | _ => rw [hs] at hk; exact absurd hk hX.fail
theorem extract_stepE {t : Tag} {s i d : Nat} (ho : t.o.op = .extract (.tmp s) i) (hd : t.o.dst = some d) (hg : t.o.guard = none) {st : St} {k : St → Prop} {vs : List AV} {v : AV} (hs : st.env.get s = .tup vs) (hv : vs[i]? = some v)
    (hk : k ⟨(st.env.set s (.tup (vs.set i v.strip))).set d v, st.heap, st.defers, st.bor⟩) : stepE X cx fid rid all t st k := by
  unfold stepE stepEff
  rw [hg]
  dsimp only
  unfold effOp
  rw [ho, hd]
  dsimp only
  rw [hs]
  dsimp only
  rw [hv]
  exact hk
theorem twoParts_swap (hX : Calm X) {x y : Tag} (hi : twoParts x.o y.o = true) {st : St} {k : St → Prop} (hc : Closed k)
    (hk : stepE X cx fid rid all x st fun st => stepE X cx fid rid all y st k) : stepE X cx fid rid all y st fun st => stepE X cx fid rid all x st k := by
  unfold twoParts at hi
  split at hi
  · rename_i s i t j d e hxo hyo hxd hyd hxg hyg
    simp only [Bool.and_eq_true, Bool.not_eq_true', beq_eq, decide_eq_true_eq, decide_eq_false_iff_not] at hi
    obtain ⟨⟨⟨⟨rfl, hij⟩, hde⟩, hds⟩, hes⟩ := hi
    obtain ⟨vs, v, h1, h2, h3⟩ := stepE_extract hxo hxd hxg hX hk
    obtain ⟨ws, u, k1, k2, k3⟩ := stepE_extract hyo hyd hyg hX h3
    dsimp only at k1
    rw [get_set, if_neg hds, get_set, if_pos rfl] at k1
    injection k1 with k1
    subst k1
    rw [List.getElem?_set_ne hij] at k2
    refine extract_stepE hyo hyd hyg h1 k2 (extract_stepE hxo hxd hxg (vs := vs.set j u.strip) (v := v) ?_ ?_ ?_)
    · dsimp only; rw [get_set, if_neg hes, get_set, if_pos rfl]
    · rw [List.getElem?_set_ne (fun h => hij h.symm)]; exact h2
    · refine hc _ _ ?_ k3
      refine ⟨fun t => ?_, rfl, rfl, rfl⟩
      simp only [get_set]
      rw [List.set_comm _ _ hij]
      have hed : ¬ e = d := fun h => hde h.symm
      have hsd : ¬ s = d := fun h => hds h.symm
      have hse : ¬ s = e := fun h => hes h.symm
      by_cases a1 : d = t
      · subst a1; simp [hed, hsd]
      · by_cases a2 : e = t
        · subst a2; simp [a1, hse]
        · by_cases a3 : s = t <;> simp [a1, a2, a3]
  · simp at hi
theorem stepE_swap (hX : Calm X) {x y : Tag} (hbx : BaseIn all x) (hby : BaseIn all y) (hi : indep all x.o y.o = true) {st : St} {k : St → Prop} (hc : Closed k)
    (hk : stepE X cx fid rid all x st fun st => stepE X cx fid rid all y st k) : stepE X cx fid rid all y st fun st => stepE X cx fid rid all x st k := by
  unfold indep at hi
  rw [Bool.or_eq_true] at hi
  rcases hi with hi | hi
  · exact stepE_swap0 hX hbx hby hi hc hk
  · exact twoParts_swap hX hi hc hk
end
end Ax

namespace Ax
open Go Go.RowKit
section
variable {X : Rec Prop} {cx : Ctx} {fid rid : Nat} {all : List Oper}
def stepsE (X : Rec Prop) (cx : Ctx) (fid rid : Nat) (all : List Oper) : List Tag → St → (St → Prop) → Prop
  | [], st, k => k st
  | t :: r, st, k => stepE X cx fid rid all t st fun st => stepsE X cx fid rid all r st k
theorem stepsE_closed (hX : Calm X) {k : St → Prop} (hc : Closed k) : ∀ (l : List Tag), Closed fun st => stepsE X cx fid rid all l st k
  | [] => hc
  | t :: r => stepE_closed hX (stepsE_closed hX hc r)
theorem stepsE_front (hX : Calm X) {k : St → Prop} (hc : Closed k) {t : Tag} (ht : BaseIn all t) : ∀ (l m : List Tag), (∀ u ∈ l, indep all u.o t.o = true ∧ BaseIn all u) → ∀ st, stepsE X cx fid rid all (l ++ t :: m) st k →
    stepE X cx fid rid all t st fun st => stepsE X cx fid rid all (l ++ m) st k
  | [], m, _, st, h => h
  | u :: l, m, hi, st, h => by
    simp only [List.cons_append, stepsE] at h ⊢
    refine stepE_swap hX (hi u (by simp)).2 ht (hi u (by simp)).1 (stepsE_closed hX hc (l ++ m)) (stepE_mono hX (fun s hs => ?_) h)
    exact stepsE_front hX hc ht l m (fun v hv => hi v (by simp [hv])) s hs
def tags (P : Program) : Nat → Nat → List Oper → List Tag
  | _, _, [] => []
  | ix, base, o :: rest => ⟨ix, base, o, rest⟩ :: tags P (ix + 1) (base + (hoisted P o).length) rest
theorem guard_get {env : Env} {j : Nat} {b : Bool} (hb : envGuard all env j = .bool b) : ∀ t, (setO env (guardSlot all j) (.bool b)).get t = env.get t := by
  intro t
  unfold envGuard at hb
  unfold guardSlot
  cases ho : all[j]? with
  | none => rfl
  | some o =>
    rw [ho] at hb
    simp only [Option.bind_some] at hb ⊢
    cases hd : o.dst with
    | none => rfl
    | some d =>
      rw [hd] at hb
      simp only [setO] at hb ⊢
      rw [get_set]
      split
      · rename_i e; subst e; exact hb.symm
      · rfl
theorem effSem_noIX {I : FuncId → List AV → Heap → (AV → Heap → Prop) → Prop} {d : Option Nat} {e : Eff} {st : St} {k : St → Prop} {l wh wm cv hp} {J} (hw : e.within l wh wm cv hp) (h : effSem X I J d e st k) : effSem X (noIX X) (noJX X) d e st k := by
  cases e with
  | inl g args => exact hw.elim
  | dc g args => exact hw.elim
  | nilT n b => exact hw.elim
  | nxt i q l => exact hw.elim
  | _ => exact h
theorem effSem_anyJ {I : FuncId → List AV → Heap → (AV → Heap → Prop) → Prop} {d : Option Nat} {e : Eff} {st : St} {k : St → Prop} {l wh wm cv hp} {J J'} (hw : e.within l wh wm cv hp) (h : effSem X I J d e st k) : effSem X I J' d e st k := by
  cases e with
  | dc g args => exact hw.elim
  | nilT n b => exact hw.elim
  | nxt i q l => exact hw.elim
  | _ => exact h
theorem isBase_sub {d : Option Nat} : ∀ (l m : List Oper), isBaseO d m = true → isBaseO d (l ++ m) = true
  | [], m, h => h
  | o :: l, m, h => by
    have ih := isBase_sub l m h
    cases d with
    | none => simp [isBaseO] at h
    | some d =>
      simp only [isBaseO, List.cons_append] at ih ⊢
      unfold isBase
      split
      · rename_i h1; cases h1
      · rename_i h1; simp only [List.cons.injEq] at h1; obtain ⟨_, rfl⟩ := h1; simp [ih]
      · rename_i h1; simp only [List.cons.injEq] at h1; obtain ⟨_, rfl⟩ := h1; exact ih
theorem denOps_steps (hX : Calm X) {I : FuncId → List AV → Heap → (AV → Heap → Prop) → Prop} {k0 k : St → Prop} (hc : Closed k) (hk0 : ∀ st, k0 st → k st) : ∀ (rest : List Oper) (ix base : Nat) (st : St), (∃ l, all = l ++ rest) →
    denOps X cx I true fid rid all ix base rest st k0 → stepsE X cx fid rid all (tags cx.P ix base rest) st k
  | [], ix, base, st, _, h => hk0 _ (by simpa only [denOps] using h)
  | o :: rest, ix, base, ⟨env, heap, defers, bor⟩, ⟨l0, hl0⟩, h => by
    have hsub : ∃ l, all = l ++ rest := ⟨l0 ++ [o], by simp [hl0]⟩
    have hbase : isBaseO o.dst rest = true → isBaseO o.dst all = true := fun hb' => by obtain ⟨l, hl⟩ := hsub; rw [hl]; exact isBase_sub l rest hb'
    have ih := fun st => denOps_steps hX (I := I) hc hk0 rest (ix + 1) (base + (hoisted cx.P o).length) st hsub
    have cl := stepsE_closed (cx := cx) (fid := fid) (rid := rid) (all := all) hX hc (tags cx.P (ix + 1) (base + (hoisted cx.P o).length) rest)
    unfold denOps at h
    simp only [tags, stepsE, stepE, stepEff]
    cases hg : o.guard with
    | none =>
      rw [hg] at h
      simp only [denOp_eff] at h
      exact effSem_mono hX ih (effSem_noIX (effOp_within hbase) h)
    | some jw =>
      obtain ⟨j, want⟩ := jw
      rw [hg] at h
      dsimp only at h ⊢
      have go : ∀ env', (∀ t, env'.get t = env.get t) → (denOp X cx I true fid rid ix base o rest ⟨env', heap, defers, bor⟩ fun st => denOps X cx I true fid rid all (ix + 1) (base + (hoisted cx.P o).length) rest st k0) →
          effSem X (noIX X) (noJX X) o.dst (effOp cx true fid rid ix base o rest env heap) ⟨env, heap, defers, bor⟩ fun st => stepsE X cx fid rid all (tags cx.P (ix + 1) (base + (hoisted cx.P o).length) rest) st k := by
        intro env' he hk
        rw [denOp_eff, effOp_same (env' := env) (heap' := heap) (fun s _ => he s) (fun _ => rfl)] at hk
        exact effSem_eq (st := ⟨env', heap, defers, bor⟩) hX cl ⟨he, rfl, rfl, rfl⟩ (effSem_mono hX ih (effSem_noIX (effOp_within hbase) hk))
      have pass : ∀ env', (∀ t, env'.get t = env.get t) → (putK env' o.dst (.tup []) fun env => denOps X cx I true fid rid all (ix + 1) (base + (hoisted cx.P o).length) rest ⟨env, heap, defers, bor⟩ k0) →
          effSem X (noIX X) (noJX X) o.dst (.put none (optW o.dst (.tup [])) none) ⟨env, heap, defers, bor⟩ fun st => stepsE X cx fid rid all (tags cx.P (ix + 1) (base + (hoisted cx.P o).length) rest) st k := by
        intro env' he hk
        rw [putK_setO] at hk
        simp only [effSem, setL_optW, bareO, Option.getD]
        refine cl _ _ ?_ (ih _ hk)
        exact ⟨fun t => setO_pt (he t), rfl, rfl, rfl⟩
      split at h
      · rename_i b hb
        have he := guard_get hb
        simp only [hb]
        cases want <;> cases b <;> simp only [branch_eq hX.br, cond_true, cond_false] at h
        · simp only [if_true]; exact go _ he h
        · simp only [Bool.true_eq_false, if_false]; exact pass _ he h
        · simp only [Bool.false_eq_true, if_false]; exact pass _ he h
        · simp only [if_true]; exact go _ he h
      · rename_i hb
        simp only [hb]
        exact pass env (fun _ => rfl) h
      · exact absurd h hX.fail
def maskOf (ms : List Nat) (o : Oper) : Nat := o.after.toList.foldr (fun e acc => if Region.binds .any e then 2 ^ e.on ||| ms.getD e.on 0 ||| acc else acc) 0
def masks : List Nat → List Oper → List Nat
  | ms, [] => ms
  | ms, o :: r => masks (ms ++ [maskOf ms o]) r
def backB (i : Nat) (o : Oper) : Bool := o.after.toList.all fun e => !Region.binds .any e || Nat.blt e.on i
def pairB (all : List Oper) (ms : List Nat) (i j : Nat) : Bool :=
  match all[i]?, all[j]? with
  | some x, some y => Nat.testBit (ms.getD i 0) j || indep all y x
  | _, _ => true
def calmB (all : List Oper) : Bool :=
  (List.range all.length).all fun i => (match all[i]? with | some o => backB i o | none => true) && (List.range i).all fun j => pairB all (masks [] all) i j
def PredsIn (all : List Oper) (L : Nat → Prop) (i : Nat) : Prop := ∀ o, all[i]? = some o → ∀ e ∈ o.after.toList, Region.binds .any e = true → L e.on
def DownL (all : List Oper) (L : Nat → Prop) : Prop := ∀ i, L i → PredsIn all L i
theorem maskOf_bit {ms : List Nat} {o : Oper} {j : Nat} (h : Nat.testBit (maskOf ms o) j = true) : ∃ e ∈ o.after.toList, Region.binds .any e = true ∧ (e.on = j ∨ Nat.testBit (ms.getD e.on 0) j = true) := by
  unfold maskOf at h
  generalize o.after.toList = l at h
  induction l with
  | nil => simp at h
  | cons e r ih =>
    simp only [List.foldr_cons] at h
    split at h
    · rename_i hb
      simp only [Nat.testBit_or, Bool.or_eq_true, Nat.testBit_two_pow, decide_eq_true_eq] at h
      rcases h with (h | h) | h
      · exact ⟨e, by simp, hb, .inl h⟩
      · exact ⟨e, by simp, hb, .inr h⟩
      · obtain ⟨e', h1, h2⟩ := ih h
        exact ⟨e', by simp [h1], h2⟩
    · obtain ⟨e', h1, h2⟩ := ih h
      exact ⟨e', by simp [h1], h2⟩
theorem masks_ok : ∀ (r : List Oper) (ms : List Nat), (∀ i, all[ms.length + i]? = r[i]?) →
    (∀ i j, Nat.testBit (ms.getD i 0) j = true → ∀ L, DownL all L → PredsIn all L i → L j) → ∀ i j, Nat.testBit ((masks ms r).getD i 0) j = true → ∀ L, DownL all L → PredsIn all L i → L j
  | [], ms, _, h => h
  | o :: r, ms, hall, h => by
    refine masks_ok r (ms ++ [maskOf ms o]) (fun i => ?_) (fun i j hb L hd hp => ?_)
    · have := hall (i + 1)
      rw [List.getElem?_cons_succ] at this
      rw [← this]; congr 1; simp; omega
    · by_cases hi : i < ms.length
      · rw [List.getD_eq_getElem?_getD, List.getElem?_append_left hi, ← List.getD_eq_getElem?_getD] at hb; exact h i j hb L hd hp
      · by_cases e : i = ms.length
        · subst e
          have : (ms ++ [maskOf ms o]).getD ms.length 0 = maskOf ms o := by simp [List.getD]
          rw [this] at hb
          obtain ⟨e, he, hbd, hj⟩ := maskOf_bit hb
          have ho : all[ms.length]? = some o := by have := hall 0; simpa using this
          have hl : L e.on := hp o ho e he hbd
          rcases hj with rfl | hj
          · exact hl
          · exact h e.on j hj L hd (hd _ hl)
        · have : (ms ++ [maskOf ms o]).getD i 0 = 0 := by
            rw [List.getD_eq_getElem?_getD, List.getElem?_eq_none (by simp; omega)]; rfl
          rw [this] at hb; simp at hb
theorem calm_spec (h : calmB all = true) : (∀ i o, all[i]? = some o → ∀ e ∈ o.after.toList, Region.binds .any e = true → e.on < i) ∧
    ∀ i j x y, j < i → all[i]? = some x → all[j]? = some y → (∀ L, DownL all L → PredsIn all L i → L j) ∨ indep all y x = true := by
  unfold calmB at h
  rw [List.all_eq_true] at h
  constructor
  · intro i o ho e he hb
    have := h i (List.mem_range.2 (List.getElem?_eq_some_iff.1 ho).1)
    rw [Bool.and_eq_true, ho] at this
    have h1 := this.1
    simp only [backB, List.all_eq_true] at h1
    have := h1 e he
    rw [hb] at this
    simpa [blt_eq] using this
  · intro i j x y hj hx hy
    have := h i (List.mem_range.2 (List.getElem?_eq_some_iff.1 hx).1)
    rw [Bool.and_eq_true] at this
    have h2 := (List.all_eq_true.1 this.2) j (List.mem_range.2 hj)
    simp only [pairB, hx, hy, Bool.or_eq_true] at h2
    rcases h2 with h2 | h2
    · exact .inl (masks_ok all [] (fun i => by simp) (fun i j hb => by simp at hb) i j h2)
    · exact .inr h2
end
end Ax

namespace Ax
open Go Go.RowKit
section
variable {P : Program} {A : Amb} {nt : Nat} {X : Rec Prop} {cx : Ctx} {fid rid : Nat}
theorem tags_at {P : Program} : ∀ (l : List Oper) (ix base : Nat) (i : Nat) t, (tags P ix base l)[i]? = some t → t.ix = ix + i ∧ l[i]? = some t.o ∧ base ≤ t.base
  | [], ix, base, i, t, h => by simp [tags] at h
  | o :: r, ix, base, i, t, h => by
    cases i with
    | zero => simp only [tags, List.getElem?_cons_zero, Option.some.injEq] at h; subst h; exact ⟨rfl, rfl, Nat.le_refl _⟩
    | succ i =>
      simp only [tags, List.getElem?_cons_succ] at h
      obtain ⟨h1, h2, h3⟩ := tags_at r _ _ i t h
      exact ⟨by omega, by simpa using h2, by omega⟩
theorem tags_get {P : Program} : ∀ (l : List Oper) (ix base : Nat) (i : Nat) o, l[i]? = some o → ∃ t, (tags P ix base l)[i]? = some t
  | [], ix, base, i, o, h => by simp at h
  | p :: r, ix, base, 0, o, h => ⟨_, rfl⟩
  | p :: r, ix, base, i + 1, o, h => tags_get r (ix + 1) _ i o (by simpa using h)
theorem tags_mem {P : Program} {l : List Oper} {ix base : Nat} {t : Tag} (h : t ∈ tags P ix base l) : ix ≤ t.ix ∧ l[t.ix - ix]? = some t.o ∧ base ≤ t.base := by
  obtain ⟨i, hi⟩ := List.getElem?_of_mem h
  obtain ⟨h1, h2, h3⟩ := tags_at _ _ _ _ _ hi
  exact ⟨by omega, by rw [show t.ix - ix = i by omega]; exact h2, h3⟩
theorem tags_base {P : Program} : ∀ (l l0 : List Oper) (ix base : Nat) (t : Tag), t ∈ tags P ix base l → BaseIn (l0 ++ l) t
  | [], l0, ix, base, t, h => by simp [tags] at h
  | o :: r, l0, ix, base, t, h => by
    simp only [tags, List.mem_cons] at h
    rcases h with rfl | h
    · intro hb
      have := isBase_sub (l0 ++ [o]) r hb
      simpa using this
    · have := tags_base r (l0 ++ [o]) _ _ t h
      simpa using this
def Ahead (P : Program) (t u : Tag) : Prop := t.ix < u.ix ∧ t.base + (hoisted P t.o).length ≤ u.base
theorem tags_pair {P : Program} : ∀ (l : List Oper) (ix base : Nat), (tags P ix base l).Pairwise (Ahead P)
  | [], ix, base => by simp [tags]
  | o :: r, ix, base => by
    simp only [tags, List.pairwise_cons]
    refine ⟨fun u hu => ?_, tags_pair r _ _⟩
    obtain ⟨h1, h2, h3⟩ := tags_mem hu
    exact ⟨by simp only; omega, h3⟩
def pendT (P : Program) : List Tag → List (Nat × AObj)
  | [] => []
  | t :: r => waits t.base (hoisted P t.o) ++ pendT P r
theorem pendT_mem {P : Program} : ∀ {l : List Tag} {p : Nat × AObj}, p ∈ pendT P l ↔ ∃ t ∈ l, p ∈ waits t.base (hoisted P t.o)
  | [], p => by simp [pendT]
  | t :: r, p => by simp [pendT, pendT_mem (l := r)]
theorem pendT_tags {P : Program} : ∀ (l : List Oper) (ix base : Nat), pendT P (tags P ix base l) = waits base (hoistAll P l)
  | [], ix, base => rfl
  | o :: r, ix, base => by simp only [tags, pendT, hoistAll, waits_append, pendT_tags r]
theorem step_sound {I : FuncId → List AV → Heap → (AV → Heap → Prop) → Prop} (hL : Leans P cx X I) (hX : Calm X) (hP : cx.P = P) {ops : Array Oper} {t : Tag} (ht : ops[t.ix]? = some t.o) {pend pend' : List (Nat × AObj)} {st : St} {a : Act} {w : World} {k : St → Prop} {Q : Exit → Act → World → Prop}
    (hc : Closed k) (hg : Good P A nt pend st a w) (hin : ∀ p, p ∈ waits t.base (hoisted P t.o) → p ∈ pend) (hsub : ∀ p, p ∈ pend' → p ∈ pend ∧ (0 < (hoisted P t.o).length → p.1 ≠ t.base))
    (hA : A.bl0.length ≤ t.base) (hd : ∀ s, t.o.dst = some s → s < nt) (hk : stepE X cx fid rid ops.toList t st k) : wpOp P ops Q t.ix (NextIs P A nt pend' k) a w := by
  obtain ⟨env, heap, defers, bor⟩ := st
  have hlen : A.bl0.length ≤ heap.length := good_len hg
  unfold wpOp
  simp only [ht]
  have go : effSem X (noIX X) (noJX X) t.o.dst (effOp cx true fid rid t.ix t.base t.o t.rest env heap) ⟨env, heap, defers, bor⟩ k → t.o.wp P a w (NextIs P A nt pend' k) Q := by
    intro h
    replace h := effSem_anyJ (J' := denDC X cx) (effOp_within (all := t.rest) (fun h => h)) h
    rw [← denOp_eff X cx (noIX X)] at h
    exact denOp_sound (I := noIX X) ⟨hL.fail, hL.call, fun _ _ _ _ h => absurd h hX.fail, hL.name, hL.sort, hL.br, hL.all, hL.prim⟩ hP hg hin hsub hA hlen hd h
  have pass : effSem X (noIX X) (noJX X) t.o.dst (.put none (optW t.o.dst (.tup [])) none) ⟨env, heap, defers, bor⟩ k → NextIs P A nt pend' k (a.put t.o.dst undef) w := by
    intro h
    simp only [effSem, setL_optW, bareO, Option.getD] at h
    obtain ⟨ha, rfl, U, bl, ob, hr⟩ := hg
    obtain ⟨ob', h'⟩ := undef_rep hr hd
    rw [put_eq]
    exact ⟨_, ⟨ha, rfl, U, bl, ob', h'.unpend (fun p hp => (hsub p hp).1)⟩, h⟩
  have hrel := hg
  obtain ⟨ha, hdf, U, bl, ob, hr⟩ := hrel
  unfold stepE stepEff at hk
  cases hgd : t.o.guard with
  | none =>
    rw [hgd] at hk
    rw [if_pos (by simp [Region.wanted, hgd])]
    exact .inl (go hk)
  | some jw =>
    obtain ⟨j, want⟩ := jw
    rw [hgd] at hk
    dsimp only at hk
    split at hk
    · rename_i b hb
      obtain ⟨hy, _⟩ := guard_bool hr hb
      split at hk
      · rename_i e
        subst e
        rw [if_pos (by simp [Region.wanted, hgd, hy])]
        exact .inl (go hk)
      · rename_i e
        rw [if_neg (by simp [Region.wanted, hgd, hy]; exact e)]
        exact pass hk
    · rename_i hb
      rw [if_neg (by simp [Region.wanted, hgd, guard_nought hr hb])]
      exact pass hk
    · exact absurd hk hL.fail
def left (T : List Tag) (listed : Array Bool) : List Tag := T.filter fun t => !listed.getD t.ix true
theorem any_sound {I : FuncId → List AV → Heap → (AV → Heap → Prop) → Prop} (hL : Leans P cx X I) (hX : Calm X) (hP : cx.P = P) {ops : Array Oper} {n : Nat} (hcalm : calmB ops.toList = true) (hA : A.bl0.length ≤ n) (hd : dstOk nt ops.toList = true) {k : St → Prop} (hc : Closed k) {Q : Exit → Act → World → Prop}
    (hQ : ∀ st a w, Good P A nt [] st a w → k st → Q .normal a w) : ∀ (fuel : Nat) (listed : Array Bool) (st : St) (a : Act) (w : World),
    listed.size = ops.size → DownL ops.toList (fun i => listed.getD i false = true) → (left (tags P 0 n ops.toList) listed).length ≤ fuel → Good P A nt (pendT P (left (tags P 0 n ops.toList) listed)) st a w →
    stepsE X cx fid rid ops.toList (left (tags P 0 n ops.toList) listed) st k → wpAny P .any ops Q fuel listed a w := by
  obtain ⟨hback, hpair⟩ := calm_spec hcalm
  have hdst : ∀ (i : Nat) o, ops.toList[i]? = some o → ∀ s, o.dst = some s → s < nt := by
    generalize ops.toList = l at hd
    induction l with
    | nil => intro i o h; simp at h
    | cons p r ih =>
      simp only [dstOk, Bool.and_eq_true] at hd
      intro i o h s hs
      cases i with
      | zero => simp at h; subst h; have := hd.1; rw [hs] at this; simpa [blt_eq] using this
      | succ i => exact ih hd.2 i o (by simpa using h) s hs
  have hready : ∀ (listed : Array Bool), listed.size = ops.size → ∀ i, i ∈ Region.ready .any ops listed ↔ ∃ o, ops.toList[i]? = some o ∧ listed.getD i true = false ∧ ∀ e ∈ o.after.toList, Region.binds .any e = true → listed.getD e.on false = true := by
    intro listed hs i
    unfold Region.ready
    simp only [List.mem_filter, List.mem_range, Bool.and_eq_true, Bool.not_eq_true']
    constructor
    · rintro ⟨h1, h2, h3⟩
      have : ops[i]? = some ops[i] := by simp [h1]
      rw [this] at h3
      simp only [Option.map_some, Option.getD_some, Array.all_eq_true'] at h3
      refine ⟨ops[i], by simp [h1], h2, fun e he hb => ?_⟩
      have := h3 e (by simpa using he)
      simpa [hb] using this
    · rintro ⟨o, h1, h2, h3⟩
      have hi : i < ops.size := by have := (List.getElem?_eq_some_iff.1 h1).1; simpa using this
      have ho : ops[i]? = some o := by simpa using h1
      refine ⟨hi, h2, ?_⟩
      rw [ho]
      simp only [Option.map_some, Option.getD_some, Array.all_eq_true']
      intro e he
      cases hb : Region.binds .any e
      · simp
      · simp [h3 e (by simpa using he) hb]
  have hleft : ∀ (listed : Array Bool) t, t ∈ left (tags P 0 n ops.toList) listed ↔ t ∈ tags P 0 n ops.toList ∧ listed.getD t.ix true = false := by
    intro listed t; simp [left]
  have getD_ft : ∀ (listed : Array Bool) (i : Nat), i < listed.size → listed.getD i false = listed.getD i true := by
    intro listed i hi; simp [Array.getD, hi]
  have hnone : ∀ (listed : Array Bool), listed.size = ops.size → Region.ready .any ops listed = [] → left (tags P 0 n ops.toList) listed = [] := by
    intro listed hs he
    cases hl : left (tags P 0 n ops.toList) listed with
    | nil => rfl
    | cons t r =>
      exfalso
      have ht : t ∈ left (tags P 0 n ops.toList) listed := by rw [hl]; simp
      obtain ⟨h1, h2⟩ := (hleft listed t).1 ht
      obtain ⟨_, h3, _⟩ := tags_mem h1
      rw [Nat.sub_zero] at h3
      have : t.ix ∈ Region.ready .any ops listed := by
        refine (hready listed hs t.ix).2 ⟨t.o, h3, h2, fun e he hb => ?_⟩
        have hlt := hback _ _ h3 e he hb
        have hix := (List.getElem?_eq_some_iff.1 h3).1
        obtain ⟨o', ho'⟩ : ∃ o', ops.toList[e.on]? = some o' := ⟨ops.toList[e.on]'(by omega), by simp⟩
        obtain ⟨u, hu⟩ := tags_get (P := P) ops.toList 0 n e.on o' ho'
        obtain ⟨u1, _, _⟩ := tags_at _ _ _ _ _ hu
        rw [Nat.zero_add] at u1
        cases hv : listed.getD e.on false
        · exfalso
          have hsz : e.on < listed.size := by rw [hs]; simp at hix; omega
          rw [getD_ft _ _ hsz] at hv
          have hul : u ∈ left (tags P 0 n ops.toList) listed := (hleft listed u).2 ⟨List.mem_of_getElem? hu, by rw [u1]; exact hv⟩
          have hp : (left (tags P 0 n ops.toList) listed).Pairwise (Ahead P) := (tags_pair _ _ _).filter _
          rw [hl] at hul hp
          rcases List.mem_cons.1 hul with rfl | hul
          · omega
          · have := (List.pairwise_cons.1 hp).1 u hul
            have := this.1
            omega
        · rfl
      rw [he] at this
      simp at this
  intro fuel
  induction fuel with
  | zero =>
    intro listed st a w hs hdown hf hg hk
    have hl : left (tags P 0 n ops.toList) listed = [] := List.length_eq_zero_iff.1 (by omega)
    rw [hl] at hg hk
    refine ⟨?_, hQ st a w hg hk⟩
    cases hr : Region.ready .any ops listed with
    | nil => rfl
    | cons i r =>
      exfalso
      obtain ⟨o, h1, h2, _⟩ := (hready listed hs i).1 (by rw [hr]; simp)
      obtain ⟨u, hu⟩ := tags_get (P := P) ops.toList 0 n i o h1
      obtain ⟨u1, _, _⟩ := tags_at _ _ _ _ _ hu
      rw [Nat.zero_add] at u1
      have : u ∈ left (tags P 0 n ops.toList) listed := (hleft listed u).2 ⟨List.mem_of_getElem? hu, by rw [u1]; exact h2⟩
      rw [hl] at this; simp at this
  | succ fuel ih =>
    intro listed st a w hs hdown hf hg hk
    refine ⟨fun he => ?_, fun i hi => ?_⟩
    · rw [hnone listed hs he] at hg hk
      exact hQ st a w hg hk
    · obtain ⟨o, h1, h2, h3⟩ := (hready listed hs i).1 hi
      obtain ⟨t, ht⟩ := tags_get (P := P) ops.toList 0 n i o h1
      obtain ⟨t1, t2, t3⟩ := tags_at _ _ _ _ _ ht
      rw [Nat.zero_add] at t1
      rw [h1] at t2
      simp only [Option.some.injEq] at t2
      subst t2
      have htl : t ∈ left (tags P 0 n ops.toList) listed := (hleft listed t).2 ⟨List.mem_of_getElem? ht, by rw [t1]; exact h2⟩
      obtain ⟨l1, l2, hl⟩ := List.append_of_mem htl
      have hp : (left (tags P 0 n ops.toList) listed).Pairwise (Ahead P) := (tags_pair _ _ _).filter _
      rw [hl] at hp
      obtain ⟨_, hp2, hp3⟩ := List.pairwise_append.1 hp
      have hp4 := (List.pairwise_cons.1 hp2).1
      have hi_lt : i < listed.size := by rw [hs]; have := (List.getElem?_eq_some_iff.1 h1).1; simpa using this
      have htb : BaseIn ops.toList t := by simpa using tags_base ops.toList [] 0 n t (List.mem_of_getElem? ht)
      have hindep : ∀ u ∈ l1, indep ops.toList u.o t.o = true ∧ BaseIn ops.toList u := by
        intro u hu
        have hul : u ∈ left (tags P 0 n ops.toList) listed := by rw [hl]; simp [hu]
        obtain ⟨v1, v2⟩ := (hleft listed u).1 hul
        obtain ⟨_, v3, _⟩ := tags_mem v1
        rw [Nat.sub_zero] at v3
        have hlt : u.ix < i := by have := (hp3 u hu t (by simp)).1; omega
        refine ⟨?_, by simpa using tags_base ops.toList [] 0 n u v1⟩
        rcases hpair i u.ix t.o u.o hlt h1 v3 with hb | hb
        · exfalso
          have := hb (fun i => listed.getD i false = true) hdown (fun o' ho' e he hbd => by rw [h1] at ho'; simp at ho'; subst ho'; exact h3 e he hbd)
          rw [getD_ft _ _ (by omega), v2] at this
          cases this
        · exact hb
      have hnew : left (tags P 0 n ops.toList) (listed.setIfInBounds i true) = l1 ++ l2 := by
        have e1 : left (tags P 0 n ops.toList) (listed.setIfInBounds i true) = (left (tags P 0 n ops.toList) listed).filter fun u => u.ix != i := by
          unfold left
          rw [List.filter_filter]
          refine List.filter_congr fun u _ => ?_
          by_cases e : u.ix = i
          · subst e; simp [Array.getD, hi_lt]
          · have : (listed.setIfInBounds i true).getD u.ix true = listed.getD u.ix true := by
              rw [Array.getD_eq_getD_getElem?, Array.getD_eq_getD_getElem?, Array.getElem?_setIfInBounds, if_neg (fun h => e h.symm)]
            rw [this]
            have : (u.ix != i) = true := by simp [e]
            rw [this]; simp
        rw [e1, hl, List.filter_append, List.filter_cons]
        have : (t.ix != i) = false := by simp [t1]
        rw [this]
        simp only [Bool.false_eq_true, if_false]
        congr 1
        · exact List.filter_eq_self.2 (fun u hu => by have := (hp3 u hu t (by simp)).1; simp; omega)
        · exact List.filter_eq_self.2 (fun u hu => by have := (hp4 u hu).1; simp; omega)
      have hk' := stepsE_front hX hc htb l1 l2 hindep st (by rw [hl] at hk; exact hk)
      have hstep := step_sound (Q := Q) (pend' := pendT P (l1 ++ l2)) hL hX hP (t := t) (by rw [t1]; simpa using h1) (stepsE_closed hX hc (l1 ++ l2)) hg
        (fun p hp => pendT_mem.2 ⟨t, htl, hp⟩) (fun p hp => ?_) (by omega) (hdst i t.o h1) hk'
      · rw [t1] at hstep
        refine wpOp_mono (fun a' w' => ?_) hstep
        rintro ⟨st', hg', hk''⟩
        refine ih (listed.setIfInBounds i true) st' a' w' (by simp [hs]) ?_ ?_ (by rw [hnew]; exact hg') (by rw [hnew]; exact hk'')
        · have get : ∀ j, (listed.setIfInBounds i true).getD j false = if i = j then true else listed.getD j false := by
            intro j
            rw [Array.getD_eq_getD_getElem?, Array.getElem?_setIfInBounds]
            split
            · rename_i e; subst e; simp [hi_lt]
            · rw [Array.getD_eq_getD_getElem?]
          intro j hj
          try dsimp only at hj
          rw [get] at hj
          intro o' ho' e he hb
          try dsimp only
          rw [get]
          split
          · rfl
          · by_cases e' : i = j
            · subst e'
              rw [h1] at ho'; simp at ho'; subst ho'
              exact h3 e he hb
            · rw [if_neg e'] at hj
              exact hdown j hj o' ho' e he hb
        · rw [hnew]; rw [hl] at hf; simp at hf ⊢; omega
      · obtain ⟨u, hu, hpu⟩ := pendT_mem.1 hp
        have hul : u ∈ left (tags P 0 n ops.toList) listed := by rw [hl]; rcases List.mem_append.1 hu with h | h <;> simp [h]
        refine ⟨pendT_mem.2 ⟨u, hul, hpu⟩, fun hpos => ?_⟩
        obtain ⟨w1, _, w3⟩ := waits_mem _ _ p hpu
        rcases List.mem_append.1 hu with h | h
        · have := (hp3 u h t (by simp)).2; omega
        · have := (hp4 u h).2; omega
end
end Ax
