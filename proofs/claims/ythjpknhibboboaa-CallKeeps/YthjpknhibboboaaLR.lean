import Derived.Test.YthjpknhibboboaaLQ
import Derived.Test.YthjpknhibboboaaAxRow
set_option linter.unusedVariables false
set_option linter.unusedSimpArgs false
namespace Go.Proofs
open Ax Go
set_option maxRecDepth 10000
theorem lk_owed {m a : ByteArray} {c : Cl} : lk m a c = owed m a c := by
  unfold lk owed lack
  have : decide (c.t < c.n) = decide (0 < c.n - c.t) := decide_eq_decide.2 (by omega)
  rw [this]
structure RmHd (l : List Cl) (m a : ByteArray) (c0 : Int) (srt : List Cl) where
  r : List Cl
  out : List Cl
  cents : Int
  e : Nat → AV
  hm : meetF r (out, cents) = meetF srt (l, c0)
  hid : out.map Cl.id = l.map Cl.id
  hc : 0 ≤ cents ∧ cents ≤ 1152921504606846976
  he : CallsAt out (0 + l.length) e
  hr : AheadP r
  hg : ∀ c ∈ r, owed m a c = true ∧ 0 < lack c ∧ lack c ≤ 1152921504606846976 ∧ 0 ≤ c.t ∧ c.n ≤ 1152921504606846976
  hl : cents = 0 ∨ ((∀ x ∈ r, x ∈ out) ∧ ∀ x ∈ out, owed m a x = true → x ∈ r)
theorem rm_done {l : List Cl} {m a : ByteArray} {c0 : Int} {srt : List Cl} (x : RmHd l m a c0 srt) (h : ¬ 0 < x.cents) : meetF srt (l, c0) = (x.out, x.cents) := by
  have h0 : x.cents = 0 := by have := x.hc; omega
  rw [← x.hm, h0]
  exact meetF_nil _ _ fun c hc => (x.hg c hc).2.1
theorem rm_none {l : List Cl} {m a : ByteArray} {c0 : Int} {srt : List Cl} (x : RmHd l m a c0 srt) (h : 0 < x.cents) (hb : Best m a x.out x.out.length none) : meetF srt (l, c0) = (x.out, x.cents) := by
  rcases x.hl with h0 | ⟨h1, h2⟩
  · omega
  · have : x.r = [] := by
      cases hr : x.r with
      | nil => rfl
      | cons c r =>
        obtain ⟨k, hk, e⟩ := at_mem (h1 c (by rw [hr]; exact List.mem_cons_self))
        have := hb k hk
        rw [e, lk_owed, (x.hg c (by rw [hr]; exact List.mem_cons_self)).1] at this
        cases this
    rw [← x.hm, this]; rfl
theorem rm_head {l : List Cl} {m a : ByteArray} {c0 : Int} {srt : List Cl} (x : RmHd l m a c0 srt) (hids : Ids l) (h : 0 < x.cents) {k : Nat} (hb : Best m a x.out x.out.length (some k)) : ∃ r', x.r = atC x.out k :: r' := by
  rcases x.hl with h0 | ⟨h1, h2⟩
  · omega
  · obtain ⟨b1, b2, b3⟩ := hb
    have hout := ids_of hids x.hid
    have hkr : atC x.out k ∈ x.r := h2 _ (atC_mem b1) (by rw [← lk_owed]; exact b2)
    have hrr := x.hr
    cases hr : x.r with
    | nil => rw [hr] at hkr; cases hkr
    | cons c r' =>
      rw [hr] at hkr hrr
      rcases List.mem_cons.1 hkr with e | hin
      · exact ⟨r', by rw [e]⟩
      · exfalso
        have ha := ahead_iff.1 ((List.pairwise_cons.1 hrr).1 _ hin)
        have hcr : c ∈ x.r := by rw [hr]; exact List.mem_cons_self
        obtain ⟨q, hq, e⟩ := at_mem (h1 c hcr)
        have := b3 q hq (by rw [e, lk_owed]; exact (x.hg c hcr).1)
        rw [e] at this
        have hlt : ∀ i j, i < x.out.length → j < x.out.length → i < j → (atC x.out i).id < (atC x.out j).id := fun i j hi hj hij => by
          have := List.pairwise_iff_getElem.1 hout i j hi hj hij
          rw [atC, atC, List.getD, List.getD, List.getElem?_eq_getElem hi, List.getElem?_eq_getElem hj]
          exact this
        rcases Nat.lt_trichotomy q k with h3 | h3 | h3
        · have := this.2 h3; omega
        · subst h3; rw [e] at ha; omega
        · have := hlt k q b1 hq h3
          rw [e] at this; omega
theorem rm_step {l : List Cl} {m a : ByteArray} {c0 : Int} {srt : List Cl} (x : RmHd l m a c0 srt) (hids : Ids l) (h : 0 < x.cents) {k : Nat} {r' : List Cl} (hk : k < x.out.length) (hr : x.r = atC x.out k :: r') :
    ∃ y : RmHd l m a c0 srt, y.r = r' ∧ y.cents = x.cents - minI x.cents (lack (atC x.out k)) ∧ y.e = upd x.e (0 + k) (setElem (x.e (0 + k)) 5 6 (.int .i64 ((atC x.out k).t + minI x.cents (lack (atC x.out k))))) := by
  obtain ⟨r, out, cents, e, hm, hid, hc, he, hrr, hg, hl⟩ := x
  simp only at h hk hr
  subst hr
  obtain ⟨g0, g1, g2, g3, g4⟩ := hg _ List.mem_cons_self
  have hb := minI_b (x := cents) (y := lack (atC out k)) hc.1 (by omega)
  have hout := ids_of hids hid
  obtain ⟨hl1, hl2⟩ : (∀ x ∈ atC out k :: r', x ∈ out) ∧ ∀ x ∈ out, owed m a x = true → x ∈ atC out k :: r' := by
    rcases hl with h0 | h1
    · omega
    · exact h1
  have hne : ∀ x ∈ r', x.id ≠ (atC out k).id := fun x hx e => by
    obtain ⟨q, hq, ex⟩ := at_mem (hl1 x (List.mem_cons_of_mem _ hx))
    rw [← ex] at e
    have := ids_at hout hq hk e
    subst this
    have ha := (List.pairwise_cons.1 hrr).1 x hx
    rw [ex, ahead_irr] at ha; cases ha
  refine ⟨⟨r', bump out (atC out k).id (minI cents (lack (atC out k))), cents - minI cents (lack (atC out k)), upd e (0 + k) (setElem (e (0 + k)) 5 6 (.int .i64 ((atC out k).t + minI cents (lack (atC out k))))), ?_, by rw [bump_ids]; exact hid, by omega, ?_, (List.pairwise_cons.1 hrr).2, fun c hc => hg c (List.mem_cons_of_mem _ hc), ?_⟩, rfl, rfl, rfl⟩
  · rw [← hm]; rfl
  · obtain ⟨h1, h2⟩ := he
    refine ⟨by rw [bump_len]; exact h1, fun q hq => ?_⟩
    rw [bump_len] at hq
    rw [bump_at hq]
    unfold upd
    by_cases hqk : q = k
    · subst hqk
      rw [show Nat.beq q (0 + q) = true by rw [Nat.beq_eq]; omega, cond_true, Nat.zero_add, h2 q hq, if_pos rfl]
      rfl
    · rw [show Nat.beq q (0 + k) = false by rw [Bool.eq_false_iff, ne_eq, Nat.beq_eq]; omega, cond_false, h2 q hq, if_neg]
      intro e
      exact hqk (ids_at hout hq hk e)
  · by_cases hz : cents - minI cents (lack (atC out k)) = 0
    · exact .inl hz
    · right
      have hmn : minI cents (lack (atC out k)) = lack (atC out k) := by
        unfold minI at hz ⊢
        split
        · rfl
        · rename_i h; rw [if_neg h] at hz; omega
      refine ⟨fun x hx => bump_keeps (hl1 x (List.mem_cons_of_mem _ hx)) (hne x hx), fun x hx ho => ?_⟩
      unfold bump at hx
      obtain ⟨y, hy, rfl⟩ := List.mem_map.1 hx
      by_cases e : y.id = (atC out k).id
      · rw [if_pos e] at ho
        obtain ⟨q, hq, ey⟩ := at_mem hy
        rw [← ey] at e
        have := ids_at hout hq hk e
        subst this
        rw [← ey, hmn] at ho
        simp [owed, lack] at ho
        omega
      · rw [if_neg e] at ho ⊢
        rcases List.mem_cons.1 (hl2 y hy ho) with h | h
        · rw [h] at e; exact absurd rfl e
        · exact h
theorem refMeet (l : List Cl) (hs : Sized l) (m a : ByteArray) (cents : Int) (srt : List Cl) (hr : checkL l = 0 → AheadP srt) (hp : checkL l = 0 → srt.Perm (mineL l m a)) : CallOK Try.prog 16 [encL l, encA m a, .int .i64 cents] (Res3 (meetS l cents srt)) := by
  refine okR ?_
  conv => whnf
  repeat ((first | with_reducible refine branch_true rfl ?_ | with_reducible refine branch_false rfl ?_); conv => whnf)
  refine call_is (refCheck l hs) ?_
  conv => whnf
  repeat ((first | with_reducible refine branch_true rfl ?_ | with_reducible refine branch_false rfl ?_); conv => whnf)
  refine branch_of (fun h1 => ?_) (fun h1 => ?_)
  · have h1 : checkL l ≠ 0 := by simpa using h1
    conv => whnf
    repeat ((first | with_reducible refine branch_true rfl ?_ | with_reducible refine branch_false rfl ?_); conv => whnf)
    exact res3_nil (by simp [meetS, h1])
  · have h1 : checkL l = 0 := by simpa using h1
    replace hr := hr h1
    replace hp := hp h1
    obtain ⟨hn, hgd, hids⟩ := check_good h1
    conv => whnf
    repeat ((first | with_reducible refine branch_true rfl ?_ | with_reducible refine branch_false rfl ?_); conv => whnf)
    refine branch_of (fun k1 => ?_) (fun k1 => ?_)
    · have k1 : cents < 0 := of_decide_eq_true k1
      conv => whnf
      repeat ((first | with_reducible refine branch_true rfl ?_ | with_reducible refine branch_false rfl ?_); conv => whnf)
      exact res3_nil (by simp [meetS, h1, k1])
    · have k1 : ¬ cents < 0 := of_decide_eq_false k1
      conv => whnf
      repeat ((first | with_reducible refine branch_true rfl ?_ | with_reducible refine branch_false rfl ?_); conv => whnf)
      refine branch_of (fun k2 => ?_) (fun k2 => ?_)
      · have k2 : 1152921504606846976 < cents := of_decide_eq_true k2
        conv => whnf
        repeat ((first | with_reducible refine branch_true rfl ?_ | with_reducible refine branch_false rfl ?_); conv => whnf)
        exact res3_nil (by simp [meetS, h1, k2])
      · have k2 : ¬ 1152921504606846976 < cents := of_decide_eq_false k2
        have hS : meetS l cents srt = ((meetF srt (l, cents)).1, (meetF srt (l, cents)).2, 0) := by simp [meetS, h1, k1, k2]
        have hsm : ∀ c, c ∈ srt ↔ c ∈ l ∧ owed m a c = true := fun c => by rw [hp.mem_iff]; exact List.mem_filter
        have hsg : ∀ c ∈ srt, owed m a c = true ∧ 0 < lack c ∧ lack c ≤ 1152921504606846976 ∧ 0 ≤ c.t ∧ c.n ≤ 1152921504606846976 := fun c hc => by
          obtain ⟨q1, q2⟩ := (hsm c).1 hc
          have := good_at h1 q1
          refine ⟨q2, ?_⟩
          unfold owed at q2
          simp at q2
          unfold lack at q2 ⊢
          omega
        conv => whnf
        repeat ((first | with_reducible refine branch_true rfl ?_ | with_reducible refine branch_false rfl ?_); conv => whnf)
        refine st_append_uni (sz := 6) (len := 0) (u := 59) (m := l.length) (gg := fun i => encC (atC l i)) rfl rfl rfl rfl rfl (room64 (by omega)) ?_
        conv => whnf
        repeat ((first | with_reducible refine branch_true rfl ?_ | with_reducible refine branch_false rfl ?_); conv => whnf)
        have hG : ∀ z (g0 : Nat → AV), CallsAt l (0 + l.length) (vapp z g0 0 (fun i => encC (atC l i)) l.length) := fun z g0 => callsAt_app (z := z) (callsAt_nil (g := g0)) (callsAt_self l)
        refine loop_by (cx := cxR) rfl progOK (ι := RmHd l m a cents srt) (fun x => x.r.length) (fun x => ⟨[(2, .int .i64 x.cents), (4, .ptr 0 0), (10, .row 1 6 0 (0 + l.length))], [.cells [.str m, .str a], .arr 6 (0 + l.length) x.e], [], none⟩) ?_ ⟨srt, l, cents, _, rfl, rfl, by omega, hG (zeroElem Try.prog 59) (fun _ => zeroElem Try.prog 59), hr, hsg, .inr ⟨fun x hx => ((hsm x).1 hx).1, fun x hx ho => (hsm x).2 ⟨hx, ho⟩⟩⟩
        intro x ih
        have hxc := x.hc
        have hlen := x.he.1
        have hfin : ∀ K : AV → Prop, meetF srt (l, cents) = (x.out, x.cents) → (∀ r, Res3 (meetS l cents srt) r → K r) → K (.tup [.vec 6 (0 + l.length) (fun j => x.e (0 + j)), .int .i64 x.cents, .int .i64 0]) := fun K h hK => hK _ (by
          rw [hS, h]
          exact ⟨_, _, rfl, x.he.1, fun i hi => by show x.e (0 + i) = _; rw [Nat.zero_add]; exact x.he.2 i hi⟩)
        conv => whnf
        repeat ((first | with_reducible refine branch_true rfl ?_ | with_reducible refine branch_false rfl ?_); conv => whnf)
        refine branch_of (fun g1 => ?_) (fun g1 => ?_)
        · have g1 : 0 < x.cents := of_decide_eq_true g1
          conv => whnf
          repeat ((first | with_reducible refine branch_true rfl ?_ | with_reducible refine branch_false rfl ?_); conv => whnf)
          refine force_by (lend_row (id := 1) (sz := 6) (n := 0 + l.length) (n' := 0 + l.length) rfl (Nat.le_refl _)) ?_
          conv => whnf
          repeat ((first | with_reducible refine branch_true rfl ?_ | with_reducible refine branch_false rfl ?_); conv => whnf)
          have he' : CallsAt x.out (0 + l.length) (fun j => x.e (0 + j)) := ⟨x.he.1, fun i hi => by show x.e (0 + i) = _; rw [Nat.zero_add]; exact x.he.2 i hi⟩
          refine call_by (ok_same (.cons (callsAt_same he') (.cons (.refl _) .nil)) (first x.out (by omega) m a)) (let ⟨b, hb⟩ := best_some m a x.out x.out.length; ⟨_, b, hb, rfl⟩) ?_
          rintro r ⟨b, hb, rfl⟩
          cases b with
          | none =>
            conv => whnf
            repeat ((first | with_reducible refine branch_true rfl ?_ | with_reducible refine branch_false rfl ?_); conv => whnf)
            refine st_ghosts (ghost_freeze (id := 1) (sz := 6) (lo := 0) (m := 0 + l.length) (n' := 0 + l.length) rfl rfl (by omega)) ?_
            conv => whnf
            repeat ((first | with_reducible refine branch_true rfl ?_ | with_reducible refine branch_false rfl ?_); conv => whnf)
            exact hfin _ (rm_none x g1 hb) (fun r h => h)
          | some k =>
            have hk : k < x.out.length := hb.1
            obtain ⟨r', hr'⟩ := rm_head x hids g1 hb
            obtain ⟨y, hy1, hy2, hy3⟩ := rm_step x hids g1 hk hr'
            obtain ⟨q0, q1, q2, q3, q4⟩ := x.hg (atC x.out k) (by rw [hr']; exact List.mem_cons_self)
            have hek : x.e (0 + k) = encC (atC x.out k) := by rw [Nat.zero_add, x.he.2 k hk]
            have hwl : IntKind.i64.wrap ((atC x.out k).n - (atC x.out k).t) = lack (atC x.out k) := wrap64 (by unfold lack at *; omega)
            have hb := minI_b (x := x.cents) (y := lack (atC x.out k)) hxc.1 (by omega)
            have hwt : IntKind.i64.wrap ((atC x.out k).t + minI x.cents (lack (atC x.out k))) = (atC x.out k).t + minI x.cents (lack (atC x.out k)) := by
              have : (atC x.out k).n = lack (atC x.out k) + (atC x.out k).t := by unfold lack; omega
              rw [wrap64 (by omega)]
            have hwc : IntKind.i64.wrap (x.cents - minI x.cents (lack (atC x.out k))) = x.cents - minI x.cents (lack (atC x.out k)) := by rw [wrap64 (by omega)]
            conv => whnf
            repeat ((first | with_reducible refine branch_true rfl ?_ | with_reducible refine branch_false rfl ?_); conv => whnf)
            refine st_addr_row (u := 59) (id := 1) (sz := 6) (lo := 0) (len := 0 + l.length) (n := (k : Int)) rfl rfl rfl rfl rfl (in_range (by omega)) ?_
            conv => whnf
            repeat ((first | with_reducible refine branch_true rfl ?_ | with_reducible refine branch_false rfl ?_); conv => whnf)
            refine st_load_ef (id := 1) (sz := 6) (j := 0 + k) (off := 3) (len := 0 + l.length) (g := x.e) (v := .int .i64 (atC x.out k).n) (cs := [.int .i64 (atC x.out k).id, .str (atC x.out k).m, .str (atC x.out k).a, .int .i64 (atC x.out k).n, .int .i64 (atC x.out k).d, .int .i64 (atC x.out k).t]) rfl rfl rfl (by omega) hek rfl rfl rfl ?_
            conv => whnf
            repeat ((first | with_reducible refine branch_true rfl ?_ | with_reducible refine branch_false rfl ?_); conv => whnf)
            refine st_addr_row (u := 59) (id := 1) (sz := 6) (lo := 0) (len := 0 + l.length) (n := (k : Int)) rfl rfl rfl rfl rfl (in_range (by omega)) ?_
            conv => whnf
            repeat ((first | with_reducible refine branch_true rfl ?_ | with_reducible refine branch_false rfl ?_); conv => whnf)
            refine st_load_ef (id := 1) (sz := 6) (j := 0 + k) (off := 5) (len := 0 + l.length) (g := x.e) (v := .int .i64 (atC x.out k).t) (cs := [.int .i64 (atC x.out k).id, .str (atC x.out k).m, .str (atC x.out k).a, .int .i64 (atC x.out k).n, .int .i64 (atC x.out k).d, .int .i64 (atC x.out k).t]) rfl rfl rfl (by omega) hek rfl rfl rfl ?_
            conv => whnf
            repeat ((first | with_reducible refine branch_true rfl ?_ | with_reducible refine branch_false rfl ?_); conv => whnf)
            refine branch_of (fun g5 => ?_) (fun g5 => ?_)
            · have g5 : x.cents < lack (atC x.out k) := by
                have : x.cents < IntKind.i64.wrap ((atC x.out k).n - (atC x.out k).t) := of_decide_eq_true g5
                rw [hwl] at this; exact this
              have hmin : minI x.cents (lack (atC x.out k)) = x.cents := by unfold minI; rw [if_neg (by omega)]
              conv => whnf
              repeat ((first | with_reducible refine branch_true rfl ?_ | with_reducible refine branch_false rfl ?_); conv => whnf)
              refine st_addr_row (u := 59) (id := 1) (sz := 6) (lo := 0) (len := 0 + l.length) (n := (k : Int)) rfl rfl rfl rfl rfl (in_range (by omega)) ?_
              conv => whnf
              repeat ((first | with_reducible refine branch_true rfl ?_ | with_reducible refine branch_false rfl ?_); conv => whnf)
              refine st_load_ef (id := 1) (sz := 6) (j := 0 + k) (off := 5) (len := 0 + l.length) (g := x.e) (v := .int .i64 (atC x.out k).t) (cs := [.int .i64 (atC x.out k).id, .str (atC x.out k).m, .str (atC x.out k).a, .int .i64 (atC x.out k).n, .int .i64 (atC x.out k).d, .int .i64 (atC x.out k).t]) rfl rfl rfl (by omega) hek rfl rfl rfl ?_
              conv => whnf
              repeat ((first | with_reducible refine branch_true rfl ?_ | with_reducible refine branch_false rfl ?_); conv => whnf)
              refine st_addr_row (u := 59) (id := 1) (sz := 6) (lo := 0) (len := 0 + l.length) (n := (k : Int)) rfl rfl rfl rfl rfl (in_range (by omega)) ?_
              conv => whnf
              repeat ((first | with_reducible refine branch_true rfl ?_ | with_reducible refine branch_false rfl ?_); conv => whnf)
              refine st_store_off (id := 1) (sz := 6) (j := 0 + k) (off := 5) (len := 0 + l.length) (g := x.e) rfl rfl (by omega) rfl rfl ?_
              conv => whnf
              repeat ((first | with_reducible refine branch_true rfl ?_ | with_reducible refine branch_false rfl ?_); conv => whnf)
              refine loop_to ih y (by rw [hy1, hr']; simp) ?_
              rw [hy2, hy3, hmin]
              rw [hmin] at hwt hwc
              show St.mk [(2, .int .i64 (IntKind.i64.wrap (x.cents - x.cents))), (4, .ptr 0 0), (10, .row 1 6 0 (0 + l.length))] [.cells [.str m, .str a], .arr 6 (0 + l.length) (upd x.e (0 + k) (setElem (x.e (0 + k)) 5 6 (.int .i64 (IntKind.i64.wrap ((atC x.out k).t + x.cents)))))] [] none = _
              rw [hwt, hwc]
            · have g5 : ¬ x.cents < lack (atC x.out k) := by
                have : ¬ x.cents < IntKind.i64.wrap ((atC x.out k).n - (atC x.out k).t) := of_decide_eq_false g5
                rw [hwl] at this; exact this
              have hmin : minI x.cents (lack (atC x.out k)) = lack (atC x.out k) := by unfold minI; split <;> omega
              conv => whnf
              repeat ((first | with_reducible refine branch_true rfl ?_ | with_reducible refine branch_false rfl ?_); conv => whnf)
              refine st_addr_row (u := 59) (id := 1) (sz := 6) (lo := 0) (len := 0 + l.length) (n := (k : Int)) rfl rfl rfl rfl rfl (in_range (by omega)) ?_
              conv => whnf
              repeat ((first | with_reducible refine branch_true rfl ?_ | with_reducible refine branch_false rfl ?_); conv => whnf)
              refine st_load_ef (id := 1) (sz := 6) (j := 0 + k) (off := 5) (len := 0 + l.length) (g := x.e) (v := .int .i64 (atC x.out k).t) (cs := [.int .i64 (atC x.out k).id, .str (atC x.out k).m, .str (atC x.out k).a, .int .i64 (atC x.out k).n, .int .i64 (atC x.out k).d, .int .i64 (atC x.out k).t]) rfl rfl rfl (by omega) hek rfl rfl rfl ?_
              conv => whnf
              repeat ((first | with_reducible refine branch_true rfl ?_ | with_reducible refine branch_false rfl ?_); conv => whnf)
              refine st_addr_row (u := 59) (id := 1) (sz := 6) (lo := 0) (len := 0 + l.length) (n := (k : Int)) rfl rfl rfl rfl rfl (in_range (by omega)) ?_
              conv => whnf
              repeat ((first | with_reducible refine branch_true rfl ?_ | with_reducible refine branch_false rfl ?_); conv => whnf)
              refine st_store_off (id := 1) (sz := 6) (j := 0 + k) (off := 5) (len := 0 + l.length) (g := x.e) rfl rfl (by omega) rfl rfl ?_
              conv => whnf
              repeat ((first | with_reducible refine branch_true rfl ?_ | with_reducible refine branch_false rfl ?_); conv => whnf)
              refine loop_to ih y (by rw [hy1, hr']; simp) ?_
              rw [hy2, hy3, hmin]
              rw [hmin] at hwt hwc
              show St.mk [(2, .int .i64 (IntKind.i64.wrap (x.cents - IntKind.i64.wrap ((atC x.out k).n - (atC x.out k).t)))), (4, .ptr 0 0), (10, .row 1 6 0 (0 + l.length))] [.cells [.str m, .str a], .arr 6 (0 + l.length) (upd x.e (0 + k) (setElem (x.e (0 + k)) 5 6 (.int .i64 (IntKind.i64.wrap ((atC x.out k).t + IntKind.i64.wrap ((atC x.out k).n - (atC x.out k).t))))))] [] none = _
              rw [hwl, hwt, hwc]
        · have g1 : ¬ 0 < x.cents := of_decide_eq_false g1
          conv => whnf
          repeat ((first | with_reducible refine branch_true rfl ?_ | with_reducible refine branch_false rfl ?_); conv => whnf)
          refine st_ghosts (ghost_freeze (id := 1) (sz := 6) (lo := 0) (m := 0 + l.length) (n' := 0 + l.length) rfl rfl (by omega)) ?_
          conv => whnf
          repeat ((first | with_reducible refine branch_true rfl ?_ | with_reducible refine branch_false rfl ?_); conv => whnf)
          exact hfin _ (rm_done x g1) (fun r h => h)
end Go.Proofs


set_option linter.unusedVariables false
namespace Go.Proofs
open Ax Go
theorem typed_slice {P : Program} {d : Nat} {t e : TypeId} {es : List AV} (ht : P.underlying t = some (.slice e)) (h : Typed P (d + 1) t es) : ∃ n g, es = [.vec (P.cellsOf e) n g] ∧ n ≤ maxLen ∧ ∀ i, i < n → TypedAV P d e (g i) := by
  unfold Typed at h
  rw [ht] at h
  exact h
theorem typed_struct {P : Program} {d : Nat} {t : TypeId} {fs : Array Field} {es : List AV} (ht : P.underlying t = some (.struct fs)) (h : Typed P (d + 1) t es) : TypedL (Typed P d) fs.toList es := by
  unfold Typed at h
  rw [ht] at h
  exact h
theorem typed_int {P : Program} {d : Nat} {t : TypeId} {k : IntKind} {es : List AV} (ht : P.underlying t = some (.int k)) (h : Typed P (d + 1) t es) : ∃ n, es = [.int k n] ∧ (Lit.int k n).wf = true := by
  unfold Typed at h
  rw [ht] at h
  exact h
theorem typed_str {P : Program} {d : Nat} {t : TypeId} {es : List AV} (ht : P.underlying t = some .string) (h : Typed P (d + 1) t es) : ∃ s : ByteArray, es = [.str s] ∧ s.size ≤ maxLen := by
  unfold Typed at h
  rw [ht] at h
  exact h
theorem size_big {s : ByteArray} (h : s.size ≤ maxLen) : s.size ≤ big := Nat.le_trans h (by decide)
theorem arg_int {d : Nat} {a : AV} (h : TypedAV Try.prog (d + 1) 3 a) : ∃ n, a = .int .i64 n ∧ (Lit.int .i64 n).wf = true := by
  obtain ⟨es, h1, h2, h3⟩ := h
  obtain ⟨n, rfl, hn⟩ := typed_int Try.underlying3 h3
  exact ⟨n, h1, hn⟩
theorem arg_acc {d : Nat} {a : AV} (h : TypedAV Try.prog (d + 2) 24 a) : ∃ m n : ByteArray, a = encA m n ∧ m.size ≤ big ∧ n.size ≤ big := by
  obtain ⟨es, h1, h2, h3⟩ := h
  obtain ⟨a0, r0, rfl, k0, a1, r1, rfl, k1, rfl⟩ := typed_struct Try.underlying24 h3
  obtain ⟨m, rfl, hm⟩ := typed_str Try.underlying9 k0
  obtain ⟨n, rfl, hn⟩ := typed_str Try.underlying9 k1
  exact ⟨m, n, h1, size_big hm, size_big hn⟩
theorem arg_call {d : Nat} {a : AV} (h : TypedAV Try.prog (d + 3) 59 a) : ∃ c : Cl, a = encC c ∧ c.m.size ≤ big ∧ c.a.size ≤ big := by
  obtain ⟨es, h1, h2, h3⟩ := h
  obtain ⟨a0, r0, rfl, k0, a1, r1, rfl, k1, a2, r2, rfl, k2, a3, r3, rfl, k3, a4, r4, rfl, k4, rfl⟩ := typed_struct Try.underlying59 h3
  obtain ⟨id, rfl, _⟩ := typed_int Try.underlying3 k0
  obtain ⟨b0, s0, rfl, j0, b1, s1, rfl, j1, rfl⟩ := typed_struct Try.underlying24 k1
  obtain ⟨m, rfl, hm⟩ := typed_str Try.underlying9 j0
  obtain ⟨a, rfl, ha⟩ := typed_str Try.underlying9 j1
  obtain ⟨n, rfl, _⟩ := typed_int Try.underlying3 k2
  obtain ⟨d, rfl, _⟩ := typed_int Try.underlying3 k3
  obtain ⟨t, rfl, _⟩ := typed_int Try.underlying3 k4
  exact ⟨⟨id, m, a, n, d, t⟩, h1, size_big hm, size_big ha⟩
theorem arg_calls {d : Nat} {a : AV} (h : TypedAV Try.prog (d + 4) 22 a) : ∃ l : List Cl, Same a (encL l) ∧ Sized l ∧ l.length ≤ maxLen := by
  obtain ⟨es, h1, h2, h3⟩ := h
  obtain ⟨n, g, rfl, hn, hg⟩ := typed_slice Try.underlying22 h3
  have h1 : a = .vec 6 n g := h1
  have each : ∀ i, ∃ c : Cl, i < n → g i = encC c ∧ c.m.size ≤ big ∧ c.a.size ≤ big := by
    intro i
    by_cases hi : i < n
    · obtain ⟨f, hf⟩ := arg_call (hg i hi)
      exact ⟨f, fun _ => hf⟩
    · exact ⟨c0, fun h => absurd h hi⟩
  obtain ⟨cl, hcl⟩ := Classical.axiomOfChoice each
  have hlen : ((List.range n).map cl).length = n := by simp
  have hat : ∀ i, i < n → atC ((List.range n).map cl) i = cl i := fun i hi => by
    rw [atC, List.getD, List.getElem?_map, List.getElem?_range hi]; rfl
  refine ⟨(List.range n).map cl, ?_, fun c hc => ?_, by rw [hlen]; exact hn⟩
  · rw [h1]
    exact callsAt_same ⟨hlen.symm, fun i hi => by rw [hlen] at hi; rw [(hcl i hi).1, hat i hi]⟩
  · obtain ⟨i, hi, rfl⟩ := List.mem_map.1 hc
    exact (hcl i (List.mem_range.1 hi)).2
end Go.Proofs


set_option linter.unusedVariables false
set_option linter.unusedSimpArgs false
namespace Go.Proofs
open Ax Go
set_option maxRecDepth 10000
def alfa : ByteArray := ⟨#[97, 108, 102, 97]⟩
def houseN : ByteArray := ⟨#[104, 111, 117, 115, 101]⟩
def k1 : Cl := ⟨1, alfa, houseN, 100, 9, 0⟩
def k2 : Cl := ⟨2, alfa, houseN, 50, 5, 0⟩
def m1 : Cl := ⟨1, alfa, houseN, 100, 9, 20⟩
def m2 : Cl := ⟨2, alfa, houseN, 50, 5, 50⟩
theorem eqC_same (a : Cl) : binAV Try.prog .eql 52 (encC a) (encC a) = some (.bool true) := by rw [eqC, eqB_iff.2 rfl]
theorem go1 : makeS [] alfa houseN 100 9 = ([k1], 1, 0) := by kernel_rfl
theorem go2 : makeS [k1] alfa houseN 50 5 = ([k1, k2], 2, 0) := by kernel_rfl
theorem go3 : meetS [k1, k2] 70 [k2, k1] = ([m1, m2], 0, 0) := by kernel_rfl
theorem go3p : [k2, k1].Perm (mineL [k1, k2] alfa houseN) := by
  rw [show mineL [k1, k2] alfa houseN = [k1, k2] by kernel_rfl]
  exact List.Perm.swap _ _ _
theorem go3s : AheadP [k2, k1] := by
  refine List.pairwise_cons.2 ⟨fun b hb => ?_, List.pairwise_singleton _ _⟩
  simp at hb; subst hb; rfl
theorem go4 : openS [m1, m2] alfa houseN = (80, 0) := by kernel_rfl
theorem go5 : lateS [m1, m2] 10 = ([m1], 0) := by kernel_rfl
theorem go6 : cleanS [m1, m2] = ([m1], 0) := by kernel_rfl
theorem goesOK : CallOK Try.prog 8 [] (fun r => r = .bool true) := by
  refine okP ?_
  conv => whnf
  repeat ((first | with_reducible refine branch_true rfl ?_ | with_reducible refine branch_false rfl ?_); conv => whnf)
  have s1 := make [] alfa houseN 100 9
  rw [go1] at s1
  refine call_by (ok_same (.cons (callsAt_same (l := []) ⟨rfl, fun i hi => absurd hi (by simp)⟩) (.cons (.refl _) (.cons (.refl _) (.cons (.refl _) .nil)))) s1) ⟨_, _, _, rfl, callsAt_self _⟩ ?_
  rintro r ⟨len, g, rfl, ha⟩
  conv => whnf
  repeat ((first | with_reducible refine branch_true rfl ?_ | with_reducible refine branch_false rfl ?_); conv => whnf)
  have s2 := ok_same (.cons (callsAt_same ha) (.cons (.refl _) (.cons (.refl _) (.cons (.refl _) .nil)))) (make [k1] alfa houseN 50 5)
  rw [go2] at s2
  refine call_by s2 ⟨_, _, _, rfl, callsAt_self _⟩ ?_
  rintro r ⟨len2, g2, rfl, hb⟩
  conv => whnf
  repeat ((first | with_reducible refine branch_true rfl ?_ | with_reducible refine branch_false rfl ?_); conv => whnf)
  have s3 := ok_same (.cons (callsAt_same hb) (.cons (.refl _) (.cons (.refl _) .nil))) (meet [k1, k2] alfa houseN 70 [k2, k1] (fun _ => go3s) (fun _ => go3p))
  rw [go3] at s3
  refine call_by s3 ⟨_, _, _, rfl, callsAt_self _⟩ ?_
  rintro r ⟨len3, g3, rfl, hc⟩
  conv => whnf
  repeat ((first | with_reducible refine branch_true rfl ?_ | with_reducible refine branch_false rfl ?_); conv => whnf)
  have s4 := ok_same (.cons (callsAt_same hc) (.cons (.refl _) .nil)) (openC [m1, m2] alfa houseN)
  rw [go4] at s4
  refine call_is s4 ?_
  conv => whnf
  repeat ((first | with_reducible refine branch_true rfl ?_ | with_reducible refine branch_false rfl ?_); conv => whnf)
  have s5 := ok_same (.cons (callsAt_same hc) (.cons (.refl _) .nil)) (late [m1, m2] 10)
  rw [go5] at s5
  refine call_by s5 ⟨_, _, _, rfl, callsAt_self _⟩ ?_
  rintro r ⟨len4, g4, rfl, hd⟩
  conv => whnf
  repeat ((first | with_reducible refine branch_true rfl ?_ | with_reducible refine branch_false rfl ?_); conv => whnf)
  have s6 := ok_same (.cons (callsAt_same hc) .nil) (clean [m1, m2])
  rw [go6] at s6
  refine call_by s6 ⟨_, _, _, rfl, callsAt_self _⟩ ?_
  rintro r ⟨len5, g5, rfl, he⟩
  obtain rfl : len3 = 2 := hc.1
  obtain rfl : len4 = 1 := hd.1
  obtain rfl : len5 = 1 := he.1
  have c0 : g3 0 = encC m1 := hc.2 0 (by decide)
  have c1 : g3 1 = encC m2 := hc.2 1 (by decide)
  have d0 : g4 0 = encC m1 := hd.2 0 (by decide)
  have e0 : g5 0 = encC m1 := he.2 0 (by decide)
  conv => whnf
  repeat ((first | with_reducible refine branch_true rfl ?_ | with_reducible refine branch_false rfl ?_); conv => whnf)
  refine force_by (v' := encC m1) c0 ?_
  conv => whnf
  repeat ((first | with_reducible refine branch_true rfl ?_ | with_reducible refine branch_false rfl ?_); conv => whnf)
  refine force_by (v' := encC m2) c1 ?_
  conv => whnf
  repeat ((first | with_reducible refine branch_true rfl ?_ | with_reducible refine branch_false rfl ?_); conv => whnf)
  refine force_by (v' := encC m1) d0 ?_
  conv => whnf
  repeat ((first | with_reducible refine branch_true rfl ?_ | with_reducible refine branch_false rfl ?_); conv => whnf)
  refine force_by (v' := encC m1) e0 ?_
  conv => whnf
  repeat ((first | with_reducible refine branch_true rfl ?_ | with_reducible refine branch_false rfl ?_); conv => whnf)
  refine force_by (v' := encC m1) c0 ?_
  conv => whnf
  repeat ((first | with_reducible refine branch_true rfl ?_ | with_reducible refine branch_false rfl ?_); conv => whnf)
  refine st_bin (a := encC m1) (b := encC m1) (v := .bool true) rfl rfl rfl (eqC_same m1) ?_
  conv => whnf
  repeat ((first | with_reducible refine branch_true rfl ?_ | with_reducible refine branch_false rfl ?_); conv => whnf)
  rfl
end Go.Proofs


set_option linter.unusedVariables false
set_option linter.unusedSimpArgs false
namespace Go.Proofs
open Ax Go
set_option maxRecDepth 10000
theorem meetS_len (l : List Cl) (cents : Int) (srt : List Cl) : (meetS l cents srt).1.length ≤ l.length := by
  unfold meetS
  cases decide (checkL l ≠ 0)
  · cases decide (cents < 0) || decide (1152921504606846976 < cents)
    · have : ∀ (r : List Cl) (p : List Cl × Int), (meetF r p).1.length = p.1.length := by
        intro r
        induction r with
        | nil => intro p; rfl
        | cons c r ih => intro p; rw [meetF, ih, bump_len]
      simp only [cond_false]
      exact Nat.le_of_eq (this _ _)
    · simp
  · simp
theorem exists_srt' (l : List Cl) (m a : ByteArray) : ∃ srt, (checkL l = 0 → AheadP srt) ∧ (checkL l = 0 → srt.Perm (mineL l m a)) := by
  by_cases hk : checkL l = 0
  · obtain ⟨s, h1, h2⟩ := exists_srt (mineL l m a) (mineL_ids (check_good hk).2.2 m a)
    exact ⟨s, fun _ => h1, fun _ => h2⟩
  · exact ⟨[], fun h => absurd h hk, fun h => absurd h hk⟩
theorem lawMeets : ∀ xs, TypedArgs Try.prog 8 Try.f4.params.toList xs → CallOK Try.prog 4 xs (fun r => r = .bool true) := by
  intro xs h
  rw [Try.params4] at h
  obtain ⟨a0, r0, rfl, h0, a1, r1, rfl, h1, a2, r2, rfl, h2, rfl⟩ := h
  obtain ⟨l, hs, hz, hn⟩ := arg_calls (d := 4) h0
  obtain ⟨m, a, rfl, hm, ha⟩ := arg_acc (d := 6) h1
  obtain ⟨cents, rfl, hc⟩ := arg_int (d := 7) h2
  refine ok_same (.cons hs (.cons (.refl _) (.cons (.refl _) .nil))) ?_
  refine okP ?_
  conv => whnf
  repeat ((first | with_reducible refine branch_true rfl ?_ | with_reducible refine branch_false rfl ?_); conv => whnf)
  refine branch_of (fun g1 => ?_) (fun g1 => ?_)
  · conv => whnf
    repeat ((first | with_reducible refine branch_true rfl ?_ | with_reducible refine branch_false rfl ?_); conv => whnf)
    refine call_is goesOK ?_
    conv => whnf
    repeat ((first | with_reducible refine branch_true rfl ?_ | with_reducible refine branch_false rfl ?_); conv => whnf)
  · have g1 : l.length ≤ 200 := by have := of_decide_eq_false g1; omega
    have hml := meetS_len l cents
    obtain ⟨srt, hr, hp⟩ : ∃ srt, (checkL l = 0 → AheadP srt) ∧ (checkL l = 0 → srt.Perm (mineL l m a)) := exists_srt' l m a
    have hml := meetS_len l cents srt
    conv => whnf
    repeat ((first | with_reducible refine branch_true rfl ?_ | with_reducible refine branch_false rfl ?_); conv => whnf)
    refine call_by (toCalls l (by omega)) ⟨_, _, _, rfl, callsAt_self _⟩ ?_
    rintro r ⟨len, g, rfl, hg⟩
    conv => whnf
    repeat ((first | with_reducible refine branch_true rfl ?_ | with_reducible refine branch_false rfl ?_); conv => whnf)
    refine call_by (ok_same (.cons (callsAt_same hg) (.cons (.refl _) (.cons (.refl _) .nil))) (meet l m a cents srt hr hp)) ⟨_, _, _, rfl, callsAt_self _⟩ ?_
    rintro r ⟨len2, g2, rfl, hg2⟩
    conv => whnf
    repeat ((first | with_reducible refine branch_true rfl ?_ | with_reducible refine branch_false rfl ?_); conv => whnf)
    refine call_by (refMeet l hz m a cents srt hr hp) ⟨_, _, _, rfl, callsAt_self _⟩ ?_
    rintro r ⟨len3, g3, rfl, hg3⟩
    conv => whnf
    repeat ((first | with_reducible refine branch_true rfl ?_ | with_reducible refine branch_false rfl ?_); conv => whnf)
    refine call_is (same_at hg2 hg3 (by omega)) ?_
    conv => whnf
    repeat ((first | with_reducible refine branch_true rfl ?_ | with_reducible refine branch_false rfl ?_); conv => whnf)
    refine branch_true (decide_eq_true rfl) ?_
    conv => whnf
    repeat ((first | with_reducible refine branch_true rfl ?_ | with_reducible refine branch_false rfl ?_); conv => whnf)
    refine branch_true (decide_eq_true rfl) ?_
    conv => whnf
    repeat ((first | with_reducible refine branch_true rfl ?_ | with_reducible refine branch_false rfl ?_); conv => whnf)
    refine call_is goesOK ?_
    conv => whnf
    repeat ((first | with_reducible refine branch_true rfl ?_ | with_reducible refine branch_false rfl ?_); conv => whnf)
    rfl
theorem filt_le (l : List Cl) (p : Cl → Bool) (hl : l.length ≤ 1100) : (l.filter p).length ≤ 100000 := by
  have := List.length_filter_le p l
  omega
theorem lawTells : ∀ xs, TypedArgs Try.prog 8 Try.f5.params.toList xs → CallOK Try.prog 5 xs (fun r => r = .bool true) := by
  intro xs h
  rw [Try.params5] at h
  obtain ⟨a0, r0, rfl, h0, a1, r1, rfl, h1, a2, r2, rfl, h2, rfl⟩ := h
  obtain ⟨l, hs, hz, hn⟩ := arg_calls (d := 4) h0
  obtain ⟨m, a, rfl, hm, ha⟩ := arg_acc (d := 6) h1
  obtain ⟨on, rfl, hc⟩ := arg_int (d := 7) h2
  refine ok_same (.cons hs (.cons (.refl _) (.cons (.refl _) .nil))) ?_
  refine okP ?_
  conv => whnf
  repeat ((first | with_reducible refine branch_true rfl ?_ | with_reducible refine branch_false rfl ?_); conv => whnf)
  refine branch_of (fun g1 => ?_) (fun g1 => ?_)
  · conv => whnf
    repeat ((first | with_reducible refine branch_true rfl ?_ | with_reducible refine branch_false rfl ?_); conv => whnf)
    refine call_is goesOK ?_
    conv => whnf
    repeat ((first | with_reducible refine branch_true rfl ?_ | with_reducible refine branch_false rfl ?_); conv => whnf)
  · have g1 : l.length ≤ 1100 := by have := of_decide_eq_false g1; omega
    have hll : (lateS l on).1.length ≤ 100000 := by
      unfold lateS
      cases decide (checkL l ≠ 0)
      · cases dayOK on
        · simp
        · exact filt_le l _ g1
      · simp
    have hcl : (cleanS l).1.length ≤ 100000 := by
      unfold cleanS
      cases decide (checkL l ≠ 0)
      · exact filt_le l _ g1
      · simp
    have vO := openC l m a
    have vR := refOpen l hz m a
    generalize openS l m a = V at vO vR
    conv => whnf
    repeat ((first | with_reducible refine branch_true rfl ?_ | with_reducible refine branch_false rfl ?_); conv => whnf)
    refine call_by (toCalls l (by omega)) ⟨_, _, _, rfl, callsAt_self _⟩ ?_
    rintro r ⟨len, g, rfl, hg⟩
    conv => whnf
    repeat ((first | with_reducible refine branch_true rfl ?_ | with_reducible refine branch_false rfl ?_); conv => whnf)
    refine call_is (ok_same (.cons (callsAt_same hg) (.cons (.refl _) .nil)) vO) ?_
    conv => whnf
    repeat ((first | with_reducible refine branch_true rfl ?_ | with_reducible refine branch_false rfl ?_); conv => whnf)
    refine call_is vR ?_
    conv => whnf
    repeat ((first | with_reducible refine branch_true rfl ?_ | with_reducible refine branch_false rfl ?_); conv => whnf)
    refine call_by (toCalls l (by omega)) ⟨_, _, _, rfl, callsAt_self _⟩ ?_
    rintro r ⟨len2, g2, rfl, hg2⟩
    conv => whnf
    repeat ((first | with_reducible refine branch_true rfl ?_ | with_reducible refine branch_false rfl ?_); conv => whnf)
    refine call_by (ok_same (.cons (callsAt_same hg2) (.cons (.refl _) .nil)) (late l on)) ⟨_, _, _, rfl, callsAt_self _⟩ ?_
    rintro r ⟨len3, g3, rfl, hg3⟩
    conv => whnf
    repeat ((first | with_reducible refine branch_true rfl ?_ | with_reducible refine branch_false rfl ?_); conv => whnf)
    refine call_by (refLate l hz on) ⟨_, _, _, rfl, callsAt_self _⟩ ?_
    rintro r ⟨len4, g4, rfl, hg4⟩
    conv => whnf
    repeat ((first | with_reducible refine branch_true rfl ?_ | with_reducible refine branch_false rfl ?_); conv => whnf)
    refine call_by (toCalls l (by omega)) ⟨_, _, _, rfl, callsAt_self _⟩ ?_
    rintro r ⟨len5, g5, rfl, hg5⟩
    conv => whnf
    repeat ((first | with_reducible refine branch_true rfl ?_ | with_reducible refine branch_false rfl ?_); conv => whnf)
    refine call_by (ok_same (.cons (callsAt_same hg5) .nil) (clean l)) ⟨_, _, _, rfl, callsAt_self _⟩ ?_
    rintro r ⟨len6, g6, rfl, hg6⟩
    conv => whnf
    repeat ((first | with_reducible refine branch_true rfl ?_ | with_reducible refine branch_false rfl ?_); conv => whnf)
    refine call_by (refClean l hz) ⟨_, _, _, rfl, callsAt_self _⟩ ?_
    rintro r ⟨len7, g7, rfl, hg7⟩
    conv => whnf
    repeat ((first | with_reducible refine branch_true rfl ?_ | with_reducible refine branch_false rfl ?_); conv => whnf)
    refine branch_true (decide_eq_true rfl) ?_
    conv => whnf
    repeat ((first | with_reducible refine branch_true rfl ?_ | with_reducible refine branch_false rfl ?_); conv => whnf)
    refine branch_true (decide_eq_true rfl) ?_
    conv => whnf
    repeat ((first | with_reducible refine branch_true rfl ?_ | with_reducible refine branch_false rfl ?_); conv => whnf)
    refine call_is (same_at hg3 hg4 hll) ?_
    conv => whnf
    repeat ((first | with_reducible refine branch_true rfl ?_ | with_reducible refine branch_false rfl ?_); conv => whnf)
    refine branch_true (decide_eq_true rfl) ?_
    conv => whnf
    repeat ((first | with_reducible refine branch_true rfl ?_ | with_reducible refine branch_false rfl ?_); conv => whnf)
    refine call_is (same_at hg6 hg7 hcl) ?_
    conv => whnf
    repeat ((first | with_reducible refine branch_true rfl ?_ | with_reducible refine branch_false rfl ?_); conv => whnf)
    refine branch_true (decide_eq_true rfl) ?_
    conv => whnf
    repeat ((first | with_reducible refine branch_true rfl ?_ | with_reducible refine branch_false rfl ?_); conv => whnf)
    refine call_is goesOK ?_
    conv => whnf
    repeat ((first | with_reducible refine branch_true rfl ?_ | with_reducible refine branch_false rfl ?_); conv => whnf)
    rfl
end Go.Proofs


set_option linter.unusedVariables false
set_option linter.unusedSimpArgs false
namespace Go.Proofs
open Ax Go
/-! ### plain: what a payment leaves -/
def sumI : List Int → Int
  | [] => 0
  | x :: r => x + sumI r
theorem sumZ_shift (x : Int) (r : List Int) : ∀ n, sumZ (fun i => (x :: r).getD i 0) (n + 1) = x + sumZ (fun i => r.getD i 0) n := by
  intro n
  induction n with
  | zero => simp [sumZ]
  | succ n ih =>
    rw [sumZ, ih]
    simp only [sumZ, List.getD_cons_succ]
    omega
theorem sumZ_list (l : List Int) : sumZ (fun i => l.getD i 0) l.length = sumI l := by
  induction l with
  | nil => rfl
  | cons x r ih => rw [List.length_cons, sumZ_shift, ih]; rfl
def tl (m a : ByteArray) (c : Cl) : Int := if mine m a c = true then lack c else 0
theorem totC_eq (m a : ByteArray) (l : List Cl) : totC m a l = sumI (l.map (tl m a)) := by
  rw [totC, sumZ_list, partsC]
  induction l with
  | nil => rfl
  | cons c r ih =>
    rw [List.filter_cons, List.map_cons]
    by_cases h : mine m a c = true
    · rw [if_pos h, List.map_cons]
      simp only [sumI, ih]
      rw [tl, if_pos h]
    · rw [if_neg h]
      simp only [sumI]
      rw [tl, if_neg h, ih]; omega
theorem bump_out {out : List Cl} {i n : Int} (h : ∀ x ∈ out, x.id ≠ i) : bump out i n = out := by
  unfold bump
  have : ∀ x ∈ out, (if x.id = i then { x with t := x.t + n } else x) = (id x : Cl) := fun x hx => by rw [if_neg (h x hx)]; rfl
  rw [List.map_congr_left this]
  exact List.map_id _
theorem tot_bump {m a : ByteArray} {out : List Cl} {c : Cl} {n : Int} (hi : Ids out) (hc : c ∈ out) (hm : mine m a c = true) : sumI ((bump out c.id n).map (tl m a)) = sumI (out.map (tl m a)) - n := by
  induction out with
  | nil => cases hc
  | cons x r ih =>
    obtain ⟨i1, i2⟩ := List.pairwise_cons.1 hi
    have hb : bump (x :: r) c.id n = (if x.id = c.id then { x with t := x.t + n } else x) :: bump r c.id n := rfl
    rw [hb, List.map_cons, List.map_cons]
    simp only [sumI]
    rcases List.mem_cons.1 hc with h | h
    · subst h
      rw [if_pos rfl, bump_out (fun y hy => by have := i1 y hy; omega)]
      have e1 : tl m a { c with t := c.t + n } = tl m a c - n := by
        have : mine m a { c with t := c.t + n } = mine m a c := rfl
        unfold tl
        rw [this, if_pos hm, if_pos hm]
        simp only [lack]; omega
      rw [e1]; omega
    · have := i1 c h
      rw [if_neg (by omega), ih i2 h]
      omega
/-- What is left of a list of calls. -/
structure Left (l : List Cl) (m a : ByteArray) (c0 : Int) (out : List Cl) (cents : Int) : Prop where
  len : out.length = l.length
  fr : ∀ i, i < l.length → (atC out i).id = (atC l i).id ∧ (atC out i).m = (atC l i).m ∧ (atC out i).a = (atC l i).a ∧ (atC out i).n = (atC l i).n ∧ (atC out i).d = (atC l i).d ∧ (atC l i).t ≤ (atC out i).t ∧ (atC out i).t ≤ (atC l i).n
  pos : 0 ≤ cents
  sum : totC m a out = totC m a l - (c0 - cents)
  own : ∀ i, i < l.length → (atC l i).t < (atC out i).t → mine m a (atC l i) = true
  ord : ∀ i k, i < l.length → k < l.length → (atC l i).t < (atC out i).t → mine m a (atC l k) = true → (atC out k).t < (atC l k).n → ¬ (atC l k).d < (atC l i).d
  rest : 0 < cents → ∀ i, i < l.length → mine m a (atC l i) = true → (atC out i).t = (atC l i).n
theorem cl_ext {x y : Cl} (h1 : x.id = y.id) (h2 : x.m = y.m) (h3 : x.a = y.a) (h4 : x.n = y.n) (h5 : x.d = y.d) (h6 : x.t = y.t) : x = y := by
  cases x; cases y; simp at *; exact ⟨h1, h2, h3, h4, h5, h6⟩
theorem meet_left {l : List Cl} {m a : ByteArray} {c0 : Int} {srt : List Cl} (hids : Ids l) (hg : ∀ c ∈ l, 1 ≤ c.n ∧ 0 ≤ c.t ∧ c.t ≤ c.n) (hsm : ∀ c, c ∈ srt ↔ c ∈ l ∧ owed m a c = true) (hsrt : AheadP srt) :
    ∀ (r p out : List Cl) (cents : Int), srt = p ++ r → 0 ≤ cents → out.length = l.length →
      (∀ i, i < l.length → (atC out i).id = (atC l i).id ∧ (atC out i).m = (atC l i).m ∧ (atC out i).a = (atC l i).a ∧ (atC out i).n = (atC l i).n ∧ (atC out i).d = (atC l i).d ∧ (atC l i).t ≤ (atC out i).t ∧ (atC out i).t ≤ (atC l i).n) →
      (∀ i, i < l.length → (atC l i).t < (atC out i).t → atC l i ∈ p) →
      (0 < cents → ∀ i, i < l.length → atC l i ∈ p → (atC out i).t = (atC l i).n) →
      totC m a out = totC m a l - (c0 - cents) →
      (∀ i k, i < l.length → k < l.length → (atC l i).t < (atC out i).t → mine m a (atC l k) = true → (atC out k).t < (atC l k).n → ¬ (atC l k).d < (atC l i).d) →
      Left l m a c0 (meetF r (out, cents)).1 (meetF r (out, cents)).2 := by
  intro r
  induction r with
  | nil =>
    intro p out cents hp h0 hlen hfr hpd hfull hsum hord
    rw [List.append_nil] at hp
    subst hp
    show Left l m a c0 out cents
    refine ⟨hlen, hfr, h0, hsum, fun i hi ht => ?_, hord, fun hc i hi hm => ?_⟩
    · have := ((hsm _).1 (hpd i hi ht)).2
      unfold owed at this
      simp at this; exact this.1
    · by_cases ho : owed m a (atC l i) = true
      · exact hfull hc i hi ((hsm _).2 ⟨atC_mem hi, ho⟩)
      · have := (hfr i hi).2.2.2.2.2
        unfold owed lack at ho
        simp [hm] at ho
        omega
  | cons c r ih =>
    intro p out cents hp h0 hlen hfr hpd hfull hsum hord
    have hcs : c ∈ srt := by rw [hp]; simp
    obtain ⟨hcl, hco⟩ := (hsm c).1 hcs
    obtain ⟨q, hq, hqc⟩ := at_mem hcl
    have hcm : mine m a c = true := by unfold owed at hco; simp at hco; exact hco.1
    have hlk : 0 < lack c := by unfold owed at hco; simp at hco; exact hco.2
    have hb := minI_b (x := cents) (y := lack c) h0 (by omega)
    have hcp : c ∉ p := fun h => by
      have h1 := hsrt
      rw [hp] at h1
      have := (List.pairwise_append.1 h1).2.2 c h c List.mem_cons_self
      rw [ahead_irr] at this; cases this
    have hqt : (atC out q).t = c.t := by
      have h1 := (hfr q hq).2.2.2.2.2.1
      rcases Int.lt_or_eq_of_le h1 with h2 | h2
      · have := hpd q hq h2
        rw [hqc] at this; exact absurd this hcp
      · rw [← h2, hqc]
    have hoq : atC out q = c := by
      obtain ⟨f1, f2, f3, f4, f5, _⟩ := hfr q hq
      rw [← hqc]
      exact cl_ext f1 f2 f3 f4 f5 (by rw [hqt, hqc])
    have hmap : out.map Cl.id = l.map Cl.id := by
      apply List.ext_getElem?
      intro i
      by_cases hi : i < l.length
      · have := (hfr i hi).1
        rw [atC, atC, List.getD, List.getD, List.getElem?_eq_getElem hi, List.getElem?_eq_getElem (by omega)] at this
        simp [hi, show i < out.length by omega]
        exact this
      · simp [hi, hlen]
    have hout := ids_of hids hmap
    have hco2 : c ∈ out := by rw [← hoq]; exact atC_mem (by omega)
    have hat : ∀ i, i < l.length → atC (bump out c.id (minI cents (lack c))) i = if i = q then { atC out i with t := (atC out i).t + minI cents (lack c) } else atC out i := fun i hi => by
      rw [bump_at (by omega)]
      by_cases e : i = q
      · subst e; rw [if_pos (by rw [hoq]), if_pos rfl]
      · rw [if_neg e, if_neg]
        intro h
        rw [← hoq] at h
        exact e (ids_at hout (by omega) (by omega) h)
    show Left l m a c0 (meetF r (bump out c.id (minI cents (lack c)), cents - minI cents (lack c))).1 (meetF r (bump out c.id (minI cents (lack c)), cents - minI cents (lack c))).2
    have hln : lack c = c.n - c.t := rfl
    refine ih (p ++ [c]) _ _ (by rw [hp]; simp) (by omega) (by rw [bump_len]; exact hlen) (fun i hi => ?_) (fun i hi ht => ?_) (fun hc i hi hip => ?_) ?_ (fun i k hi hk ht hm hlt => ?_)
    · rw [hat i hi]
      obtain ⟨f1, f2, f3, f4, f5, f6, f7⟩ := hfr i hi
      by_cases e : i = q
      · subst e
        rw [if_pos rfl]
        have q1 : (atC l i).n = c.n := by rw [hqc]
        exact ⟨f1, f2, f3, f4, f5, by simp only; omega, by simp only; omega⟩
      · rw [if_neg e]
        exact ⟨f1, f2, f3, f4, f5, f6, f7⟩
    · rw [hat i hi] at ht
      by_cases e : i = q
      · subst e; rw [hqc]; simp
      · rw [if_neg e] at ht
        exact List.mem_append_left _ (hpd i hi ht)
    · have hmn : minI cents (lack c) = lack c := by
        unfold minI at hc ⊢
        split
        · rfl
        · rename_i h; rw [if_neg h] at hc; omega
      rw [hat i hi]
      by_cases e : i = q
      · subst e
        rw [if_pos rfl, hmn, hqc]
        simp only; omega
      · rw [if_neg e]
        refine hfull (by omega) i hi ?_
        rcases List.mem_append.1 hip with h | h
        · exact h
        · simp at h
          rw [← hqc] at h
          exact absurd (ids_at hids hi hq (by rw [h])) e
    · rw [totC_eq, tot_bump hout hco2 hcm, ← totC_eq, hsum]
      omega
    · rw [hat i hi] at ht
      rw [hat k hk] at hlt
      by_cases hz : cents = 0
      · have hm0 : minI cents (lack c) = 0 := by omega
        rw [hm0] at ht hlt
        refine hord i k hi hk ?_ hm ?_
        · by_cases e : i = q
          · rw [if_pos e] at ht; simp only at ht; omega
          · rw [if_neg e] at ht; exact ht
        · by_cases e : k = q
          · rw [if_pos e] at hlt; simp only at hlt; omega
          · rw [if_neg e] at hlt; exact hlt
      · have hpos : 0 < cents := by omega
        -- what lacks still is c or behind it
        have hk2 : atC l k = c ∨ atC l k ∈ r := by
          have hok : owed m a (atC l k) = true := by
            have h1 := (hfr k hk).2.2.2.2.2
            have : (atC l k).t < (atC l k).n := by
              by_cases e : k = q
              · rw [if_pos e] at hlt; simp only at hlt; omega
              · rw [if_neg e] at hlt; omega
            unfold owed lack
            simp [hm]; omega
          have hks := (hsm _).2 ⟨atC_mem hk, hok⟩
          rw [hp] at hks
          rcases List.mem_append.1 hks with h | h
          · have := hfull hpos k hk h
            by_cases e : k = q
            · subst e; rw [hqc] at h; exact absurd h hcp
            · rw [if_neg e] at hlt; omega
          · rcases List.mem_cons.1 h with h | h
            · exact .inl h
            · exact .inr h
        have hi2 : atC l i = c ∨ atC l i ∈ p := by
          by_cases e : i = q
          · subst e; exact .inl hqc
          · rw [if_neg e] at ht
            exact .inr (hpd i hi ht)
        have hs := hsrt
        rw [hp] at hs
        obtain ⟨_, s2, s3⟩ := List.pairwise_append.1 hs
        have s4 := (List.pairwise_cons.1 s2).1
        rcases hk2 with h1 | h1 <;> rcases hi2 with h2 | h2
        · rw [h1, h2]; omega
        · have := ahead_iff.1 (s3 _ h2 c List.mem_cons_self)
          rw [h1]; omega
        · have := ahead_iff.1 (s4 _ h1)
          rw [h2]; omega
        · have := ahead_iff.1 (s3 _ h2 _ (List.mem_cons_of_mem _ h1))
          omega
theorem meet_leftS {l : List Cl} {m a : ByteArray} {cents : Int} {srt : List Cl} (h : checkL l = 0) (hsrt : AheadP srt) (hp : srt.Perm (mineL l m a)) (h0 : 0 ≤ cents) : Left l m a cents (meetF srt (l, cents)).1 (meetF srt (l, cents)).2 := by
  obtain ⟨hn, hgd, hids⟩ := check_good h
  have hg : ∀ c ∈ l, 1 ≤ c.n ∧ 0 ≤ c.t ∧ c.t ≤ c.n := fun c hc => by have := good_at h hc; omega
  refine meet_left hids hg (fun c => by rw [hp.mem_iff]; exact List.mem_filter) hsrt srt [] l cents rfl h0 rfl (fun i hi => ?_) (fun i hi ht => by omega) (fun _ i hi h => by cases h) (by omega) (fun i k hi hk ht => by omega)
  have := hg _ (atC_mem hi)
  exact ⟨rfl, rfl, rfl, rfl, rfl, by omega, by omega⟩
theorem from_back {l : List Cl} {last : Int} (h1 : ∀ c ∈ l, last < c.id ∧ c.id ≤ 1152921504606846976 ∧ askE c.m c.a c.n c.t c.d = 0) (h2 : Ids l) : checkFrom last l = 0 := by
  induction l generalizing last with
  | nil => rfl
  | cons c r ih =>
    obtain ⟨a1, a2, a3⟩ := h1 c List.mem_cons_self
    obtain ⟨b1, b2⟩ := List.pairwise_cons.1 h2
    have : chkC last c = 0 := by simp [chkC, a1, a2, a3]
    rw [from_good this]
    exact ih (fun x hx => ⟨b1 x hx, (h1 x (List.mem_cons_of_mem _ hx)).2⟩) b2
theorem check_back {l : List Cl} (hn : l.length ≤ 1024) (h1 : ∀ c ∈ l, 0 < c.id ∧ c.id ≤ 1152921504606846976 ∧ askE c.m c.a c.n c.t c.d = 0) (h2 : Ids l) : checkL l = 0 := by
  rw [checkL_from hn]; exact from_back h1 h2
theorem ask_met {m a : ByteArray} {n t t' d : Int} (h : askE m a n t d = 0) (h1 : 0 ≤ t') (h2 : t' ≤ n) : askE m a n t' d = 0 := by
  obtain ⟨a1, a2, a3, a4, a5, a6, a7⟩ := ask_ok h
  simp [askE, a1, a2, a3, a4, a7, h1, h2]
theorem left_check {l : List Cl} {m a : ByteArray} {c0 cents : Int} {out : List Cl} (h : checkL l = 0) (L : Left l m a c0 out cents) : checkL out = 0 := by
  obtain ⟨hn, hgd, hids⟩ := check_good h
  have hmap : out.map Cl.id = l.map Cl.id := by
    apply List.ext_getElem?
    intro i
    by_cases hi : i < l.length
    · have := (L.fr i hi).1
      have hlen := L.len
      rw [atC, atC, List.getD, List.getD, List.getElem?_eq_getElem hi, List.getElem?_eq_getElem (by omega)] at this
      simp [hi, show i < out.length by omega]
      exact this
    · simp [hi, L.len]
  refine check_back (by rw [L.len]; exact hn) (fun c hc => ?_) (ids_of hids hmap)
  obtain ⟨k, hk, rfl⟩ := at_mem hc
  rw [L.len] at hk
  obtain ⟨f1, f2, f3, f4, f5, f6, f7⟩ := L.fr k hk
  obtain ⟨g1, g2, g3⟩ := hgd _ (atC_mem hk)
  have := good_at h (atC_mem hk)
  rw [f1, f2, f3, f4, f5]
  exact ⟨g1, g2, ask_met g3 (by omega) f7⟩
theorem tot_nonneg {l : List Cl} (m a : ByteArray) (h : ∀ c ∈ l, 0 ≤ lack c) : 0 ≤ totC m a l := by
  rw [totC_eq]
  induction l with
  | nil => simp [sumI]
  | cons c r ih =>
    have h1 := ih fun x hx => h x (List.mem_cons_of_mem _ hx)
    have h2 := h c List.mem_cons_self
    simp only [List.map_cons, sumI]
    unfold tl at *
    split <;> omega
theorem tot_zero {l : List Cl} (m a : ByteArray) (h : ∀ c ∈ l, mine m a c = true → lack c = 0) : totC m a l = 0 := by
  rw [totC_eq]
  induction l with
  | nil => rfl
  | cons c r ih =>
    have h1 := ih fun x hx => h x (List.mem_cons_of_mem _ hx)
    have h2 := h c List.mem_cons_self
    simp only [List.map_cons, sumI]
    rw [h1]
    unfold tl
    split
    · rename_i hm; rw [h2 hm]; rfl
    · rfl
end Go.Proofs

