import Derived.Test.YthjpknhibboboaaLQ
import Derived.Test.YthjpknhibboboaaAxRow
set_option linter.unusedVariables false
set_option linter.unusedSimpArgs false
namespace Go.Proofs
open Ax Go
set_option maxRecDepth 10000
theorem lk_owed {m a : ByteArray} {c : Cl} : lk m a c = owed m a c := by
  unfold lk owed lack
  have : decide (c.t < c.n) = decide (0 < c.n - c.t) := decide_eq_decide.2 (by omega)
  rw [this]
structure RmHd (l : List Cl) (m a : ByteArray) (c0 : Int) (srt : List Cl) where
  r : List Cl
  out : List Cl
  cents : Int
  e : Nat → AV
  hm : meetF r (out, cents) = meetF srt (l, c0)
  hid : out.map Cl.id = l.map Cl.id
  hc : 0 ≤ cents ∧ cents ≤ 1152921504606846976
  he : CallsAt out (0 + l.length) e
  hr : AheadP r
  hg : ∀ c ∈ r, owed m a c = true ∧ 0 < lack c ∧ lack c ≤ 1152921504606846976 ∧ 0 ≤ c.t ∧ c.n ≤ 1152921504606846976
  hl : cents = 0 ∨ ((∀ x ∈ r, x ∈ out) ∧ ∀ x ∈ out, owed m a x = true → x ∈ r)
theorem rm_done {l : List Cl} {m a : ByteArray} {c0 : Int} {srt : List Cl} (x : RmHd l m a c0 srt) (h : ¬ 0 < x.cents) : meetF srt (l, c0) = (x.out, x.cents) := by
  have h0 : x.cents = 0 := by have := x.hc; omega
  rw [← x.hm, h0]
  exact meetF_nil _ _ fun c hc => (x.hg c hc).2.1
theorem rm_none {l : List Cl} {m a : ByteArray} {c0 : Int} {srt : List Cl} (x : RmHd l m a c0 srt) (h : 0 < x.cents) (hb : Best m a x.out x.out.length none) : meetF srt (l, c0) = (x.out, x.cents) := by
  rcases x.hl with h0 | ⟨h1, h2⟩
  · omega
  · have : x.r = [] := by
      cases hr : x.r with
      | nil => rfl
      | cons c r =>
        obtain ⟨k, hk, e⟩ := at_mem (h1 c (by rw [hr]; exact List.mem_cons_self))
        have := hb k hk
        rw [e, lk_owed, (x.hg c (by rw [hr]; exact List.mem_cons_self)).1] at this
        cases this
    rw [← x.hm, this]; rfl
theorem rm_head {l : List Cl} {m a : ByteArray} {c0 : Int} {srt : List Cl} (x : RmHd l m a c0 srt) (hids : Ids l) (h : 0 < x.cents) {k : Nat} (hb : Best m a x.out x.out.length (some k)) : ∃ r', x.r = atC x.out k :: r' := by
  rcases x.hl with h0 | ⟨h1, h2⟩
  · omega
  · obtain ⟨b1, b2, b3⟩ := hb
    have hout := ids_of hids x.hid
    have hkr : atC x.out k ∈ x.r := h2 _ (atC_mem b1) (by rw [← lk_owed]; exact b2)
    have hrr := x.hr
    cases hr : x.r with
    | nil => rw [hr] at hkr; cases hkr
    | cons c r' =>
      rw [hr] at hkr hrr
      rcases List.mem_cons.1 hkr with e | hin
      · exact ⟨r', by rw [e]⟩
      · exfalso
        have ha := ahead_iff.1 ((List.pairwise_cons.1 hrr).1 _ hin)
        have hcr : c ∈ x.r := by rw [hr]; exact List.mem_cons_self
        obtain ⟨q, hq, e⟩ := at_mem (h1 c hcr)
        have := b3 q hq (by rw [e, lk_owed]; exact (x.hg c hcr).1)
        rw [e] at this
        have hlt : ∀ i j, i < x.out.length → j < x.out.length → i < j → (atC x.out i).id < (atC x.out j).id := fun i j hi hj hij => by
          have := List.pairwise_iff_getElem.1 hout i j hi hj hij
          rw [atC, atC, List.getD, List.getD, List.getElem?_eq_getElem hi, List.getElem?_eq_getElem hj]
          exact this
        rcases Nat.lt_trichotomy q k with h3 | h3 | h3
        · have := this.2 h3; omega
        · subst h3; rw [e] at ha; omega
        · have := hlt k q b1 hq h3
          rw [e] at this; omega
theorem rm_step {l : List Cl} {m a : ByteArray} {c0 : Int} {srt : List Cl} (x : RmHd l m a c0 srt) (hids : Ids l) (h : 0 < x.cents) {k : Nat} {r' : List Cl} (hk : k < x.out.length) (hr : x.r = atC x.out k :: r') :
    ∃ y : RmHd l m a c0 srt, y.r = r' ∧ y.cents = x.cents - minI x.cents (lack (atC x.out k)) ∧ y.e = upd x.e (0 + k) (setElem (x.e (0 + k)) 5 6 (.int .i64 ((atC x.out k).t + minI x.cents (lack (atC x.out k))))) := by
  obtain ⟨r, out, cents, e, hm, hid, hc, he, hrr, hg, hl⟩ := x
  simp only at h hk hr
  subst hr
  obtain ⟨g0, g1, g2, g3, g4⟩ := hg _ List.mem_cons_self
  have hb := minI_b (x := cents) (y := lack (atC out k)) hc.1 (by omega)
  have hout := ids_of hids hid
  obtain ⟨hl1, hl2⟩ : (∀ x ∈ atC out k :: r', x ∈ out) ∧ ∀ x ∈ out, owed m a x = true → x ∈ atC out k :: r' := by
    rcases hl with h0 | h1
    · omega
    · exact h1
  have hne : ∀ x ∈ r', x.id ≠ (atC out k).id := fun x hx e => by
    obtain ⟨q, hq, ex⟩ := at_mem (hl1 x (List.mem_cons_of_mem _ hx))
    rw [← ex] at e
    have := ids_at hout hq hk e
    subst this
    have ha := (List.pairwise_cons.1 hrr).1 x hx
    rw [ex, ahead_irr] at ha; cases ha
  refine ⟨⟨r', bump out (atC out k).id (minI cents (lack (atC out k))), cents - minI cents (lack (atC out k)), upd e (0 + k) (setElem (e (0 + k)) 5 6 (.int .i64 ((atC out k).t + minI cents (lack (atC out k))))), ?_, by rw [bump_ids]; exact hid, by omega, ?_, (List.pairwise_cons.1 hrr).2, fun c hc => hg c (List.mem_cons_of_mem _ hc), ?_⟩, rfl, rfl, rfl⟩
  · rw [← hm]; rfl
  · obtain ⟨h1, h2⟩ := he
    refine ⟨by rw [bump_len]; exact h1, fun q hq => ?_⟩
    rw [bump_len] at hq
    rw [bump_at hq]
    unfold upd
    by_cases hqk : q = k
    · subst hqk
      rw [show Nat.beq q (0 + q) = true by rw [Nat.beq_eq]; omega, cond_true, Nat.zero_add, h2 q hq, if_pos rfl]
      rfl
    · rw [show Nat.beq q (0 + k) = false by rw [Bool.eq_false_iff, ne_eq, Nat.beq_eq]; omega, cond_false, h2 q hq, if_neg]
      intro e
      exact hqk (ids_at hout hq hk e)
  · by_cases hz : cents - minI cents (lack (atC out k)) = 0
    · exact .inl hz
    · right
      have hmn : minI cents (lack (atC out k)) = lack (atC out k) := by
        unfold minI at hz ⊢
        split
        · rfl
        · rename_i h; rw [if_neg h] at hz; omega
      refine ⟨fun x hx => bump_keeps (hl1 x (List.mem_cons_of_mem _ hx)) (hne x hx), fun x hx ho => ?_⟩
      unfold bump at hx
      obtain ⟨y, hy, rfl⟩ := List.mem_map.1 hx
      by_cases e : y.id = (atC out k).id
      · rw [if_pos e] at ho
        obtain ⟨q, hq, ey⟩ := at_mem hy
        rw [← ey] at e
        have := ids_at hout hq hk e
        subst this
        rw [← ey, hmn] at ho
        simp [owed, lack] at ho
        omega
      · rw [if_neg e] at ho ⊢
        rcases List.mem_cons.1 (hl2 y hy ho) with h | h
        · rw [h] at e; exact absurd rfl e
        · exact h
theorem refMeet (l : List Cl) (hs : Sized l) (m a : ByteArray) (cents : Int) (srt : List Cl) (hr : checkL l = 0 → AheadP srt) (hp : checkL l = 0 → srt.Perm (mineL l m a)) : CallOK Try.prog 16 [encL l, encA m a, .int .i64 cents] (Res3 (meetS l cents srt)) := by
  refine okR ?_
  conv => whnf
  repeat ((first | with_reducible refine branch_true rfl ?_ | with_reducible refine branch_false rfl ?_); conv => whnf)
  refine call_is (refCheck l hs) ?_
  conv => whnf
  repeat ((first | with_reducible refine branch_true rfl ?_ | with_reducible refine branch_false rfl ?_); conv => whnf)
  refine branch_of (fun h1 => ?_) (fun h1 => ?_)
  · have h1 : checkL l ≠ 0 := by simpa using h1
    conv => whnf
    repeat ((first | with_reducible refine branch_true rfl ?_ | with_reducible refine branch_false rfl ?_); conv => whnf)
    exact res3_nil (by simp [meetS, h1])
  · have h1 : checkL l = 0 := by simpa using h1
    replace hr := hr h1
    replace hp := hp h1
    obtain ⟨hn, hgd, hids⟩ := check_good h1
    conv => whnf
    repeat ((first | with_reducible refine branch_true rfl ?_ | with_reducible refine branch_false rfl ?_); conv => whnf)
    refine branch_of (fun k1 => ?_) (fun k1 => ?_)
    · have k1 : cents < 0 := of_decide_eq_true k1
      conv => whnf
      repeat ((first | with_reducible refine branch_true rfl ?_ | with_reducible refine branch_false rfl ?_); conv => whnf)
      exact res3_nil (by simp [meetS, h1, k1])
    · have k1 : ¬ cents < 0 := of_decide_eq_false k1
      conv => whnf
      repeat ((first | with_reducible refine branch_true rfl ?_ | with_reducible refine branch_false rfl ?_); conv => whnf)
      refine branch_of (fun k2 => ?_) (fun k2 => ?_)
      · have k2 : 1152921504606846976 < cents := of_decide_eq_true k2
        conv => whnf
        repeat ((first | with_reducible refine branch_true rfl ?_ | with_reducible refine branch_false rfl ?_); conv => whnf)
        exact res3_nil (by simp [meetS, h1, k2])
      · have k2 : ¬ 1152921504606846976 < cents := of_decide_eq_false k2
        have hS : meetS l cents srt = ((meetF srt (l, cents)).1, (meetF srt (l, cents)).2, 0) := by simp [meetS, h1, k1, k2]
        have hsm : ∀ c, c ∈ srt ↔ c ∈ l ∧ owed m a c = true := fun c => by rw [hp.mem_iff]; exact List.mem_filter
        have hsg : ∀ c ∈ srt, owed m a c = true ∧ 0 < lack c ∧ lack c ≤ 1152921504606846976 ∧ 0 ≤ c.t ∧ c.n ≤ 1152921504606846976 := fun c hc => by
          obtain ⟨q1, q2⟩ := (hsm c).1 hc
          have := good_at h1 q1
          refine ⟨q2, ?_⟩
          unfold owed at q2
          simp at q2
          unfold lack at q2 ⊢
          omega
        conv => whnf
        repeat ((first | with_reducible refine branch_true rfl ?_ | with_reducible refine branch_false rfl ?_); conv => whnf)
        refine st_append_uni (sz := 6) (len := 0) (u := 59) (m := l.length) (gg := fun i => encC (atC l i)) rfl rfl rfl rfl rfl (room64 (by omega)) ?_
        conv => whnf
        repeat ((first | with_reducible refine branch_true rfl ?_ | with_reducible refine branch_false rfl ?_); conv => whnf)
        have hG : ∀ z (g0 : Nat → AV), CallsAt l (0 + l.length) (vapp z g0 0 (fun i => encC (atC l i)) l.length) := fun z g0 => callsAt_app (z := z) (callsAt_nil (g := g0)) (callsAt_self l)
        refine loop_by (cx := cxR) rfl progOK (ι := RmHd l m a cents srt) (fun x => x.r.length) (fun x => ⟨[(2, .int .i64 x.cents), (4, .ptr 0 0), (10, .row 1 6 0 (0 + l.length))], [.cells [.str m, .str a], .arr 6 (0 + l.length) x.e], [], none⟩) ?_ ⟨srt, l, cents, _, rfl, rfl, by omega, hG (zeroElem Try.prog 59) (fun _ => zeroElem Try.prog 59), hr, hsg, .inr ⟨fun x hx => ((hsm x).1 hx).1, fun x hx ho => (hsm x).2 ⟨hx, ho⟩⟩⟩
        intro x ih
        have hxc := x.hc
        have hlen := x.he.1
        have hfin : ∀ K : AV → Prop, meetF srt (l, cents) = (x.out, x.cents) → (∀ r, Res3 (meetS l cents srt) r → K r) → K (.tup [.vec 6 (0 + l.length) (fun j => x.e (0 + j)), .int .i64 x.cents, .int .i64 0]) := fun K h hK => hK _ (by
          rw [hS, h]
          exact ⟨_, _, rfl, x.he.1, fun i hi => by show x.e (0 + i) = _; rw [Nat.zero_add]; exact x.he.2 i hi⟩)
        conv => whnf
        repeat ((first | with_reducible refine branch_true rfl ?_ | with_reducible refine branch_false rfl ?_); conv => whnf)
        refine branch_of (fun g1 => ?_) (fun g1 => ?_)
        · have g1 : 0 < x.cents := of_decide_eq_true g1
          conv => whnf
          repeat ((first | with_reducible refine branch_true rfl ?_ | with_reducible refine branch_false rfl ?_); conv => whnf)
          refine force_by (lend_row (id := 1) (sz := 6) (n := 0 + l.length) (n' := 0 + l.length) rfl (Nat.le_refl _)) ?_
          conv => whnf
          repeat ((first | with_reducible refine branch_true rfl ?_ | with_reducible refine branch_false rfl ?_); conv => whnf)
          have he' : CallsAt x.out (0 + l.length) (fun j => x.e (0 + j)) := ⟨x.he.1, fun i hi => by show x.e (0 + i) = _; rw [Nat.zero_add]; exact x.he.2 i hi⟩
          refine call_by (ok_same (.cons (callsAt_same he') (.cons (.refl _) .nil)) (first x.out (by omega) m a)) (let ⟨b, hb⟩ := best_some m a x.out x.out.length; ⟨_, b, hb, rfl⟩) ?_
          rintro r ⟨b, hb, rfl⟩
          cases b with
          | none =>
            conv => whnf
            repeat ((first | with_reducible refine branch_true rfl ?_ | with_reducible refine branch_false rfl ?_); conv => whnf)
            refine st_ghosts (ghost_freeze (id := 1) (sz := 6) (lo := 0) (m := 0 + l.length) (n' := 0 + l.length) rfl rfl (by omega)) ?_
            conv => whnf
            repeat ((first | with_reducible refine branch_true rfl ?_ | with_reducible refine branch_false rfl ?_); conv => whnf)
            exact hfin _ (rm_none x g1 hb) (fun r h => h)
          | some k =>
            have hk : k < x.out.length := hb.1
            obtain ⟨r', hr'⟩ := rm_head x hids g1 hb
            obtain ⟨y, hy1, hy2, hy3⟩ := rm_step x hids g1 hk hr'
            obtain ⟨q0, q1, q2, q3, q4⟩ := x.hg (atC x.out k) (by rw [hr']; exact List.mem_cons_self)
            have hek : x.e (0 + k) = encC (atC x.out k) := by rw [Nat.zero_add, x.he.2 k hk]
            have hwl : IntKind.i64.wrap ((atC x.out k).n - (atC x.out k).t) = lack (atC x.out k) := wrap64 (by unfold lack at *; omega)
            have hb := minI_b (x := x.cents) (y := lack (atC x.out k)) hxc.1 (by omega)
            have hwt : IntKind.i64.wrap ((atC x.out k).t + minI x.cents (lack (atC x.out k))) = (atC x.out k).t + minI x.cents (lack (atC x.out k)) := by
              have : (atC x.out k).n = lack (atC x.out k) + (atC x.out k).t := by unfold lack; omega
              rw [wrap64 (by omega)]
            have hwc : IntKind.i64.wrap (x.cents - minI x.cents (lack (atC x.out k))) = x.cents - minI x.cents (lack (atC x.out k)) := by rw [wrap64 (by omega)]
            conv => whnf
            repeat ((first | with_reducible refine branch_true rfl ?_ | with_reducible refine branch_false rfl ?_); conv => whnf)
            refine st_addr_row (u := 59) (id := 1) (sz := 6) (lo := 0) (len := 0 + l.length) (n := (k : Int)) rfl rfl rfl rfl rfl (in_range (by omega)) ?_
            conv => whnf
            repeat ((first | with_reducible refine branch_true rfl ?_ | with_reducible refine branch_false rfl ?_); conv => whnf)
            refine st_load_ef (id := 1) (sz := 6) (j := 0 + k) (off := 3) (len := 0 + l.length) (g := x.e) (v := .int .i64 (atC x.out k).n) (cs := [.int .i64 (atC x.out k).id, .str (atC x.out k).m, .str (atC x.out k).a, .int .i64 (atC x.out k).n, .int .i64 (atC x.out k).d, .int .i64 (atC x.out k).t]) rfl rfl rfl (by omega) hek rfl rfl rfl ?_
            conv => whnf
            repeat ((first | with_reducible refine branch_true rfl ?_ | with_reducible refine branch_false rfl ?_); conv => whnf)
            refine st_addr_row (u := 59) (id := 1) (sz := 6) (lo := 0) (len := 0 + l.length) (n := (k : Int)) rfl rfl rfl rfl rfl (in_range (by omega)) ?_
            conv => whnf
            repeat ((first | with_reducible refine branch_true rfl ?_ | with_reducible refine branch_false rfl ?_); conv => whnf)
            refine st_load_ef (id := 1) (sz := 6) (j := 0 + k) (off := 5) (len := 0 + l.length) (g := x.e) (v := .int .i64 (atC x.out k).t) (cs := [.int .i64 (atC x.out k).id, .str (atC x.out k).m, .str (atC x.out k).a, .int .i64 (atC x.out k).n, .int .i64 (atC x.out k).d, .int .i64 (atC x.out k).t]) rfl rfl rfl (by omega) hek rfl rfl rfl ?_
            conv => whnf
            repeat ((first | with_reducible refine branch_true rfl ?_ | with_reducible refine branch_false rfl ?_); conv => whnf)
            refine branch_of (fun g5 => ?_) (fun g5 => ?_)
            · have g5 : x.cents < lack (atC x.out k) := by
                have : x.cents < IntKind.i64.wrap ((atC x.out k).n - (atC x.out k).t) := of_decide_eq_true g5
                rw [hwl] at this; exact this
              have hmin : minI x.cents (lack (atC x.out k)) = x.cents := by unfold minI; rw [if_neg (by omega)]
              conv => whnf
              repeat ((first | with_reducible refine branch_true rfl ?_ | with_reducible refine branch_false rfl ?_); conv => whnf)
              refine st_addr_row (u := 59) (id := 1) (sz := 6) (lo := 0) (len := 0 + l.length) (n := (k : Int)) rfl rfl rfl rfl rfl (in_range (by omega)) ?_
              conv => whnf
              repeat ((first | with_reducible refine branch_true rfl ?_ | with_reducible refine branch_false rfl ?_); conv => whnf)
              refine st_load_ef (id := 1) (sz := 6) (j := 0 + k) (off := 5) (len := 0 + l.length) (g := x.e) (v := .int .i64 (atC x.out k).t) (cs := [.int .i64 (atC x.out k).id, .str (atC x.out k).m, .str (atC x.out k).a, .int .i64 (atC x.out k).n, .int .i64 (atC x.out k).d, .int .i64 (atC x.out k).t]) rfl rfl rfl (by omega) hek rfl rfl rfl ?_
              conv => whnf
              repeat ((first | with_reducible refine branch_true rfl ?_ | with_reducible refine branch_false rfl ?_); conv => whnf)
              refine st_addr_row (u := 59) (id := 1) (sz := 6) (lo := 0) (len := 0 + l.length) (n := (k : Int)) rfl rfl rfl rfl rfl (in_range (by omega)) ?_
              conv => whnf
              repeat ((first | with_reducible refine branch_true rfl ?_ | with_reducible refine branch_false rfl ?_); conv => whnf)
              refine st_store_off (id := 1) (sz := 6) (j := 0 + k) (off := 5) (len := 0 + l.length) (g := x.e) rfl rfl (by omega) rfl rfl ?_
              conv => whnf
              repeat ((first | with_reducible refine branch_true rfl ?_ | with_reducible refine branch_false rfl ?_); conv => whnf)
              refine loop_to ih y (by rw [hy1, hr']; simp) ?_
              rw [hy2, hy3, hmin]
              rw [hmin] at hwt hwc
              show St.mk [(2, .int .i64 (IntKind.i64.wrap (x.cents - x.cents))), (4, .ptr 0 0), (10, .row 1 6 0 (0 + l.length))] [.cells [.str m, .str a], .arr 6 (0 + l.length) (upd x.e (0 + k) (setElem (x.e (0 + k)) 5 6 (.int .i64 (IntKind.i64.wrap ((atC x.out k).t + x.cents)))))] [] none = _
              rw [hwt, hwc]
            · have g5 : ¬ x.cents < lack (atC x.out k) := by
                have : ¬ x.cents < IntKind.i64.wrap ((atC x.out k).n - (atC x.out k).t) := of_decide_eq_false g5
                rw [hwl] at this; exact this
              have hmin : minI x.cents (lack (atC x.out k)) = lack (atC x.out k) := by unfold minI; split <;> omega
              conv => whnf
              repeat ((first | with_reducible refine branch_true rfl ?_ | with_reducible refine branch_false rfl ?_); conv => whnf)
              refine st_addr_row (u := 59) (id := 1) (sz := 6) (lo := 0) (len := 0 + l.length) (n := (k : Int)) rfl rfl rfl rfl rfl (in_range (by omega)) ?_
              conv => whnf
              repeat ((first | with_reducible refine branch_true rfl ?_ | with_reducible refine branch_false rfl ?_); conv => whnf)
              refine st_load_ef (id := 1) (sz := 6) (j := 0 + k) (off := 5) (len := 0 + l.length) (g := x.e) (v := .int .i64 (atC x.out k).t) (cs := [.int .i64 (atC x.out k).id, .str (atC x.out k).m, .str (atC x.out k).a, .int .i64 (atC x.out k).n, .int .i64 (atC x.out k).d, .int .i64 (atC x.out k).t]) rfl rfl rfl (by omega) hek rfl rfl rfl ?_
              conv => whnf
              repeat ((first | with_reducible refine branch_true rfl ?_ | with_reducible refine branch_false rfl ?_); conv => whnf)
              refine st_addr_row (u := 59) (id := 1) (sz := 6) (lo := 0) (len := 0 + l.length) (n := (k : Int)) rfl rfl rfl rfl rfl (in_range (by omega)) ?_
              conv => whnf
              repeat ((first | with_reducible refine branch_true rfl ?_ | with_reducible refine branch_false rfl ?_); conv => whnf)
              refine st_store_off (id := 1) (sz := 6) (j := 0 + k) (off := 5) (len := 0 + l.length) (g := x.e) rfl rfl (by omega) rfl rfl ?_
              conv => whnf
              repeat ((first | with_reducible refine branch_true rfl ?_ | with_reducible refine branch_false rfl ?_); conv => whnf)
              refine loop_to ih y (by rw [hy1, hr']; simp) ?_
              rw [hy2, hy3, hmin]
              rw [hmin] at hwt hwc
              show St.mk [(2, .int .i64 (IntKind.i64.wrap (x.cents - IntKind.i64.wrap ((atC x.out k).n - (atC x.out k).t)))), (4, .ptr 0 0), (10, .row 1 6 0 (0 + l.length))] [.cells [.str m, .str a], .arr 6 (0 + l.length) (upd x.e (0 + k) (setElem (x.e (0 + k)) 5 6 (.int .i64 (IntKind.i64.wrap ((atC x.out k).t + IntKind.i64.wrap ((atC x.out k).n - (atC x.out k).t))))))] [] none = _
              rw [hwl, hwt, hwc]
        · have g1 : ¬ 0 < x.cents := of_decide_eq_false g1
          conv => whnf
          repeat ((first | with_reducible refine branch_true rfl ?_ | with_reducible refine branch_false rfl ?_); conv => whnf)
          refine st_ghosts (ghost_freeze (id := 1) (sz := 6) (lo := 0) (m := 0 + l.length) (n' := 0 + l.length) rfl rfl (by omega)) ?_
          conv => whnf
          repeat ((first | with_reducible refine branch_true rfl ?_ | with_reducible refine branch_false rfl ?_); conv => whnf)
          exact hfin _ (rm_done x g1) (fun r h => h)
end Go.Proofs


set_option linter.unusedVariables false
namespace Go.Proofs
open Ax Go
theorem typed_slice {P : Program} {d : Nat} {t e : TypeId} {es : List AV} (ht : P.underlying t = some (.slice e)) (h : Typed P (d + 1) t es) : ∃ n g, es = [.vec (P.cellsOf e) n g] ∧ n ≤ maxLen ∧ ∀ i, i < n → TypedAV P d e (g i) := by
  unfold Typed at h
  rw [ht] at h
  exact h
theorem typed_struct {P : Program} {d : Nat} {t : TypeId} {fs : Array Field} {es : List AV} (ht : P.underlying t = some (.struct fs)) (h : Typed P (d + 1) t es) : TypedL (Typed P d) fs.toList es := by
  unfold Typed at h
  rw [ht] at h
  exact h
theorem typed_int {P : Program} {d : Nat} {t : TypeId} {k : IntKind} {es : List AV} (ht : P.underlying t = some (.int k)) (h : Typed P (d + 1) t es) : ∃ n, es = [.int k n] ∧ (Lit.int k n).wf = true := by
  unfold Typed at h
  rw [ht] at h
  exact h
theorem typed_str {P : Program} {d : Nat} {t : TypeId} {es : List AV} (ht : P.underlying t = some .string) (h : Typed P (d + 1) t es) : ∃ s : ByteArray, es = [.str s] ∧ s.size ≤ maxLen := by
  unfold Typed at h
  rw [ht] at h
  exact h
theorem size_big {s : ByteArray} (h : s.size ≤ maxLen) : s.size ≤ big := Nat.le_trans h (by decide)
theorem arg_int {d : Nat} {a : AV} (h : TypedAV Try.prog (d + 1) 3 a) : ∃ n, a = .int .i64 n ∧ (Lit.int .i64 n).wf = true := by
  obtain ⟨es, h1, h2, h3⟩ := h
  obtain ⟨n, rfl, hn⟩ := typed_int Try.underlying3 h3
  exact ⟨n, h1, hn⟩
theorem arg_acc {d : Nat} {a : AV} (h : TypedAV Try.prog (d + 2) 24 a) : ∃ m n : ByteArray, a = encA m n ∧ m.size ≤ big ∧ n.size ≤ big := by
  obtain ⟨es, h1, h2, h3⟩ := h
  obtain ⟨a0, r0, rfl, k0, a1, r1, rfl, k1, rfl⟩ := typed_struct Try.underlying24 h3
  obtain ⟨m, rfl, hm⟩ := typed_str Try.underlying9 k0
  obtain ⟨n, rfl, hn⟩ := typed_str Try.underlying9 k1
  exact ⟨m, n, h1, size_big hm, size_big hn⟩
theorem arg_call {d : Nat} {a : AV} (h : TypedAV Try.prog (d + 3) 59 a) : ∃ c : Cl, a = encC c ∧ c.m.size ≤ big ∧ c.a.size ≤ big := by
  obtain ⟨es, h1, h2, h3⟩ := h
  obtain ⟨a0, r0, rfl, k0, a1, r1, rfl, k1, a2, r2, rfl, k2, a3, r3, rfl, k3, a4, r4, rfl, k4, rfl⟩ := typed_struct Try.underlying59 h3
  obtain ⟨id, rfl, _⟩ := typed_int Try.underlying3 k0
  obtain ⟨b0, s0, rfl, j0, b1, s1, rfl, j1, rfl⟩ := typed_struct Try.underlying24 k1
  obtain ⟨m, rfl, hm⟩ := typed_str Try.underlying9 j0
  obtain ⟨a, rfl, ha⟩ := typed_str Try.underlying9 j1
  obtain ⟨n, rfl, _⟩ := typed_int Try.underlying3 k2
  obtain ⟨d, rfl, _⟩ := typed_int Try.underlying3 k3
  obtain ⟨t, rfl, _⟩ := typed_int Try.underlying3 k4
  exact ⟨⟨id, m, a, n, d, t⟩, h1, size_big hm, size_big ha⟩
theorem arg_calls {d : Nat} {a : AV} (h : TypedAV Try.prog (d + 4) 22 a) : ∃ l : List Cl, Same a (encL l) ∧ Sized l ∧ l.length ≤ maxLen := by
  obtain ⟨es, h1, h2, h3⟩ := h
  obtain ⟨n, g, rfl, hn, hg⟩ := typed_slice Try.underlying22 h3
  have h1 : a = .vec 6 n g := h1
  have each : ∀ i, ∃ c : Cl, i < n → g i = encC c ∧ c.m.size ≤ big ∧ c.a.size ≤ big := by
    intro i
    by_cases hi : i < n
    · obtain ⟨f, hf⟩ := arg_call (hg i hi)
      exact ⟨f, fun _ => hf⟩
    · exact ⟨c0, fun h => absurd h hi⟩
  obtain ⟨cl, hcl⟩ := Classical.axiomOfChoice each
  have hlen : ((List.range n).map cl).length = n := by simp
  have hat : ∀ i, i < n → atC ((List.range n).map cl) i = cl i := fun i hi => by
    rw [atC, List.getD, List.getElem?_map, List.getElem?_range hi]; rfl
  refine ⟨(List.range n).map cl, ?_, fun c hc => ?_, by rw [hlen]; exact hn⟩
  · rw [h1]
    exact callsAt_same ⟨hlen.symm, fun i hi => by rw [hlen] at hi; rw [(hcl i hi).1, hat i hi]⟩
  · obtain ⟨i, hi, rfl⟩ := List.mem_map.1 hc
    exact (hcl i (List.mem_range.1 hi)).2
end Go.Proofs


set_option linter.unusedVariables false
set_option linter.unusedSimpArgs false
namespace Go.Proofs
open Ax Go
set_option maxRecDepth 10000
def alfa : ByteArray := ⟨#[97, 108, 102, 97]⟩
def houseN : ByteArray := ⟨#[104, 111, 117, 115, 101]⟩
def k1 : Cl := ⟨1, alfa, houseN, 100, 9, 0⟩
def k2 : Cl := ⟨2, alfa, houseN, 50, 5, 0⟩
def m1 : Cl := ⟨1, alfa, houseN, 100, 9, 20⟩
def m2 : Cl := ⟨2, alfa, houseN, 50, 5, 50⟩
theorem eqC_same (a : Cl) : binAV Try.prog .eql 52 (encC a) (encC a) = some (.bool true) := by rw [eqC, eqB_iff.2 rfl]
theorem go1 : makeS [] alfa houseN 100 9 = ([k1], 1, 0) := by kernel_rfl
theorem go2 : makeS [k1] alfa houseN 50 5 = ([k1, k2], 2, 0) := by kernel_rfl
theorem go3 : meetS [k1, k2] 70 [k2, k1] = ([m1, m2], 0, 0) := by kernel_rfl
theorem go3p : [k2, k1].Perm (mineL [k1, k2] alfa houseN) := by
  rw [show mineL [k1, k2] alfa houseN = [k1, k2] by kernel_rfl]
  exact List.Perm.swap _ _ _
theorem go3s : AheadP [k2, k1] := by
  refine List.pairwise_cons.2 ⟨fun b hb => ?_, List.pairwise_singleton _ _⟩
  simp at hb; subst hb; rfl
theorem go4 : openS [m1, m2] alfa houseN = (80, 0) := by kernel_rfl
theorem go5 : lateS [m1, m2] 10 = ([m1], 0) := by kernel_rfl
theorem go6 : cleanS [m1, m2] = ([m1], 0) := by kernel_rfl
theorem goesOK : CallOK Try.prog 8 [] (fun r => r = .bool true) := by
  refine okP ?_
  conv => whnf
  repeat ((first | with_reducible refine branch_true rfl ?_ | with_reducible refine branch_false rfl ?_); conv => whnf)
  have s1 := make [] alfa houseN 100 9
  rw [go1] at s1
  refine call_by (ok_same (.cons (callsAt_same (l := []) ⟨rfl, fun i hi => absurd hi (by simp)⟩) (.cons (.refl _) (.cons (.refl _) (.cons (.refl _) .nil)))) s1) ⟨_, _, _, rfl, callsAt_self _⟩ ?_
  rintro r ⟨len, g, rfl, ha⟩
  conv => whnf
  repeat ((first | with_reducible refine branch_true rfl ?_ | with_reducible refine branch_false rfl ?_); conv => whnf)
  have s2 := ok_same (.cons (callsAt_same ha) (.cons (.refl _) (.cons (.refl _) (.cons (.refl _) .nil)))) (make [k1] alfa houseN 50 5)
  rw [go2] at s2
  refine call_by s2 ⟨_, _, _, rfl, callsAt_self _⟩ ?_
  rintro r ⟨len2, g2, rfl, hb⟩
  conv => whnf
  repeat ((first | with_reducible refine branch_true rfl ?_ | with_reducible refine branch_false rfl ?_); conv => whnf)
  have s3 := ok_same (.cons (callsAt_same hb) (.cons (.refl _) (.cons (.refl _) .nil))) (meet [k1, k2] alfa houseN 70 [k2, k1] (fun _ => go3s) (fun _ => go3p))
  rw [go3] at s3
  refine call_by s3 ⟨_, _, _, rfl, callsAt_self _⟩ ?_
  rintro r ⟨len3, g3, rfl, hc⟩
  conv => whnf
  repeat ((first | with_reducible refine branch_true rfl ?_ | with_reducible refine branch_false rfl ?_); conv => whnf)
  have s4 := ok_same (.cons (callsAt_same hc) (.cons (.refl _) .nil)) (openC [m1, m2] alfa houseN)
  rw [go4] at s4
  refine call_is s4 ?_
  conv => whnf
  repeat ((first | with_reducible refine branch_true rfl ?_ | with_reducible refine branch_false rfl ?_); conv => whnf)
  have s5 := ok_same (.cons (callsAt_same hc) (.cons (.refl _) .nil)) (late [m1, m2] 10)
  rw [go5] at s5
  refine call_by s5 ⟨_, _, _, rfl, callsAt_self _⟩ ?_
  rintro r ⟨len4, g4, rfl, hd⟩
  conv => whnf
  repeat ((first | with_reducible refine branch_true rfl ?_ | with_reducible refine branch_false rfl ?_); conv => whnf)
  have s6 := ok_same (.cons (callsAt_same hc) .nil) (clean [m1, m2])
  rw [go6] at s6
  refine call_by s6 ⟨_, _, _, rfl, callsAt_self _⟩ ?_
  rintro r ⟨len5, g5, rfl, he⟩
  obtain rfl : len3 = 2 := hc.1
  obtain rfl : len4 = 1 := hd.1
  obtain rfl : len5 = 1 := he.1
  have c0 : g3 0 = encC m1 := hc.2 0 (by decide)
  have c1 : g3 1 = encC m2 := hc.2 1 (by decide)
  have d0 : g4 0 = encC m1 := hd.2 0 (by decide)
  have e0 : g5 0 = encC m1 := he.2 0 (by decide)
  conv => whnf
  repeat ((first | with_reducible refine branch_true rfl ?_ | with_reducible refine branch_false rfl ?_); conv => whnf)
  refine force_by (v' := encC m1) c0 ?_
  conv => whnf
  repeat ((first | with_reducible refine branch_true rfl ?_ | with_reducible refine branch_false rfl ?_); conv => whnf)
  refine force_by (v' := encC m2) c1 ?_
  conv => whnf
  repeat ((first | with_reducible refine branch_true rfl ?_ | with_reducible refine branch_false rfl ?_); conv => whnf)
  refine force_by (v' := encC m1) d0 ?_
  conv => whnf
  repeat ((first | with_reducible refine branch_true rfl ?_ | with_reducible refine branch_false rfl ?_); conv => whnf)
  refine force_by (v' := encC m1) e0 ?_
  conv => whnf
  repeat ((first | with_reducible refine branch_true rfl ?_ | with_reducible refine branch_false rfl ?_); conv => whnf)
  refine force_by (v' := encC m1) c0 ?_
  conv => whnf
  repeat ((first | with_reducible refine branch_true rfl ?_ | with_reducible refine branch_false rfl ?_); conv => whnf)
  refine st_bin (a := encC m1) (b := encC m1) (v := .bool true) rfl rfl rfl (eqC_same m1) ?_
  conv => whnf
  repeat ((first | with_reducible refine branch_true rfl ?_ | with_reducible refine branch_false rfl ?_); conv => whnf)
  rfl
end Go.Proofs


set_option linter.unusedVariables false
set_option linter.unusedSimpArgs false
namespace Go.Proofs
open Ax Go
set_option maxRecDepth 10000
theorem meetS_len (l : List Cl) (cents : Int) (srt : List Cl) : (meetS l cents srt).1.length ≤ l.length := by
  unfold meetS
  cases decide (checkL l ≠ 0)
  · cases decide (cents < 0) || decide (1152921504606846976 < cents)
    · have : ∀ (r : List Cl) (p : List Cl × Int), (meetF r p).1.length = p.1.length := by
        intro r
        induction r with
        | nil => intro p; rfl
        | cons c r ih => intro p; rw [meetF, ih, bump_len]
      simp only [cond_false]
      exact Nat.le_of_eq (this _ _)
    · simp
  · simp
theorem exists_srt' (l : List Cl) (m a : ByteArray) : ∃ srt, (checkL l = 0 → AheadP srt) ∧ (checkL l = 0 → srt.Perm (mineL l m a)) := by
  by_cases hk : checkL l = 0
  · obtain ⟨s, h1, h2⟩ := exists_srt (mineL l m a) (mineL_ids (check_good hk).2.2 m a)
    exact ⟨s, fun _ => h1, fun _ => h2⟩
  · exact ⟨[], fun h => absurd h hk, fun h => absurd h hk⟩
theorem lawMeets : ∀ xs, TypedArgs Try.prog 8 Try.f4.params.toList xs → CallOK Try.prog 4 xs (fun r => r = .bool true) := by
  intro xs h
  rw [Try.params4] at h
  obtain ⟨a0, r0, rfl, h0, a1, r1, rfl, h1, a2, r2, rfl, h2, rfl⟩ := h
  obtain ⟨l, hs, hz, hn⟩ := arg_calls (d := 4) h0
  obtain ⟨m, a, rfl, hm, ha⟩ := arg_acc (d := 6) h1
  obtain ⟨cents, rfl, hc⟩ := arg_int (d := 7) h2
  refine ok_same (.cons hs (.cons (.refl _) (.cons (.refl _) .nil))) ?_
  refine okP ?_
  conv => whnf
  repeat ((first | with_reducible refine branch_true rfl ?_ | with_reducible refine branch_false rfl ?_); conv => whnf)
  refine branch_of (fun g1 => ?_) (fun g1 => ?_)
  · conv => whnf
    repeat ((first | with_reducible refine branch_true rfl ?_ | with_reducible refine branch_false rfl ?_); conv => whnf)
    refine call_is goesOK ?_
    conv => whnf
    repeat ((first | with_reducible refine branch_true rfl ?_ | with_reducible refine branch_false rfl ?_); conv => whnf)
  · have g1 : l.length ≤ 200 := by have := of_decide_eq_false g1; omega
    have hml := meetS_len l cents
    obtain ⟨srt, hr, hp⟩ : ∃ srt, (checkL l = 0 → AheadP srt) ∧ (checkL l = 0 → srt.Perm (mineL l m a)) := exists_srt' l m a
    have hml := meetS_len l cents srt
    conv => whnf
    repeat ((first | with_reducible refine branch_true rfl ?_ | with_reducible refine branch_false rfl ?_); conv => whnf)
    refine call_by (toCalls l (by omega)) ⟨_, _, _, rfl, callsAt_self _⟩ ?_
    rintro r ⟨len, g, rfl, hg⟩
    conv => whnf
    repeat ((first | with_reducible refine branch_true rfl ?_ | with_reducible refine branch_false rfl ?_); conv => whnf)
    refine call_by (ok_same (.cons (callsAt_same hg) (.cons (.refl _) (.cons (.refl _) .nil))) (meet l m a cents srt hr hp)) ⟨_, _, _, rfl, callsAt_self _⟩ ?_
    rintro r ⟨len2, g2, rfl, hg2⟩
    conv => whnf
    repeat ((first | with_reducible refine branch_true rfl ?_ | with_reducible refine branch_false rfl ?_); conv => whnf)
    refine call_by (refMeet l hz m a cents srt hr hp) ⟨_, _, _, rfl, callsAt_self _⟩ ?_
    rintro r ⟨len3, g3, rfl, hg3⟩
    conv => whnf
    repeat ((first | with_reducible refine branch_true rfl ?_ | with_reducible refine branch_false rfl ?_); conv => whnf)
    refine call_is (same_at hg2 hg3 (by omega)) ?_
    conv => whnf
    repeat ((first | with_reducible refine branch_true rfl ?_ | with_reducible refine branch_false rfl ?_); conv => whnf)
    refine branch_true (decide_eq_true rfl) ?_
    conv => whnf
    repeat ((first | with_reducible refine branch_true rfl ?_ | with_reducible refine branch_false rfl ?_); conv => whnf)
    refine branch_true (decide_eq_true rfl) ?_
    conv => whnf
    repeat ((first | with_reducible refine branch_true rfl ?_ | with_reducible refine branch_false rfl ?_); conv => whnf)
    refine call_is goesOK ?_
    conv => whnf
    repeat ((first | with_reducible refine branch_true rfl ?_ | with_reducible refine branch_false rfl ?_); conv => whnf)
    rfl
theorem filt_le (l : List Cl) (p : Cl → Bool) (hl : l.length ≤ 1100) : (l.filter p).length ≤ 100000 := by
  have := List.length_filter_le p l
  omega
theorem lawTells : ∀ xs, TypedArgs Try.prog 8 Try.f5.params.toList xs → CallOK Try.prog 5 xs (fun r => r = .bool true) := by
  intro xs h
  rw [Try.params5] at h
  obtain ⟨a0, r0, rfl, h0, a1, r1, rfl, h1, a2, r2, rfl, h2, rfl⟩ := h
  obtain ⟨l, hs, hz, hn⟩ := arg_calls (d := 4) h0
  obtain ⟨m, a, rfl, hm, ha⟩ := arg_acc (d := 6) h1
  obtain ⟨on, rfl, hc⟩ := arg_int (d := 7) h2
  refine ok_same (.cons hs (.cons (.refl _) (.cons (.refl _) .nil))) ?_
  refine okP ?_
  conv => whnf
  repeat ((first | with_reducible refine branch_true rfl ?_ | with_reducible refine branch_false rfl ?_); conv => whnf)
  refine branch_of (fun g1 => ?_) (fun g1 => ?_)
  · conv => whnf
    repeat ((first | with_reducible refine branch_true rfl ?_ | with_reducible refine branch_false rfl ?_); conv => whnf)
    refine call_is goesOK ?_
    conv => whnf
    repeat ((first | with_reducible refine branch_true rfl ?_ | with_reducible refine branch_false rfl ?_); conv => whnf)
  · have g1 : l.length ≤ 1100 := by have := of_decide_eq_false g1; omega
    have hll : (lateS l on).1.length ≤ 100000 := by
      unfold lateS
      cases decide (checkL l ≠ 0)
      · cases dayOK on
        · simp
        · exact filt_le l _ g1
      · simp
    have hcl : (cleanS l).1.length ≤ 100000 := by
      unfold cleanS
      cases decide (checkL l ≠ 0)
      · exact filt_le l _ g1
      · simp
    have vO := openC l m a
    have vR := refOpen l hz m a
    generalize openS l m a = V at vO vR
    conv => whnf
    repeat ((first | with_reducible refine branch_true rfl ?_ | with_reducible refine branch_false rfl ?_); conv => whnf)
    refine call_by (toCalls l (by omega)) ⟨_, _, _, rfl, callsAt_self _⟩ ?_
    rintro r ⟨len, g, rfl, hg⟩
    conv => whnf
    repeat ((first | with_reducible refine branch_true rfl ?_ | with_reducible refine branch_false rfl ?_); conv => whnf)
    refine call_is (ok_same (.cons (callsAt_same hg) (.cons (.refl _) .nil)) vO) ?_
    conv => whnf
    repeat ((first | with_reducible refine branch_true rfl ?_ | with_reducible refine branch_false rfl ?_); conv => whnf)
    refine call_is vR ?_
    conv => whnf
    repeat ((first | with_reducible refine branch_true rfl ?_ | with_reducible refine branch_false rfl ?_); conv => whnf)
    refine call_by (toCalls l (by omega)) ⟨_, _, _, rfl, callsAt_self _⟩ ?_
    rintro r ⟨len2, g2, rfl, hg2⟩
    conv => whnf
    repeat ((first | with_reducible refine branch_true rfl ?_ | with_reducible refine branch_false rfl ?_); conv => whnf)
    refine call_by (ok_same (.cons (callsAt_same hg2) (.cons (.refl _) .nil)) (late l on)) ⟨_, _, _, rfl, callsAt_self _⟩ ?_
    rintro r ⟨len3, g3, rfl, hg3⟩
    conv => whnf
    repeat ((first | with_reducible refine branch_true rfl ?_ | with_reducible refine branch_false rfl ?_); conv => whnf)
    refine call_by (refLate l hz on) ⟨_, _, _, rfl, callsAt_self _⟩ ?_
    rintro r ⟨len4, g4, rfl, hg4⟩
    conv => whnf
    repeat ((first | with_reducible refine branch_true rfl ?_ | with_reducible refine branch_false rfl ?_); conv => whnf)
    refine call_by (toCalls l (by omega)) ⟨_, _, _, rfl, callsAt_self _⟩ ?_
    rintro r ⟨len5, g5, rfl, hg5⟩
    conv => whnf
    repeat ((first | with_reducible refine branch_true rfl ?_ | with_reducible refine branch_false rfl ?_); conv => whnf)
    refine call_by (ok_same (.cons (callsAt_same hg5) .nil) (clean l)) ⟨_, _, _, rfl, callsAt_self _⟩ ?_
    rintro r ⟨len6, g6, rfl, hg6⟩
    conv => whnf
    repeat ((first | with_reducible refine branch_true rfl ?_ | with_reducible refine branch_false rfl ?_); conv => whnf)
    refine call_by (refClean l hz) ⟨_, _, _, rfl, callsAt_self _⟩ ?_
    rintro r ⟨len7, g7, rfl, hg7⟩
    conv => whnf
    repeat ((first | with_reducible refine branch_true rfl ?_ | with_reducible refine branch_false rfl ?_); conv => whnf)
    refine branch_true (decide_eq_true rfl) ?_
    conv => whnf
    repeat ((first | with_reducible refine branch_true rfl ?_ | with_reducible refine branch_false rfl ?_); conv => whnf)
    refine branch_true (decide_eq_true rfl) ?_
    conv => whnf
    repeat ((first | with_reducible refine branch_true rfl ?_ | with_reducible refine branch_false rfl ?_); conv => whnf)
    refine call_is (same_at hg3 hg4 hll) ?_
    conv => whnf
    repeat ((first | with_reducible refine branch_true rfl ?_ | with_reducible refine branch_false rfl ?_); conv => whnf)
    refine branch_true (decide_eq_true rfl) ?_
    conv => whnf
    repeat ((first | with_reducible refine branch_true rfl ?_ | with_reducible refine branch_false rfl ?_); conv => whnf)
    refine call_is (same_at hg6 hg7 hcl) ?_
    conv => whnf
    repeat ((first | with_reducible refine branch_true rfl ?_ | with_reducible refine branch_false rfl ?_); conv => whnf)
    refine branch_true (decide_eq_true rfl) ?_
    conv => whnf
    repeat ((first | with_reducible refine branch_true rfl ?_ | with_reducible refine branch_false rfl ?_); conv => whnf)
    refine call_is goesOK ?_
    conv => whnf
    repeat ((first | with_reducible refine branch_true rfl ?_ | with_reducible refine branch_false rfl ?_); conv => whnf)
    rfl
end Go.Proofs


set_option linter.unusedVariables false
set_option linter.unusedSimpArgs false
namespace Go.Proofs
open Ax Go
set_option maxRecDepth 10000
theorem typed_array {P : Program} {d n : Nat} {t e : TypeId} {es : List AV} (ht : P.underlying t = some (.array n e)) (h : Typed P (d + 1) t es) : TypedN (Typed P d e) n es := by
  unfold Typed at h
  rw [ht] at h
  exact h
theorem arg_two {d : Nat} {a : AV} (h : TypedAV Try.prog (d + 2) 25 a) : ∃ x y : Int, a = .agg [.int .i64 x, .int .i64 y] := by
  obtain ⟨es, h1, h2, h3⟩ := h
  obtain ⟨a0, r0, rfl, k0, a1, r1, rfl, k1, rfl⟩ := typed_array Try.underlying25 h3
  obtain ⟨x, rfl, _⟩ := typed_int Try.underlying3 k0
  obtain ⟨y, rfl, _⟩ := typed_int Try.underlying3 k1
  exact ⟨x, y, h1⟩
theorem makeS_len (l : List Cl) (m a : ByteArray) (n d : Int) : (makeS l m a n d).1.length ≤ l.length + 1 := by
  unfold makeS
  cases decide (checkL l ≠ 0)
  · cases decide (askE m a n 0 d ≠ 0)
    · cases decide (l.length = 1024) || decide (lastId l = 1152921504606846976)
      · simp
      · simp
    · simp
  · simp
theorem lawMakes : ∀ xs, TypedArgs Try.prog 8 Try.f3.params.toList xs → CallOK Try.prog 3 xs (fun r => r = .bool true) := by
  intro xs h
  rw [Try.params3] at h
  obtain ⟨a0, r0, rfl, h0, a1, r1, rfl, h1, a2, r2, rfl, h2, rfl⟩ := h
  obtain ⟨l, hs, hz, hn⟩ := arg_calls (d := 4) h0
  obtain ⟨m, a, rfl, hm, ha⟩ := arg_acc (d := 6) h1
  obtain ⟨x, y, rfl⟩ := arg_two (d := 6) h2
  refine ok_same (.cons hs (.cons (.refl _) (.cons (.refl _) .nil))) ?_
  refine okP ?_
  conv => whnf
  repeat ((first | with_reducible refine branch_true rfl ?_ | with_reducible refine branch_false rfl ?_); conv => whnf)
  refine branch_of (fun g1 => ?_) (fun g1 => ?_)
  · conv => whnf
    repeat ((first | with_reducible refine branch_true rfl ?_ | with_reducible refine branch_false rfl ?_); conv => whnf)
    refine call_is goesOK ?_
    conv => whnf
    repeat ((first | with_reducible refine branch_true rfl ?_ | with_reducible refine branch_false rfl ?_); conv => whnf)
  · have g1 : l.length ≤ 1100 := by have := of_decide_eq_false g1; omega
    have hml := makeS_len l m a x y
    conv => whnf
    repeat ((first | with_reducible refine branch_true rfl ?_ | with_reducible refine branch_false rfl ?_); conv => whnf)
    refine call_by (toCalls l (by omega)) ⟨_, _, _, rfl, callsAt_self _⟩ ?_
    rintro r ⟨len, g, rfl, hg⟩
    conv => whnf
    repeat ((first | with_reducible refine branch_true rfl ?_ | with_reducible refine branch_false rfl ?_); conv => whnf)
    refine call_by (ok_same (.cons (callsAt_same hg) (.cons (.refl _) (.cons (.refl _) (.cons (.refl _) .nil)))) (make l m a x y)) ⟨_, _, _, rfl, callsAt_self _⟩ ?_
    rintro r ⟨len2, g2, rfl, hg2⟩
    conv => whnf
    repeat ((first | with_reducible refine branch_true rfl ?_ | with_reducible refine branch_false rfl ?_); conv => whnf)
    refine call_by (refMake l hz m a hm ha x y) ⟨_, _, _, rfl, callsAt_self _⟩ ?_
    rintro r ⟨len3, g3, rfl, hg3⟩
    conv => whnf
    repeat ((first | with_reducible refine branch_true rfl ?_ | with_reducible refine branch_false rfl ?_); conv => whnf)
    refine call_is (same_at hg2 hg3 (by omega)) ?_
    conv => whnf
    repeat ((first | with_reducible refine branch_true rfl ?_ | with_reducible refine branch_false rfl ?_); conv => whnf)
    refine branch_true (decide_eq_true rfl) ?_
    conv => whnf
    repeat ((first | with_reducible refine branch_true rfl ?_ | with_reducible refine branch_false rfl ?_); conv => whnf)
    refine branch_true (decide_eq_true rfl) ?_
    conv => whnf
    repeat ((first | with_reducible refine branch_true rfl ?_ | with_reducible refine branch_false rfl ?_); conv => whnf)
    refine call_by (toCalls l (by omega)) ⟨_, _, _, rfl, callsAt_self _⟩ ?_
    rintro r ⟨len4, g4, rfl, hg4⟩
    conv => whnf
    repeat ((first | with_reducible refine branch_true rfl ?_ | with_reducible refine branch_false rfl ?_); conv => whnf)
    refine call_is (ok_same (.cons (callsAt_same hg4) .nil) (check l)) ?_
    conv => whnf
    repeat ((first | with_reducible refine branch_true rfl ?_ | with_reducible refine branch_false rfl ?_); conv => whnf)
    refine call_is (refCheck l hz) ?_
    conv => whnf
    repeat ((first | with_reducible refine branch_true rfl ?_ | with_reducible refine branch_false rfl ?_); conv => whnf)
    refine branch_true (decide_eq_true rfl) ?_
    conv => whnf
    repeat ((first | with_reducible refine branch_true rfl ?_ | with_reducible refine branch_false rfl ?_); conv => whnf)
    refine call_is goesOK ?_
    conv => whnf
    repeat ((first | with_reducible refine branch_true rfl ?_ | with_reducible refine branch_false rfl ?_); conv => whnf)
    rfl
end Go.Proofs

