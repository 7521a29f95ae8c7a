import Derived.Test.YtflebdkgdnfjoaaGreatME
import Derived.ChangeArms
import Derived.DataReads
import Derived.OpenShut
import Derived.ChangeOld
import Derived.ShutString
import Derived.Carry
import Derived.SizedLaws
set_option linter.unusedVariables false
set_option linter.unusedSimpArgs false
namespace Ax
open Go Go.RowKit Go.ChangeShapes Go.WideShapes
def aggT (P : Program) (t : TypeId) : Bool := match P.underlying t with
  | some (.struct _) => true
  | some (.array _ _) => true
  | _ => false
def contig (P : Program) : Nat → List Field → Option Nat
  | n, [] => some n
  | n, f :: r => if f.offset = n then contig P (n + P.cellsOf f.type) r else none
def plain (P : Program) : Nat → TypeId → Bool
  | 0, _ => false
  | d + 1, t => match P.underlying t with
    | some .bool => true
    | some (.int _) => true
    | some .string => true
    | some (.struct fs) => contig P 0 fs.toList == some (P.cellsOf t) && fs.toList.all fun f => plain P d f.type
    | some (.slice e) => decide (0 < P.cellsOf e) && plain P d e
    | some (.array n e) => decide (P.cellsOf t = n * P.cellsOf e) && plain P d e
    | _ => false
def TypedL (T : TypeId → List AV → Prop) : List Field → List AV → Prop
  | [], as => as = []
  | f :: r, as => ∃ a b, as = a ++ b ∧ T f.type a ∧ TypedL T r b
def TypedN (T : List AV → Prop) : Nat → List AV → Prop
  | 0, as => as = []
  | n + 1, as => ∃ a b, as = a ++ b ∧ T a ∧ TypedN T n b
def Typed (P : Program) : Nat → TypeId → List AV → Prop
  | 0, _, _ => False
  | d + 1, t, as => match P.underlying t with
    | some .bool => ∃ b, as = [.bool b]
    | some (.int k) => ∃ n, as = [.int k n] ∧ (Lit.int k n).wf = true
    | some .string => ∃ s : ByteArray, as = [.str s] ∧ s.size ≤ maxLen
    | some (.struct fs) => TypedL (Typed P d) fs.toList as
    | some (.slice e) => ∃ n g, as = [.vec (P.cellsOf e) n g] ∧ (n ≤ maxLen ∧ n * P.bytesOf e ≤ reachBytes) ∧ ∀ i, i < n → ∃ es, g i = (if aggT P e then .agg es else es.headD .undef) ∧ (g i).cells = es ∧ Typed P d e es
    | some (.array n e) => TypedN (Typed P d e) n as
    | _ => False
def roomOf (w : World) (b : Nat) : Nat := match w.heap[b]? with
  | some (.cells c _ _) => c.size
  | _ => 0
theorem lt_room {w : World} {a : Addr} {v : Value} (h : w.cell? a = some v) : a.spot = none ∧ a.off < roomOf w a.block := by
  unfold World.cell? at h
  unfold roomOf
  split at h
  · rename_i c _ _ he
    rw [he]
    split at h
    · exact absurd h (by simp)
    · rename_i hs
      exact ⟨by simpa using hs, by simpa using (Array.getElem?_eq_some_iff.1 h).1⟩
  · exact absurd h (by simp)
abbrev F0 : Nat → Prop := fun _ => False
def RepEach (w : World) (as : List AV) (cs : List Value) : Prop := as.length = cs.length ∧ ∀ (i : Nat) a c, as[i]? = some a → cs[i]? = some c → Rep w F0 (roomOf w) [] a c ∧ c.oneCell' = true
theorem RepEach.app {w : World} {a b : List AV} {c d : List Value} (h : RepEach w a c) (k : RepEach w b d) : RepEach w (a ++ b) (c ++ d) := by
  refine ⟨by simp [h.1, k.1], fun i x y hx hy => ?_⟩
  by_cases hi : i < a.length
  · rw [List.getElem?_append_left hi] at hx
    rw [List.getElem?_append_left (by rw [← h.1]; exact hi)] at hy
    exact h.2 i x y hx hy
  · rw [List.getElem?_append_right (by omega)] at hx
    rw [List.getElem?_append_right (by rw [← h.1]; omega), ← h.1] at hy
    exact k.2 _ x y hx hy
theorem RepEach.one {w : World} {a : AV} {c : Value} (h : Rep w F0 (roomOf w) [] a c) (hc : c.oneCell' = true) : RepEach w [a] [c] :=
  ⟨rfl, fun i x y hx hy => by cases i with
    | zero => simp at hx hy; subst hx; subst hy; exact ⟨h, hc⟩
    | succ i => simp at hx⟩
theorem typed_cells {P : Program} {d : Nat} {t : TypeId} {es : List AV} (h : Typed P d t es) (ha : aggT P t = false) : ∃ a, es = [a] ∧ a.cells = [a] := by
  cases d with
  | zero => exact absurd h (by simp [Typed])
  | succ d =>
    unfold Typed at h
    unfold aggT at ha
    split at h
    · obtain ⟨b, rfl⟩ := h; exact ⟨_, rfl, rfl⟩
    · obtain ⟨b, rfl, _⟩ := h; exact ⟨_, rfl, rfl⟩
    · obtain ⟨b, rfl, _⟩ := h; exact ⟨_, rfl, rfl⟩
    · rename_i he; rw [he] at ha; simp at ha
    · obtain ⟨b, _, rfl, _⟩ := h; exact ⟨_, rfl, rfl⟩
    · rename_i he; rw [he] at ha; simp at ha
    · exact absurd h (by simp)
variable {H : Type} {enc : TypeId × Value → H} {P : Program} {w : World} {base : Nat} {spare : Nat → Bool} {held : Bool}
theorem weights_mem_all {H : Type} {P : Program} {e : TypeId} : ∀ {ds : List (DataW H)} {d : DataW H}, d ∈ ds → ∀ n ∈ d.weights P e, n ∈ DataW.weightsAll P e ds
  | d0 :: ds, d, h, n, hn => by
    simp only [DataW.weightsAll, List.mem_append]
    rcases List.mem_cons.1 h with rfl | h
    · exact .inl hn
    · exact .inr (weights_mem_all h n hn)
theorem trod_fields {n d : Nat} {cs : List Value}
    (ih : ∀ {t cs x}, plain P d t = true → DataW.trod enc P w base spare held n t cs = some x → (∀ m ∈ x.1.weights P t, m ≤ reachBytes) → ∃ as, RepEach w as cs ∧ Typed P d t as) :
    ∀ (fs : List Field) (o : Nat), contig P o fs = some cs.length → fs.all (fun f => plain P d f.type) = true → (∀ (i : Nat) f, fs[i]? = some f → ∃ x, DataW.trod enc P w base spare held n f.type ((cs.drop f.offset).take (P.cellsOf f.type)) = some x ∧ ∀ m ∈ x.1.weights P f.type, m ≤ reachBytes) →
      o ≤ cs.length ∧ ∃ as, RepEach w as (cs.drop o) ∧ TypedL (Typed P d) fs as := by
  intro fs
  induction fs with
  | nil =>
    intro o hc _ _
    simp only [contig, Option.some.injEq] at hc
    subst hc
    exact ⟨Nat.le_refl _, [], by simp [RepEach], rfl⟩
  | cons f r ihr =>
    intro o hc hp hf
    unfold contig at hc
    split at hc
    · rename_i ho
      simp only [List.all_cons, Bool.and_eq_true] at hp
      obtain ⟨hle, as, h1, h2⟩ := ihr _ hc hp.2 (fun i f' hf' => hf (i + 1) f' (by simpa using hf'))
      obtain ⟨x, hx, hx2⟩ := hf 0 f (by simp)
      obtain ⟨es, k1, k2⟩ := ih hp.1 hx hx2
      refine ⟨by omega, es ++ as, ?_, es, as, rfl, k2, h2⟩
      have e : cs.drop o = (cs.drop f.offset).take (P.cellsOf f.type) ++ cs.drop (o + P.cellsOf f.type) := by
        rw [ho, ← List.drop_drop, List.take_append_drop]
      rw [e]
      exact k1.app h1
    · simp at hc
theorem trod_elems {n d : Nat} {e : TypeId} {cs : List Value}
    (ih : ∀ {t cs x}, plain P d t = true → DataW.trod enc P w base spare held n t cs = some x → (∀ m ∈ x.1.weights P t, m ≤ reachBytes) → ∃ as, RepEach w as cs ∧ Typed P d t as) (hp : plain P d e = true) :
    ∀ (m o : Nat), cs.length = o + m * P.cellsOf e → (∀ i, i < m → ∃ x, DataW.trod enc P w base spare held n e ((cs.drop (o + i * P.cellsOf e)).take (P.cellsOf e)) = some x ∧ ∀ m ∈ x.1.weights P e, m ≤ reachBytes) → ∃ as, RepEach w as (cs.drop o) ∧ TypedN (Typed P d e) m as := by
  intro m
  induction m with
  | zero =>
    intro o hl _
    exact ⟨[], by rw [Nat.zero_mul, Nat.add_zero] at hl; rw [← hl, List.drop_length]; simp [RepEach], rfl⟩
  | succ m ihm =>
    intro o hl hx
    obtain ⟨x, hx0, hx1⟩ := hx 0 (by omega)
    rw [Nat.zero_mul, Nat.add_zero] at hx0
    obtain ⟨es, k1, k2⟩ := ih hp hx0 hx1
    obtain ⟨as, h1, h2⟩ := ihm (o + P.cellsOf e) (by rw [hl, Nat.add_mul, Nat.one_mul]; omega) (fun i hi => by
      have := hx (i + 1) (by omega)
      rw [Nat.add_mul, Nat.one_mul, show o + (i * P.cellsOf e + P.cellsOf e) = o + P.cellsOf e + i * P.cellsOf e by omega] at this
      exact this)
    refine ⟨es ++ as, ?_, es, as, rfl, k2, h2⟩
    have e1 : cs.drop o = (cs.drop o).take (P.cellsOf e) ++ cs.drop (o + P.cellsOf e) := by
      rw [← List.drop_drop, List.take_append_drop]
    rw [e1]
    exact k1.app h1
theorem trod_rep : ∀ (d : Nat) {fuel : Nat} {t : TypeId} {cs : List Value} {x : DataW H × List MemPlace}, plain P d t = true → DataW.trod enc P w base spare held fuel t cs = some x → (∀ m ∈ x.1.weights P t, m ≤ reachBytes) → ∃ as, RepEach w as cs ∧ Typed P d t as := by
  intro d
  induction d with
  | zero => intro fuel t cs x hp; exact absurd hp (by simp [plain])
  | succ d ih =>
    intro fuel t cs x hp h hz
    unfold plain at hp
    unfold Typed
    split at hp
    · rename_i ht
      obtain ⟨b, rfl, _⟩ := DataW.trod_bool ht h
      exact ⟨_, .one .bool rfl, b, rfl⟩
    · rename_i k ht
      obtain ⟨b, rfl, _, hb⟩ := DataW.trod_int ht h
      exact ⟨_, .one .int rfl, b, rfl, hb⟩
    · rename_i ht
      obtain ⟨b, rfl, _, hb⟩ := DataW.trod_string ht h
      exact ⟨_, .one .str rfl, b, rfl, hb⟩
    · rename_i fs ht
      obtain ⟨xs, n, rfl, hxe, hl, hlen, hf⟩ := DataW.trod_struct ht h
      rw [hxe] at hz
      simp only [Bool.and_eq_true, beq_iff_eq] at hp
      obtain ⟨_, as, h1, h2⟩ := trod_fields (cs := cs) (n := n) (enc := enc) (P := P) (w := w) (base := base) (spare := spare) (held := held) (fun hp' h' hz' => ih hp' h' hz') fs.toList 0 (by rw [hl]; exact hp.1) hp.2 (fun i f hf' => by
        have hi : i < xs.length := by
          have := (List.getElem?_eq_some_iff.1 hf').1
          rw [hlen]; simpa using this
        have e := hf i f (by simpa using hf')
        rw [List.getElem?_eq_getElem hi] at e
        refine ⟨_, e, fun m hm => hz m ?_⟩
        show m ∈ DataW.weights P _ (DataW.agg _)
        rw [DataW.weights, ht]
        dsimp only
        exact DataW.weights_mem_each (j := i) (by rw [List.getElem?_map, hf']; rfl) (by rw [List.getElem?_map, List.getElem?_eq_getElem hi]; rfl) m hm)
      exact ⟨as, by simpa using h1, h2⟩
    · rename_i e ht
      simp only [Bool.and_eq_true, decide_eq_true_eq] at hp
      rcases DataW.trod_slice ht h with ⟨rfl, _⟩ | ⟨a, len, cap, elems, rest, n, rfl, rfl, hxe, hb, hl, hm, hlen, hel, _, _⟩
      · refine ⟨[.vec (P.cellsOf e) 0 fun _ => .undef], .one (.vec (Nat.le_refl _) (fun _ _ => .nilIface) (fun hn => absurd hn (by omega)) (fun i hi => absurd hi (by omega)) (fun i j hi => absurd hi (by omega)) (fun i j c hi => absurd hi (by omega))) rfl, 0, _, rfl, ⟨Nat.zero_le _, by rw [Nat.zero_mul]; exact Nat.zero_le _⟩, fun i hi => absurd hi (by omega)⟩
      · rw [hxe] at hz
        have hwt : len * P.bytesOf e ≤ reachBytes := by
          refine Nat.le_trans (Nat.mul_le_mul_right _ ?_) (hz (((elems.map (·.1)).length + (rest.map (·.1)).length) * P.bytesOf e) ?_)
          · rw [List.length_map]; omega
          · show _ ∈ DataW.weights P _ (DataW.slice _ _)
            rw [DataW.weights, ht]
            exact List.mem_cons_self
        have each : ∀ i, ∃ p : List AV × List Value, i < len → p.2.length = P.cellsOf e ∧ (∀ j, j < P.cellsOf e → w.cell? ((a.add (i * P.cellsOf e)).add j) = p.2[j]?) ∧ RepEach w p.1 p.2 ∧ Typed P d e p.1 := by
          intro i
          by_cases hi : i < len
          · have k := hel i hi
            rw [List.getElem?_eq_getElem (by omega), Option.bind_eq_some_iff] at k
            obtain ⟨cs', hcs, hy⟩ := k
            obtain ⟨_, k1, k2⟩ := World.cells?_some hcs
            obtain ⟨as, h1, h2⟩ := ih hp.2 hy (fun m hm => hz m (by
              show m ∈ DataW.weights P _ (DataW.slice _ _)
              rw [DataW.weights, ht]
              dsimp only
              simp only [List.mem_cons, List.mem_append]
              exact .inr (.inl (weights_mem_all (List.mem_map.2 ⟨_, List.getElem_mem (by omega), rfl⟩) m hm))))
            exact ⟨(as, cs'), fun _ => ⟨k1, k2, h1, h2⟩⟩
          · exact ⟨([], []), fun h => absurd h hi⟩
        obtain ⟨G, hG⟩ := Classical.axiomOfChoice each
        have hcell0 : ∀ i j, i < len → j < P.cellsOf e → w.cell? ((a.add (i * P.cellsOf e)).add j) = (G i).2[j]? := fun i j hi hj => (hG i hi).2.1 j hj
        have hval : ∀ i j, i < len → j < P.cellsOf e → (G i).2[j]? = some ((G i).2.getD j .nilIface) := fun i j hi hj => by
          have : j < (G i).2.length := by rw [(hG i hi).1]; exact hj
          simp [List.getD, this]
        have hsp : 0 < len → a.spot = none := fun hn => by
          have := hcell0 0 0 hn hp.1
          rw [hval 0 0 hn hp.1] at this
          have := (lt_room this).1
          simpa [Addr.add] using this
        have hcell : ∀ i j, i < len → j < P.cellsOf e → w.cell? ⟨a.block, a.off + i * P.cellsOf e + j, none⟩ = (G i).2[j]? := fun i j hi hj => by
          have h1 := hcell0 i j hi hj
          have h2 := hsp (by omega)
          have : ∀ (x : Addr) (k : Nat), x.spot = none → x.add k = ⟨x.block, x.off + k, none⟩ := fun x k hx => by
            unfold Addr.add
            split
            · rename_i hk; cases x; simp at hx hk ⊢; subst hx; subst hk; simp
            · rfl
          rw [this a _ h2, this _ _ rfl] at h1
          exact h1
        have cellsE : ∀ i, i < len → AV.cells (if aggT P e then .agg (G i).1 else (G i).1.headD .undef) = (G i).1 := fun i hi => by
          by_cases hag : aggT P e = true
          · simp [hag, AV.cells]
          · obtain ⟨a', e1, e2⟩ := typed_cells (hG i hi).2.2.2 (by simpa using hag)
            simp [hag, e1, e2]
        refine ⟨[.vec (P.cellsOf e) len fun i => if aggT P e then .agg (G i).1 else (G i).1.headD .undef], .one (.vec hl (fun i j => (G i).2.getD j .nilIface) (fun hn => ⟨hp.1, a, rfl, ?_, id, ?_, ?_⟩) (fun i hi => ?_) (fun i j hi hj => ?_) (fun i j c hi hc => ?_)) rfl, len, _, rfl, ⟨Nat.le_trans hl hm, hwt⟩, fun i hi => ⟨(G i).1, rfl, cellsE i hi, (hG i hi).2.2.2⟩⟩
        · exact hsp hn
        · have hj : P.cellsOf e - 1 < P.cellsOf e := by omega
          have hi : len - 1 < len := by omega
          have := hcell (len - 1) (P.cellsOf e - 1) hi hj
          rw [hval _ _ hi hj] at this
          have hlt := (lt_room this).2
          simp only at hlt
          have e2 : len * P.cellsOf e = (len - 1) * P.cellsOf e + P.cellsOf e := by
            conv => lhs; rw [show len = (len - 1) + 1 by omega, Nat.add_mul, Nat.one_mul]
          omega
        · intro i j hi hj
          have := hcell i j hi hj
          rw [hval i j hi hj] at this
          exact this
        · rw [cellsE i hi, (hG i hi).2.2.1.1, (hG i hi).1]
        · have hj' : j < (G i).1.length := by rw [(hG i hi).2.2.1.1, (hG i hi).1]; exact hj
          exact ((hG i hi).2.2.1.2 j _ _ (List.getElem?_eq_getElem hj') (hval i j hi hj)).2
        · rw [cellsE i hi] at hc
          have hj : j < P.cellsOf e := by
            have := (List.getElem?_eq_some_iff.1 hc).1
            rw [(hG i hi).2.2.1.1, (hG i hi).1] at this
            exact this
          exact ((hG i hi).2.2.1.2 j c _ hc (hval i j hi hj)).1
    · rename_i m e ht
      obtain ⟨xs, n, rfl, hxe, hl, hlen, hf⟩ := DataW.trod_array ht h
      rw [hxe] at hz
      simp only [Bool.and_eq_true, decide_eq_true_eq] at hp
      obtain ⟨as, h1, h2⟩ := trod_elems (cs := cs) (n := n) (enc := enc) (P := P) (w := w) (base := base) (spare := spare) (held := held) (fun hp' h' hz' => ih hp' h' hz') hp.2 m 0 (by rw [hl, hp.1]; omega) (fun i hi => by
        have e := hf i hi
        rw [List.getElem?_eq_getElem (by omega)] at e
        rw [Nat.zero_add]
        refine ⟨_, e, fun m hm => hz m ?_⟩
        show m ∈ DataW.weights P _ (DataW.agg _)
        rw [DataW.weights, ht]
        dsimp only
        exact weights_mem_all (List.mem_map.2 ⟨_, List.getElem_mem (by omega), rfl⟩) m hm)
      exact ⟨as, by simpa using h1, h2⟩
    · exact absurd hp (by simp)
theorem okWide_array {r : Reach} {b0 n : Nat} {t e : TypeId} {v : Value} (ht : P.underlying t = some (.array n e)) (h : Value.okWide P w r b0 t v) : ∃ cs, v = .agg cs ∧ cs.size = P.cellsOf t := by
  simp only [Value.okWide, ht] at h
  obtain ⟨cs, h1, h2, _⟩ := h
  exact ⟨cs, h1, h2⟩
def TypedAV (P : Program) (d : Nat) (t : TypeId) (a : AV) : Prop := ∃ es, a = (if aggT P t then .agg es else es.headD .undef) ∧ a.cells = es ∧ Typed P d t es
theorem value_rep {d : Nat} {t : TypeId} {v : Value} {r : Reach} {b0 : Nat} {x : DataW H} {p : List MemPlace} (hp : plain P d t = true) (hval : Value.okWide P w r b0 t v) (h : DataW.Trod enc P w base spare held t v x p) (hz : ∀ m ∈ x.weights P t, m ≤ reachBytes) :
    ∃ a, Rep w F0 (roomOf w) [] a v ∧ TypedAV P d t a := by
  obtain ⟨fuel, h⟩ := h
  obtain ⟨es, h1, h2⟩ := trod_rep d hp h hz
  cases d with
  | zero => exact absurd hp (by simp [plain])
  | succ d =>
    have one : ∀ {c : Value}, v.cells = #[c] → v = c → aggT P t = false → ∃ a, Rep w F0 (roomOf w) [] a v ∧ TypedAV P (d + 1) t a := by
      intro c hc hv ha
      obtain ⟨a, rfl, e2⟩ := typed_cells h2 ha
      refine ⟨a, ?_, [a], by simp [ha], e2, h2⟩
      rw [hv]
      exact (h1.2 0 a c rfl (by simp [hc])).1
    unfold plain at hp
    split at hp
    · rename_i ht
      obtain ⟨b, rfl⟩ := okWide_bool ht hval
      exact one rfl rfl (by simp [aggT, ht])
    · rename_i k ht
      obtain ⟨b, rfl⟩ := okWide_int ht hval
      exact one rfl rfl (by simp [aggT, ht])
    · rename_i ht
      obtain ⟨b, rfl⟩ := okWide_string ht hval
      exact one rfl rfl (by simp [aggT, ht])
    · rename_i fs ht
      obtain ⟨cs, rfl, hn⟩ := okWide_struct ht hval
      refine ⟨.agg es, ?_, es, by simp [aggT, ht], rfl, h2⟩
      refine .agg (by simpa [Value.cells] using h1.1) fun i x y hx hy => (h1.2 i x y hx (by simpa [Value.cells] using hy)).1
    · rename_i e ht
      obtain ⟨a, l, c, rfl⟩ := okWide_slice ht hval
      exact one rfl rfl (by simp [aggT, ht])
    · rename_i m e ht
      obtain ⟨cs, rfl, hn⟩ := okWide_array ht hval
      refine ⟨.agg es, ?_, es, by simp [aggT, ht], rfl, h2⟩
      refine .agg (by simpa [Value.cells] using h1.1) fun i x y hx hy => (h1.2 i x y hx (by simpa [Value.cells] using hy)).1
    · exact absurd hp (by simp)
def TypedArgs (P : Program) (d : Nat) : List TypeId → List AV → Prop
  | [], as => as = []
  | t :: ts, as => ∃ a r, as = a :: r ∧ TypedAV P d t a ∧ TypedArgs P d ts r
theorem args_rep {d : Nat} {r : Reach} {b0 : Nat} : ∀ (ts : List TypeId) {vs : List Value} {ds : List (DataW H)} {p : List MemPlace}, ts.all (plain P d) = true → (∀ (j : Nat) t v, ts[j]? = some t → vs[j]? = some v → Value.okWide P w r b0 t v) →
    DataW.TrodAll enc P w base spare held ts vs ds p → (∀ m ∈ DataW.weightsEach P ts ds, m ≤ reachBytes) → ∃ as, RepL w F0 (roomOf w) [] as vs ∧ TypedArgs P d ts as := by
  intro ts
  induction ts with
  | nil =>
    intro vs ds p _ _ h _
    obtain ⟨rfl, rfl, rfl⟩ := trodAll_nil h
    exact ⟨[], .nil, rfl⟩
  | cons t ts ih =>
    intro vs ds p hp hval h hz
    obtain ⟨v, vs', x, ds', q, q', rfl, rfl, rfl, h1, h2⟩ := trodAll_cons h
    simp only [List.all_cons, Bool.and_eq_true] at hp
    obtain ⟨as, k1, k2⟩ := ih hp.2 (fun j t' v' hj hv => hval (j + 1) t' v' (by simpa using hj) (by simpa using hv)) h2 (fun m hm => hz m (by simp only [DataW.weightsEach, List.mem_append]; exact .inr hm))
    obtain ⟨a, l1, l2⟩ := value_rep hp.1 (hval 0 t v rfl rfl) h1 (fun m hm => hz m (by simp only [DataW.weightsEach, List.mem_append]; exact .inl hm))
    exact ⟨a :: as, .cons l1 k1, a, as, rfl, l2, k2⟩
theorem args_stay (hl : laidOutB P = true) {w' : World} : ∀ (ts : List TypeId) {vs : List Value} {ds : List (DataW H)} {p : List MemPlace}, (ts.all fun t => P.readableRec t && decide (t < P.types.size)) = true →
    DataW.TrodAll enc P w 0 (fun _ => true) true ts vs ds p → Below w.heap.size w w' → DataW.TrodAll enc P w' 0 (fun b => decide (b < w.heap.size)) true ts vs ds p := by
  intro ts
  induction ts with
  | nil =>
    intro vs ds p _ h _
    obtain ⟨rfl, rfl, rfl⟩ := trodAll_nil h
    rfl
  | cons t ts ih =>
    intro vs ds p hp h hb
    obtain ⟨v, vs', x, ds', q, q', rfl, rfl, rfl, h1, h2⟩ := trodAll_cons h
    simp only [List.all_cons, Bool.and_eq_true, decide_eq_true_eq] at hp
    have hlt : ∀ x ∈ q, x.block < w.heap.size := by
      obtain ⟨m, hm⟩ := h1
      exact DataW.trod_lt m _ _ _ hm
    exact trodAll_cons_mk (Below.trod hl hp.1.1 hp.1.2 h1 hb hlt) (ih hp.2 h2 hb)
theorem Ext.below {w w' : World} {U U' : Nat → Nat} (h : Ext w U w' U') : Below w.heap.size w w' := ⟨h.os, h.tape, h.output, h.size, fun k hk => (h.block k hk).1⟩
theorem row_calls {d : Nat} {f : FuncId} {r : Reach} {b0 : Nat} (hl : laidOutB P = true) {ts : List TypeId} {args : Array Value} {ds : List (DataW H)} {p : List MemPlace} (hp : ts.all (plain P d) = true) (hr : (ts.all fun t => P.readableRec t && decide (t < P.types.size)) = true)
    (hval : ∀ (j : Nat) t v, ts[j]? = some t → args.toList[j]? = some v → Value.okWide P w r b0 t v) (hA : DataW.TrodAll enc P w 0 (fun _ => true) true ts args.toList ds p)
    (hz : ∀ m ∈ DataW.weightsEach P ts ds, m ≤ reachBytes) (law : ∀ as, TypedArgs P d ts as → CallOK P f as (fun r => r = .bool true)) :
    Calls P f args w fun e w' => e = .returned (.bool true) ∧ Below w.heap.size w w' ∧ DataW.TrodAll enc P w' 0 (fun b => decide (b < w.heap.size)) true ts args.toList ds p := by
  obtain ⟨as, h1, h2⟩ := args_rep ts hp hval hA hz
  refine ((law as h2).2 w F0 (roomOf w) args (fun b h => h.elim) h1).mono ?_
  rintro e w' ⟨r, x, U', own, rfl, hext, hrep, _, _, rfl⟩
  cases hrep
  exact ⟨rfl, hext.below, args_stay hl ts hr hA hext.below⟩
end Ax
