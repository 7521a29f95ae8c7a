import Derived.Test.YtflebdkgdnfjoaaGreatMD
set_option linter.unusedVariables false
set_option linter.unusedSimpArgs false
namespace Ax
open Go Go.RowKit
section
variable {P : Program} {w : World} {F : Nat → Prop} {U : Nat → Nat} {bl : Blocks} {B : Nat}
theorem zeroFits_of {e : TypeId} (h : zeroFits P e = true) : ∃ i z, P.info? e = some i ∧ i.zero = some z ∧ z.cells.size = tySz P e := by
  unfold zeroFits at h
  cases hi : P.info? e with
  | none => simp [hi] at h
  | some i =>
    cases hz : i.zero with
    | none => simp [hi, hz] at h
    | some z => simp [hi, hz] at h; exact ⟨i, z, rfl, hz, by rw [h]; simp [tySz, hi]⟩
theorem two_rows {sz n m : Nat} {g g' : Nat → AV} {z : AV} {os cs : List Value} (rest : Array Value)
    (ho : os.length = n * sz) (hc : cs.length = m * sz)
    (h1 : ∀ (i j : Nat) c, i < n → (g i).cells[j]? = some c → ∃ y, os[i * sz + j]? = some y ∧ Rep w F U [] c y)
    (h2 : ∀ (i j : Nat) c, i < m → (g' i).cells[j]? = some c → ∃ y, cs[i * sz + j]? = some y ∧ Rep w F U [] c y)
    (s1 : ∀ i, i < n → (g i).cells.length = sz) (s2 : ∀ i, i < m → (g' i).cells.length = sz) :
    (∀ i, i < n + m → (vapp z g n g' m i).cells.length = sz) ∧
    ∀ (i j : Nat) c, i < n + m → (vapp z g n g' m i).cells[j]? = some c → ∃ y, (os.toArray ++ cs.toArray ++ rest)[i * sz + j]? = some y ∧ Rep w F U [] c y := by
  refine ⟨fun i hi => ?_, fun i j c hi hj => ?_⟩
  · rw [vapp_get]; split
    · exact s1 i ‹_›
    · exact s2 _ (by omega)
  · rw [vapp_get] at hj
    split at hj
    · rename_i hlt
      obtain ⟨y, hy, hr⟩ := h1 i j c hlt hj
      refine ⟨y, ?_, hr⟩
      have hl := (List.getElem?_eq_some_iff.1 hy).1
      rw [Array.getElem?_append_left (by simp; omega), Array.getElem?_append_left (by simpa using hl)]
      simpa using hy
    · rename_i hge
      obtain ⟨y, hy, hr⟩ := h2 (i - n) j c (by omega) hj
      refine ⟨y, ?_, hr⟩
      have hl := (List.getElem?_eq_some_iff.1 hy).1
      have e1 : i * sz = n * sz + (i - n) * sz := by rw [← Nat.add_mul]; congr 1; omega
      rw [Array.getElem?_append_left (by simp; omega), Array.getElem?_append_right (by simp; omega)]
      simp only [List.getElem?_toArray, List.size_toArray, ho]
      rw [← hy]; congr 1; omega
end
section
variable {P : Program} {A : Amb} {nt : Nat} {pend : List (Nat × AObj)} {env : Env} {heap : Heap} {bor : Option (Nat × AV)} {tm : Array Value} {w : World} {U : Nat → Nat} {bl : Blocks} {ob : Loc → Option Nat}
theorem own_nil {F : Nat → Prop} {B : Nat} {own : List Nat → Option Nat} {sz n : Nat} {g : Nat → AV} {x : Value} (h : OwnOK w F U B (own []) (.own (.vec sz n g)) x) : OwnAt w F U B own (.own (.vec sz n g)) x := by
  intro p u hp _
  cases p with
  | nil => simp [AV.at] at hp; subst hp; exact ⟨x, by cases x <;> rfl, h⟩
  | cons i p => simp [AV.at] at hp
theorem app_new (h : Rel P A nt pend env heap bor tm w U bl ob) {e : TypeId} {z : Value} {n m c q : Nat} {g g' : Nat → AV} {zE : AV} {os cs : List Value} {d : Option Nat} (hd : ∀ t, d = some t → t < nt)
    (h0 : 0 < tySz P e) (hnm : 0 < n + m) (hq : w.drawn ≤ q) (hzs : z.cells.size = tySz P e) (hc : n + m ≤ c ∧ c ≤ 9223372036854775807) (ho : os.length = n * tySz P e) (hcs : cs.length = m * tySz P e)
    (h1 : ∀ (i j : Nat) x, i < n → (g i).cells[j]? = some x → ∃ y, os[i * tySz P e + j]? = some y ∧ Rep w (forb A bl heap) U [] x y)
    (h2 : ∀ (i j : Nat) x, i < m → (g' i).cells[j]? = some x → ∃ y, cs[i * tySz P e + j]? = some y ∧ Rep w (forb A bl heap) U [] x y)
    (s1 : ∀ i, i < n → (g i).cells.length = tySz P e) (s2 : ∀ i, i < m → (g' i).cells.length = tySz P e) (o1 : ∀ y ∈ os, y.oneCell' = true) (o2 : ∀ y ∈ cs, y.oneCell' = true) :
    ∃ U' ob', Rel P A nt pend (setO env d (.own (.vec (tySz P e) (n + m) (vapp zE g n g' m)))) heap bor (putO tm d (.slice (some ⟨w.heap.size, 0, none⟩) (n + m) c))
      (rowW { w with drawn := q } (grownRow P e z os cs (c - (n + m))) e) U' bl ob' := by
  obtain ⟨hc, hcM⟩ := hc
  have hrow : (grownRow P e z os cs (c - (n + m))).size = c * tySz P e := by
    simp only [grownRow, Builtin.zeroCells, Array.size_append, List.size_toArray, Array.size_map, Array.size_range, ho, hcs, hzs]
    rw [← Nat.add_mul, ← Nat.add_mul]; congr 1; omega
  have ext : Ext w U (rowW { w with drawn := q } (grownRow P e z os cs (c - (n + m))) e) (rowU w U ((n + m) * tySz P e)) :=
    (drew_ext w q U hq).trans (rowW_ext (w := { w with drawn := q }) _ e _)
  have h' := h.ext ext
  obtain ⟨t1, t2⟩ := two_rows (z := zE) (rest := Builtin.zeroCells z.cells (c - (n + m))) ho hcs h1 h2 s1 s2
  have hnF : ¬ forb A bl heap w.heap.size := h.notF (Nat.le_refl _)
  have hle : (n + m) * tySz P e ≤ c * tySz P e := Nat.mul_le_mul_right _ hc
  have hcell : ∀ o, (rowW { w with drawn := q } (grownRow P e z os cs (c - (n + m))) e).cell? ⟨w.heap.size, o, none⟩ = (grownRow P e z os cs (c - (n + m)))[o]? :=
    fun o => rowW_cell (w := { w with drawn := q }) _ e o
  have hrep : Rep (rowW { w with drawn := q } (grownRow P e z os cs (c - (n + m))) e) (forb A bl heap) (rowU w U ((n + m) * tySz P e)) bl (.vec (tySz P e) (n + m) (vapp zE g n g' m)) (.slice (some ⟨w.heap.size, 0, none⟩) (n + m) c) := by
    refine .vec hc (fun i j => (grownRow P e z os cs (c - (n + m))).getD (i * tySz P e + j) undef) (fun _ => ⟨h0, ⟨w.heap.size, 0, none⟩, rfl, rfl, hnF, by simp [rowU], fun i j hi hj => ?_⟩) t1 (fun i j hi hj => ?_) (fun i j x hi hx => ?_)
    · rw [Nat.zero_add, hcell]
      have : i * tySz P e + j < (grownRow P e z os cs (c - (n + m))).size := by rw [hrow]; have := index_mul (sz := tySz P e) hi; omega
      simp [Array.getD, this]
    · have hlt : i * tySz P e + j < (n + m) * tySz P e := by have := index_mul (sz := tySz P e) hi; omega
      rw [Nat.add_mul] at hlt
      have hl : i * tySz P e + j < (grownRow P e z os cs (c - (n + m))).size := by rw [hrow]; rw [Nat.add_mul] at hle; omega
      rw [Array.getD, dif_pos hl]
      have : (grownRow P e z os cs (c - (n + m)))[i * tySz P e + j] ∈ os ++ cs := by
        simp only [grownRow]
        rw [Array.getElem_append_left (by simp; omega)]
        have hm := List.getElem_mem (l := os ++ cs) (n := i * tySz P e + j) (by simp; omega)
        simp
      rcases List.mem_append.1 this with h | h
      · exact o1 _ h
      · exact o2 _ h
    · obtain ⟨y, hy, hr⟩ := t2 i j x hi hx
      have hl := (Array.getElem?_eq_some_iff.1 hy).1
      have hv := (Array.getElem?_eq_some_iff.1 hy).2
      have : (grownRow P e z os cs (c - (n + m))).getD (i * tySz P e + j) undef = y := by
        unfold grownRow; rw [Array.getD]; rw [dif_pos hl]; exact hv
      rw [this]
      exact hr.mono (ext.grow _) (BlLe.refl _)
  cases d with
  | none => exact ⟨_, _, h'⟩
  | some d =>
    refine ⟨_, _, h'.putG (hd d rfl) (fun p => if p = [] then some w.heap.size else none) (.own hrep) (own_nil (.inr ⟨⟨w.heap.size, 0, none⟩, .inr rfl, rfl, rfl, h.hB, rfl, hnF, by simp [rowU], ⟨h0, hcM⟩, _, e, (0, 0), rowW_block (w := { w with drawn := q }) _ e, by rw [hrow]; simp, fun o _ => ?_⟩)) (fun p b hb => ?_)⟩
    · simp only [World.frozen?]
      rw [show (rowW { w with drawn := q } (grownRow P e z os cs (c - (n + m))) e).heap[w.heap.size]? = some (.cells (grownRow P e z os cs (c - (n + m))) e) from rowW_block (w := { w with drawn := q }) _ e]
      simp
    · by_cases hp : p = []
      · simp only [hp, if_true, Option.some.injEq] at hb
        subst hb
        refine ⟨⟨fun hg => by have := h.hG _ hg; omega, by simp [rowW], fun id hid => by have := (h.base id _ hid).2.1; omega⟩, fun q' hq => ?_, fun l hl => ?_⟩
        · by_cases hq' : q' = []
          · rw [hp, hq']
          · simp [hq'] at hq
        · exact absurd (h.obok l _ hl).2.1 (Nat.lt_irrefl _)
      · simp [hp] at hb
end
end Ax

namespace Ax
open Go Go.RowKit
section
variable {P : Program} {w : World} {F : Nat → Prop} {U : Nat → Nat} {bl : Blocks} {B : Nat}
theorem block_src {sz n cap b lo : Nat} {g : Nat → AV} {c : Array Value} {el : TypeId} {fr : Nat × Nat} (k1 : w.heap[b]? = some (.cells c el fr)) (h0 : 0 < sz) (hle : lo + n * sz ≤ c.size) (k5 : ∀ i, i < n → (g i).cells.length = sz)
    (k6 : ∀ (i j : Nat) x, i < n → (g i).cells[j]? = some x → ∃ y, c[lo + i * sz + j]? = some y ∧ y.oneCell' = true ∧ Rep w F U [] x y) : SrcRep P w F U sz n g (.slice (some ⟨b, lo, none⟩) n cap) := by
  refine ⟨(List.range (n * sz)).map fun k => c.getD (lo + k) undef, rfl, fun w' hw' => ?_, by simp, fun y hy => ?_, k5, fun i j x hi hx => ?_⟩
  · have := run_loadCells (P := P) w' ⟨b, lo, none⟩ (n * sz) (fun k => c.getD (lo + k) undef) (fun k hk => by
      rw [addr_add, cell_heap hw', cell_row k1]
      have : lo + k < c.size := by omega
      simp [Array.getD, this])
    simpa [Builtin.firstCells] using this
  · obtain ⟨k, hk, rfl⟩ := List.mem_map.1 hy
    have hk' : k < n * sz := by simpa using hk
    have hq : k / sz < n := (Nat.div_lt_iff_lt_mul h0).2 hk'
    have hmod := Nat.mod_lt k h0
    obtain ⟨y, hy, h1, _⟩ := k6 (k / sz) (k % sz) _ hq (List.getElem?_eq_getElem (by rw [k5 _ hq]; exact hmod))
    have hkk : k / sz * sz + k % sz = k := by have := Nat.div_add_mod k sz; rw [Nat.mul_comm] at this; exact this
    rw [Nat.add_assoc, hkk] at hy
    have hl := (Array.getElem?_eq_some_iff.1 hy).1
    have hv := (Array.getElem?_eq_some_iff.1 hy).2
    have hgd : c.getD (lo + k) undef = y := by rw [Array.getD, dif_pos hl]; exact hv
    rw [hgd]; exact h1
  · obtain ⟨y, hy, _, hr⟩ := k6 i j x hi hx
    have hj : j < sz := by rw [← k5 i hi]; exact (List.getElem?_eq_some_iff.1 hx).1
    have hlt : i * sz + j < n * sz := by have := index_mul (sz := sz) hi; omega
    refine ⟨y, ?_, hr⟩
    have hlt2 := (Array.getElem?_eq_some_iff.1 hy).1
    have hval := (Array.getElem?_eq_some_iff.1 hy).2
    simp only [List.getElem?_map, List.getElem?_range hlt, Option.map_some, Option.some.injEq]
    rw [← Nat.add_assoc]
    simp [Array.getD, hlt2, hval]
theorem empty_src {sz cap : Nat} {g : Nat → AV} {ao : Option Addr} : SrcRep P w F U sz 0 g (.slice ao 0 cap) := by
  refine ⟨[], rfl, fun w' hw' => ?_, by simp, fun y hy => by simp at hy, fun i hi => absurd hi (by omega), fun i j c hi => absurd hi (by omega)⟩
  cases ao with
  | none => simp [Builtin.firstCells]
  | some a => simp [Builtin.firstCells, loadCells, loadCellsFrom]
theorem uni_nil {own : List Nat → Option Nat} {sz n : Nat} {g : Nat → AV} {x : Value} (h : OwnOK w F U B (own []) (.uni (.vec sz n g)) x) : OwnAt w F U B own (.uni (.vec sz n g)) x := by
  intro p u hp _
  cases p with
  | nil => simp [AV.at] at hp; subst hp; exact ⟨x, by cases x <;> rfl, h⟩
  | cons i p => simp [AV.at] at hp
end
section
variable {P : Program} {A : Amb} {nt : Nat} {pend : List (Nat × AObj)} {env : Env} {heap : Heap} {bor : Option (Nat × AV)} {tm : Array Value} {w : World} {U : Nat → Nat} {bl : Blocks} {ob : Loc → Option Nat}
theorem Rel.newU (h : Rel P A nt pend env heap bor tm w U bl ob) {d : Option Nat} (hd : ∀ t, d = some t → t < nt) {row : Array Value} {e : TypeId} {sz n c q : Nat} {g : Nat → AV} (h0 : 0 < sz) (hq : w.drawn ≤ q) (hc : n ≤ c ∧ c ≤ 9223372036854775807) (hrow : c * sz ≤ row.size)
    (hs : ∀ i, i < n → (g i).cells.length = sz) (hr : ∀ (i j : Nat) x, i < n → (g i).cells[j]? = some x → ∃ y, row[i * sz + j]? = some y ∧ y.oneCell' = true ∧ Rep w (forb A bl heap) U [] x y) :
    ∃ U' ob', Rel P A nt pend (setO env d (.uni (.vec sz n g))) heap bor (putO tm d (.slice (some ⟨w.heap.size, 0, none⟩) n c)) (rowW { w with drawn := q } row e) U' bl ob' := by
  obtain ⟨hc, hcM⟩ := hc
  have ext : Ext w U (rowW { w with drawn := q } row e) (rowU w U 0) := (drew_ext w q U hq).trans (rowW_ext (w := { w with drawn := q }) _ e _)
  have h' := h.ext ext
  have hnF : ¬ forb A bl heap w.heap.size := h.notF (Nat.le_refl _)
  have hhere : (rowW { w with drawn := q } row e).heap[w.heap.size]? = some (.cells row e) := rowW_block (w := { w with drawn := q }) _ e
  cases d with
  | none => exact ⟨_, _, h'⟩
  | some d =>
    refine ⟨_, _, h'.putG (hd d rfl) (fun p => if p = [] then some w.heap.size else none) .uni (uni_nil ⟨_, c, rfl, hc, .inr ⟨w.heap.size, rfl, rfl, h.hB, hnF, by simp [rowU], ⟨h0, hcM⟩, row, e, (0, 0), hhere, hrow, fun o => ?_, hs, fun i j x hi hx => ?_⟩⟩) (fun p b hb => ?_)⟩
    · simp only [World.frozen?]; rw [hhere]; simp
    · obtain ⟨y, h1, h2, h3⟩ := hr i j x hi hx
      exact ⟨y, h1, h2, h3.mono (ext.grow _) (BlLe.refl _)⟩
    · by_cases hp : p = []
      · simp only [hp, if_true, Option.some.injEq] at hb
        subst hb
        refine ⟨⟨fun hg => by have := h.hG _ hg; omega, by simp [rowW], fun id hid => by have := (h.base id _ hid).2.1; omega⟩, fun q' hq => ?_, fun l hl => ?_⟩
        · by_cases hq' : q' = []
          · rw [hp, hq']
          · simp [hq'] at hq
        · exact absurd (h.obok l _ hl).2.1 (Nat.lt_irrefl _)
      · simp [hp] at hb
theorem app_newU (h : Rel P A nt pend env heap bor tm w U bl ob) {e : TypeId} {z : Value} {n m c q : Nat} {g g' : Nat → AV} {zE : AV} {os cs : List Value} {d : Option Nat} (hd : ∀ t, d = some t → t < nt)
    (h0 : 0 < tySz P e) (hq : w.drawn ≤ q) (hzs : z.cells.size = tySz P e) (hc : n + m ≤ c ∧ c ≤ 9223372036854775807) (ho : os.length = n * tySz P e) (hcs : cs.length = m * tySz P e)
    (h1 : ∀ (i j : Nat) x, i < n → (g i).cells[j]? = some x → ∃ y, os[i * tySz P e + j]? = some y ∧ Rep w (forb A bl heap) U [] x y)
    (h2 : ∀ (i j : Nat) x, i < m → (g' i).cells[j]? = some x → ∃ y, cs[i * tySz P e + j]? = some y ∧ Rep w (forb A bl heap) U [] x y)
    (s1 : ∀ i, i < n → (g i).cells.length = tySz P e) (s2 : ∀ i, i < m → (g' i).cells.length = tySz P e) (o1 : ∀ y ∈ os, y.oneCell' = true) (o2 : ∀ y ∈ cs, y.oneCell' = true) :
    ∃ U' ob', Rel P A nt pend (setO env d (.uni (.vec (tySz P e) (n + m) (vapp zE g n g' m)))) heap bor (putO tm d (.slice (some ⟨w.heap.size, 0, none⟩) (n + m) c))
      (rowW { w with drawn := q } (grownRow P e z os cs (c - (n + m))) e) U' bl ob' := by
  have hrow : (grownRow P e z os cs (c - (n + m))).size = c * tySz P e := by
    simp only [grownRow, Builtin.zeroCells, Array.size_append, List.size_toArray, Array.size_map, Array.size_range, ho, hcs, hzs]
    have hc := hc.1
    rw [← Nat.add_mul, ← Nat.add_mul]; congr 1; omega
  obtain ⟨t1, t2⟩ := two_rows (z := zE) (rest := Builtin.zeroCells z.cells (c - (n + m))) ho hcs h1 h2 s1 s2
  have hle : (n + m) * tySz P e ≤ c * tySz P e := Nat.mul_le_mul_right _ hc.1
  refine h.newU hd h0 hq hc (by rw [hrow]; exact Nat.le_refl _) t1 fun i j x hi hx => ?_
  obtain ⟨y, hy, hr⟩ := t2 i j x hi hx
  refine ⟨y, hy, ?_, hr⟩
  have hj : j < tySz P e := by rw [← t1 i hi]; exact (List.getElem?_eq_some_iff.1 hx).1
  have hlt : i * tySz P e + j < (n + m) * tySz P e := by have := index_mul (sz := tySz P e) hi; omega
  rw [Nat.add_mul] at hlt
  rw [Array.getElem?_append_left (by simp; omega)] at hy
  have hm : y ∈ os ++ cs := by
    have := Array.mem_of_getElem? hy
    simpa using this
  rcases List.mem_append.1 hm with h | h
  · exact o1 _ h
  · exact o2 _ h
theorem append_soundU (h : Rel P A nt pend env heap bor tm w U bl ob) {s : Nat} {t u ty e : TypeId} {n m : Nat} {g g' : Nat → AV} {x' : Value} {d : Option Nat} (hd : ∀ t, d = some t → t < nt)
    (hu : isSliceT P u = true) (ht : tyD P t = .slice e) (h0 : 0 < tySz P e) (hz : zeroFits P e = true) (hb : 0 < tyBy P e) (hr : roomOK (n + m) (tyBy P e) = true)
    (hbase : env.get s = .uni (.vec (tySz P e) n g)) (hsrc : SrcRep P w (forb A bl heap) U (tySz P e) m g' x') :
    ∃ y w' U' ob', (Builtin.append_ #[t, u] ty #[tm.getD s undef, x']).run P w = .ok y w' ∧ Rel P A nt pend (setO (env.bare s) d (.uni (.vec (tySz P e) (n + m) (vapp (zeroElem P e) g n g' m)))) heap bor (putO tm d y) w' U' bl ob' := by
  obtain ⟨henv, hown⟩ := h.env s
  rw [hbase] at hown
  obtain ⟨y0, hy0, ao, cap, hval, hncap, hok⟩ := hown [] _ rfl rfl
  simp only [vat, Option.some.injEq] at hy0
  subst hy0
  rw [hval]
  have hbare := h.bareAt s
  have hos : SrcRep P w (forb A bl heap) U (tySz P e) n g (.slice ao n cap) := by
    rcases hok with hcap | ⟨b, e1, e2, e3, e4, e5, hsz, c, el, fr, e7, e8, e9, e10, e11⟩
    · obtain rfl : n = 0 := by omega
      exact empty_src
    · subst e1
      have hle : n * tySz P e ≤ cap * tySz P e := Nat.mul_le_mul_right _ hncap
      exact block_src e7 hsz.1 (by omega) e10 (fun i j x hi hx => by rw [Nat.zero_add]; exact e11 i j x hi hx)
  obtain ⟨cs, k1, k2, k3, ko, k4, k5⟩ := hsrc
  by_cases hmv : n + m ≤ cap
  · have hrun := append_stay (ty := ty) (base := ao) (n := n) ht hu h0 k1 (k2 w rfl) hmv
    rcases hok with hcap | ⟨b, e1, e2, e3, e4, e5, hsz, c, el, fr, e7, e8, e9, e10, e11⟩
    · obtain rfl : n = 0 := by omega
      obtain rfl : m = 0 := by omega
      have hcs : cs = [] := List.length_eq_zero_iff.1 (by rw [k3]; simp)
      subst hcs
      have hrun' : (Builtin.append_ #[t, u] ty #[.slice ao 0 cap, x']).run P w = .ok (.slice ao 0 cap) w := by
        rw [hrun]; cases ao <;> simp [storeCells]
      cases d with
      | none => exact ⟨_, _, _, _, hrun', hbare⟩
      | some d => exact ⟨_, _, _, _, hrun', hbare.putG (hd d rfl) (fun _ => none) .uni (uni_nil ⟨ao, cap, rfl, by omega, .inl hcap⟩) (fun p b hb => by simp at hb)⟩
    · subst e1
      have hsp : (n + m) * tySz P e = n * tySz P e + m * tySz P e := Nat.add_mul _ _ _
      have hle : (n + m) * tySz P e ≤ cap * tySz P e := Nat.mul_le_mul_right _ hmv
      obtain ⟨w', c', r1, r2, r3, r4⟩ := storeCells_run (P := P) b (n * tySz P e) cs 0 w c el fr e7 (by omega) ko (fun o h1 h2 => e9 o)
      have hrun' : (Builtin.append_ #[t, u] ty #[.slice (some ⟨b, 0, none⟩) n cap, x']).run P w = .ok (.slice (some ⟨b, 0, none⟩) (n + m) cap) w' := by
        rw [hrun]; simp only [addr_add, Nat.zero_add, r1, Result.andThen_ok]
      have hg := h.growIn (l := .env s []) e2 (lt_of_some e7) e3 e4 r2 (n' := 0) (by omega) (fun o ho => by omega) ⟨s, [], rfl⟩ s ⟨[], rfl⟩
      have grow : Grow0 w (forb A bl heap) U w' (forb A bl heap) (fun c => if c = b then 0 else U c) := by
        refine ⟨fun _ _ hf => .inl hf, fun c _ _ => ?_, fun c hc => ⟨by rw [r2.size]; exact hc, by by_cases e : c = b; (· subst e; rw [if_pos rfl, e5]; exact Nat.le_refl _); (· rw [if_neg e]; exact Nat.le_refl _)⟩⟩
        by_cases ec : c = b
        · subst ec; simp only [if_true]; exact ⟨by omega, fun o ho => by omega⟩
        · simp only [if_neg ec]; exact ⟨Nat.le_refl _, fun o _ => cell_block (r2.other c ec) o⟩
      cases d with
      | none => exact ⟨_, _, _, _, hrun', hg⟩
      | some d =>
        refine ⟨_, _, _, _, hrun', hg.putG (hd d rfl) (fun p => if p = [] then some b else none) .uni (uni_nil ⟨_, cap, rfl, hmv, .inr ⟨b, rfl, rfl, e3, e4, by simp, hsz, c', el, fr, r2.here, by rw [r3]; exact e8, fun o => ?_, fun i hi => ?_, fun i j x hi hx => ?_⟩⟩) (fun p b' hb => ?_)⟩
        · have := e9 o
          simp only [World.frozen?, r2.here]
          simp only [World.frozen?, e7] at this
          exact this
        · rw [vapp_get]; split
          · exact e10 i ‹_›
          · exact k4 _ (by omega)
        · rw [vapp_get] at hx
          split at hx
          · rename_i hlt
            obtain ⟨y, hy, hy1, hyr⟩ := e11 i j x hlt hx
            have hj : j < tySz P e := by rw [← e10 i hlt]; exact (List.getElem?_eq_some_iff.1 hx).1
            have hmul := index_mul (sz := tySz P e) hlt
            exact ⟨y, by rw [r4, if_neg (by omega)]; exact hy, hy1, hyr.mono grow (BlLe.refl _)⟩
          · rename_i hge
            obtain ⟨y, hy, hyr⟩ := k5 (i - n) j x (by omega) hx
            have hyl := (List.getElem?_eq_some_iff.1 hy).1
            have e1 : i * tySz P e = n * tySz P e + (i - n) * tySz P e := by rw [← Nat.add_mul]; congr 1; omega
            refine ⟨y, ?_, ko y (List.mem_of_getElem? hy), hyr.mono grow (BlLe.refl _)⟩
            rw [r4, if_pos (by omega), ← hy]; congr 1; omega
        · by_cases hp : p = []
          · simp only [hp, if_true, Option.some.injEq] at hb
            subst hb
            refine ⟨⟨(h.obok _ _ e2).1, by rw [r2.size]; exact lt_of_some e7, (h.obok _ _ e2).2.2⟩, fun q' hq => ?_, fun l hl => ?_⟩
            · by_cases hq' : q' = []
              · rw [hp, hq']
              · simp [hq'] at hq
            · exfalso
              cases l with
              | env t q =>
                simp only at hl
                by_cases et : t = s
                · simp [et] at hl
                · simp only [et, if_false] at hl
                  have := h.obinj _ _ _ hl e2
                  injection this with h1; exact et h1
              | cell id i q => exact absurd (h.obinj _ _ _ hl e2) (by simp)
              | mapv id i q => exact absurd (h.obinj _ _ _ hl e2) (by simp)
          · simp [hp] at hb
  · obtain ⟨i, z, hi, hiz, hzs⟩ := zeroFits_of hz
    obtain ⟨os, q1, q2, q3, qo, q4, q5⟩ := hos
    obtain ⟨c, q, hc, hq, hrun⟩ := append_move (ty := ty) ht hu hi hiz h0 hb hr k1 k2 q2 hmv
    obtain ⟨U', ob', hrel⟩ := app_newU (q := q) (d := d) (zE := zeroElem P e) hbare hd h0 hq hzs hc q3 k3 q5 k5 q4 k4 qo ko
    exact ⟨_, _, U', ob', hrun, hrel⟩
end
end Ax

namespace Ax
open Go Go.RowKit
section
variable {P : Program} {A : Amb} {nt : Nat} {pend : List (Nat × AObj)} {env : Env} {heap : Heap} {bor : Option (Nat × AV)} {tm : Array Value} {w : World} {U : Nat → Nat} {bl : Blocks} {ob : Loc → Option Nat}
theorem appendAV_of {t u : TypeId} {b x v : AV} (h : appendAV P t u heap b x = some v) : ∃ e n g m g' c, isSliceT P u = true ∧ tyD P t = .slice e ∧ (c = AV.own ∨ c = AV.uni) ∧ b = c (.vec (tySz P e) n g) ∧ srcOf P e heap x = some (m, g') ∧
    0 < tySz P e ∧ zeroFits P e = true ∧ 0 < tyBy P e ∧ roomOK (n + m) (tyBy P e) = true ∧ v = c (.vec (tySz P e) (n + m) (vapp (zeroElem P e) g n g' m)) := by
  unfold appendAV at h
  cases hu : isSliceT P u with
  | false => simp [hu] at h
  | true =>
    simp only [hu, Bool.not_true, cond_false] at h
    have key : ∀ (c : AV → AV) e sz n g m g', (c = AV.own ∨ c = AV.uni) → tyD P t = .slice e → b = c (.vec sz n g) → srcOf P e heap x = some (m, g') →
        (bif Nat.beq sz (tySz P e) && Nat.blt 0 sz && zeroFits P e && Nat.blt 0 (tyBy P e) then
        bif roomOK (n + m) (tyBy P e) then some (c (.vec sz (n + m) (vapp (zeroElem P e) g n g' m))) else none
      else none) = some v → ∃ e n g m g' c, true = true ∧ tyD P t = .slice e ∧ (c = AV.own ∨ c = AV.uni) ∧ b = c (.vec (tySz P e) n g) ∧ srcOf P e heap x = some (m, g') ∧
        0 < tySz P e ∧ zeroFits P e = true ∧ 0 < tyBy P e ∧ roomOK (n + m) (tyBy P e) = true ∧ v = c (.vec (tySz P e) (n + m) (vapp (zeroElem P e) g n g' m)) := by
      intro c e sz n g m g' hcc ht hb hs h
      cases hc : (Nat.beq sz (tySz P e) && Nat.blt 0 sz && zeroFits P e && Nat.blt 0 (tyBy P e)) with
      | false => simp [hc] at h
      | true =>
        simp only [hc, cond_true] at h
        simp only [Bool.and_eq_true, beq_eq, blt_eq, decide_eq_true_eq] at hc
        obtain ⟨⟨⟨c1, c2⟩, c3⟩, c4⟩ := hc
        cases hr : roomOK (n + m) (tyBy P e) with
        | false => simp [hr] at h
        | true =>
          simp [hr] at h
          subst c1
          exact ⟨e, n, g, m, g', c, rfl, ht, hcc, hb, hs, c2, c3, c4, hr, h.symm⟩
    split at h
    · rename_i e ht
      split at h
      · rename_i sz n g m g' hs
        exact key AV.own e sz n g m g' (.inl rfl) ht rfl hs h
      · rename_i sz n g m g' hs
        exact key AV.uni e sz n g m g' (.inr rfl) ht rfl hs h
      · simp at h
    · simp at h
theorem append_gen (h : Rel P A nt pend env heap bor tm w U bl ob) {e t u ty : TypeId} {n m cap : Nat} {g g' : Nat → AV} {ao : Option Addr} {x' : Value} {d : Option Nat} (hd : ∀ t, d = some t → t < nt)
    (hu : isSliceT P u = true) (ht : tyD P t = .slice e) (h0 : 0 < tySz P e) (hz : zeroFits P e = true) (hb : 0 < tyBy P e) (hr : roomOK (n + m) (tyBy P e) = true)
    (hbase : Rep w (forb A bl heap) U bl (.vec (tySz P e) n g) (.slice ao n cap)) (hsrc : SrcRep P w (forb A bl heap) U (tySz P e) m g' x') (hmv : ¬ n + m ≤ cap) :
    ∃ y w' U' ob', (Builtin.append_ #[t, u] ty #[.slice ao n cap, x']).run P w = .ok y w' ∧ Rel P A nt pend (setO env d (.own (.vec (tySz P e) (n + m) (vapp (zeroElem P e) g n g' m)))) heap bor (putO tm d y) w' U' bl ob' := by
  obtain ⟨i, z, hi, hiz, hzs⟩ := zeroFits_of hz
  obtain ⟨cs, k1, k2, k3, ko, k4, k5⟩ := hsrc
  obtain ⟨os, q1, q2, q3, qo, q4, q5⟩ := vec_src (P := P) hbase h0
  obtain ⟨c, q, hc, hq, hrun⟩ := append_move (ty := ty) ht hu hi hiz h0 hb hr k1 k2 q2 hmv
  obtain ⟨U', ob', hrel⟩ := app_new (q := q) (d := d) (zE := zeroElem P e) h hd h0 (by omega) hq hzs hc q3 k3 q5 k5 q4 k4 qo ko
  exact ⟨_, _, U', ob', hrun, hrel⟩
theorem append_sound (h : Rel P A nt pend env heap bor tm w U bl ob) {s : Nat} {t u ty : TypeId} {x v : AV} {x' : Value} {d : Option Nat} (hd : ∀ t, d = some t → t < nt)
    (ha : appendAV P t u heap (env.get s) x = some v) (hx : Rep w (forb A bl heap) U bl x x') :
    ∃ y w' U' ob', (Builtin.append_ #[t, u] ty #[tm.getD s undef, x']).run P w = .ok y w' ∧ Rel P A nt pend (setO (env.bare s) d v) heap bor (putO tm d y) w' U' bl ob' := by
  obtain ⟨e, n, g, m, g', c, hu, ht, hcc, hbv, hs, h0, hz, hb, hr, rfl⟩ := appendAV_of ha
  have hsrc := srcOf_sound hs hx h.objsOK h0
  rcases hcc with rfl | rfl
  case inr => exact append_soundU h hd hu ht h0 hz hb hr hbv hsrc
  obtain ⟨henv, hown⟩ := h.env s
  rw [hbv] at henv hown
  obtain ⟨y0, hy0, hok⟩ := hown [] _ rfl rfl
  simp only [vat, Option.some.injEq] at hy0
  subst hy0
  cases henv with
  | own hvec =>
    obtain ⟨ao, cap, hncap, hval⟩ : ∃ ao cap, n ≤ cap ∧ tm.getD s undef = .slice ao n cap := by
      generalize tm.getD s undef = q at hvec
      cases hvec with | vec hcap => exact ⟨_, _, hcap, rfl⟩
    rw [hval] at hvec hok ⊢
    have hbare := h.bareAt s
    by_cases hmv : n + m ≤ cap
    ·
      obtain ⟨cs, k1, k2, k3, ko, k4, k5⟩ := hsrc
      have hrun := append_stay (ty := ty) (base := ao) (n := n) ht hu h0 k1 (k2 w rfl) hmv
      rcases hok with hcap | ⟨a, hn0, e1, e2, e3, e4, e5, e6, hsz, c, el, fr, e7, e8, e9⟩
      ·
        have hm : m = 0 := by omega
        subst hm
        have hcs : cs = [] := List.length_eq_zero_iff.1 (by rw [k3]; simp)
        subst hcs
        have hrun' : (Builtin.append_ #[t, u] ty #[.slice ao n cap, x']).run P w = .ok (.slice ao n cap) w := by
          rw [hrun]; cases ao <;> simp [storeCells]
        have hrep : Rep w (forb A bl heap) U bl (.vec (tySz P e) (n + 0) (vapp (zeroElem P e) g n g' 0)) (.slice ao n cap) := by
          cases hvec with
          | vec hc vals z1 z2 zo z3 =>
            refine .vec hc vals z1 (fun i hi => ?_) (fun i j hi hj => zo i j (by omega) hj) (fun i j c hi hc => ?_)
            · rw [vapp_get, if_pos (by omega)]; exact z2 i (by omega)
            · rw [vapp_get, if_pos (by omega)] at hc; exact z3 i j c (by omega) hc
        cases d with
        | none => exact ⟨_, _, _, _, hrun', hbare⟩
        | some d => exact ⟨_, _, _, _, hrun', hbare.putG (hd d rfl) (fun _ => none) (.own hrep) (own_nil (.inl hcap)) (fun p b hb => by simp at hb)⟩
      ·
        subst e1
        obtain ⟨ab, aoff, as⟩ := a
        simp only at e2 e3 e4 e5 e6 e7 e8 e9
        subst e4
        have hsp : (n + m) * tySz P e = n * tySz P e + m * tySz P e := Nat.add_mul _ _ _
        have hle : (n + m) * tySz P e ≤ cap * tySz P e := Nat.mul_le_mul_right _ hmv
        obtain ⟨w', c', r1, r2, r3, r4⟩ := storeCells_run (P := P) ab (aoff + n * tySz P e) cs 0 w c el fr e7 (by omega) ko (fun o h1 h2 => e9 o (by omega))
        have hrun' : (Builtin.append_ #[t, u] ty #[.slice (some ⟨ab, aoff, none⟩) n cap, x']).run P w = .ok (.slice (some ⟨ab, aoff, none⟩) (n + m) cap) w' := by
          rw [hrun]; simp only [addr_add, r1, Result.andThen_ok]
        have hold : ∀ o, o < U ab → w'.cell? ⟨ab, o, none⟩ = w.cell? ⟨ab, o, none⟩ := by
          intro o ho; rw [cell_row r2.here, cell_row e7, r4, if_neg (by omega)]
        have hg := h.growIn (l := .env s []) e2 (lt_of_some e7) e3 e5 r2 (n' := aoff + (n + m) * tySz P e) (by omega) hold ⟨s, [], rfl⟩ s ⟨[], rfl⟩
        have grow : Grow0 w (forb A bl heap) U w' (forb A bl heap) (fun c => if c = ab then aoff + (n + m) * tySz P e else U c) := by
          refine ⟨fun _ _ hf => .inl hf, fun c _ _ => ?_, fun c hc => ⟨by rw [r2.size]; exact hc, by by_cases e : c = ab; (· subst e; rw [if_pos rfl]; omega); (· rw [if_neg e]; exact Nat.le_refl _)⟩⟩
          by_cases ec : c = ab
          · subst ec; simp only [if_true]; exact ⟨by omega, hold⟩
          · simp only [if_neg ec]; exact ⟨Nat.le_refl _, fun o _ => cell_block (r2.other c ec) o⟩
        have hrep : Rep w' (forb A bl heap) (fun c => if c = ab then aoff + (n + m) * tySz P e else U c) bl (.vec (tySz P e) (n + m) (vapp (zeroElem P e) g n g' m)) (.slice (some ⟨ab, aoff, none⟩) (n + m) cap) := by
          cases hvec with
          | vec hc vals z1 z2 zo z3 =>
            refine .vec hmv (fun i j => c'.getD (aoff + i * tySz P e + j) undef) (fun _ => ⟨h0, ⟨ab, aoff, none⟩, rfl, rfl, e5, by simp, fun i j hi hj => ?_⟩) (fun i hi => ?_) (fun i j hi hj => ?_) (fun i j x hi hx => ?_)
            · simp only
              rw [cell_row r2.here]
              have : aoff + i * tySz P e + j < c'.size := by rw [r3]; have := index_mul (sz := tySz P e) hi; omega
              simp [Array.getD, this]
            · rw [vapp_get]; split
              · exact z2 i ‹_›
              · exact k4 _ (by omega)
            · have hmul := index_mul (sz := tySz P e) hi
              have hcl : aoff + i * tySz P e + j < c'.size := by rw [r3]; omega
              rw [Array.getD, dif_pos hcl]
              show (c'[aoff + i * tySz P e + j]).oneCell' = true
              have hcv : c'[aoff + i * tySz P e + j]? = some (c'[aoff + i * tySz P e + j]) := by simp [hcl]
              rw [r4] at hcv
              split at hcv
              · rename_i hin; exact ko _ (List.mem_of_getElem? hcv)
              · rename_i hout
                have hlt : i < n := by
                  rcases Nat.lt_or_ge i n with h | h
                  · exact h
                  · exfalso; have : n * tySz P e ≤ i * tySz P e := Nat.mul_le_mul_right _ h; omega
                obtain ⟨_, a', f1, f2, f3, f4, f5⟩ := z1 (by omega)
                obtain rfl : (⟨ab, aoff, none⟩ : Addr) = a' := by simpa using f1
                have hv2 := f5 i j hlt hj
                simp only at hv2
                rw [cell_row e7, hcv] at hv2
                rw [Option.some.inj hv2]; exact zo i j hlt hj
            · rw [vapp_get] at hx
              split at hx
              · rename_i hlt
                obtain ⟨_, a', f1, f2, f3, f4, f5⟩ := z1 (by omega)
                obtain rfl : (⟨ab, aoff, none⟩ : Addr) = a' := by simpa using f1
                have hj : j < tySz P e := by rw [← z2 i hlt]; exact (List.getElem?_eq_some_iff.1 hx).1
                have hcv := f5 i j hlt hj
                simp only at hcv
                rw [cell_row e7] at hcv
                have hmul := index_mul (sz := tySz P e) hlt
                have : c'[aoff + i * tySz P e + j]? = some (vals i j) := by rw [r4, if_neg (by omega)]; exact hcv
                have hl := (Array.getElem?_eq_some_iff.1 this).1
                have hv := (Array.getElem?_eq_some_iff.1 this).2
                have e : c'.getD (aoff + i * tySz P e + j) undef = vals i j := by rw [Array.getD, dif_pos hl]; exact hv
                rw [e]
                exact (z3 i j x hlt hx).mono grow (BlLe.refl _)
              · rename_i hge
                obtain ⟨y, hy, hrr⟩ := k5 (i - n) j x (by omega) hx
                have hyl := (List.getElem?_eq_some_iff.1 hy).1
                have e1 : i * tySz P e = n * tySz P e + (i - n) * tySz P e := by rw [← Nat.add_mul]; congr 1; omega
                have : c'[aoff + i * tySz P e + j]? = some y := by
                  rw [r4, if_pos (by omega), ← hy]; congr 1; omega
                have hl := (Array.getElem?_eq_some_iff.1 this).1
                have hv := (Array.getElem?_eq_some_iff.1 this).2
                have e : c'.getD (aoff + i * tySz P e + j) undef = y := by rw [Array.getD, dif_pos hl]; exact hv
                rw [e]
                exact hrr.mono grow (BlLe.refl _)
        cases d with
        | none => exact ⟨_, _, _, _, hrun', hg⟩
        | some d =>
          refine ⟨_, _, _, _, hrun', hg.putG (hd d rfl) (fun p => if p = [] then some ab else none) (.own hrep) (own_nil (.inr ⟨⟨ab, aoff, none⟩, by rcases hn0 with h | h; exact .inl (by omega); exact .inr h, rfl, rfl, e3, rfl, e5, by simp, hsz, c', el, fr, r2.here, by rw [r3]; exact e8, fun o h1 => ?_⟩)) (fun p b hb => ?_)⟩
          · have := e9 o (by simp only at h1; omega)
            simp only [World.frozen?, r2.here]
            simp only [World.frozen?, e7] at this
            exact this
          · by_cases hp : p = []
            · simp only [hp, if_true, Option.some.injEq] at hb
              subst hb
              refine ⟨⟨(h.obok _ _ e2).1, by rw [r2.size]; exact lt_of_some e7, (h.obok _ _ e2).2.2⟩, fun q' hq => ?_, fun l hl => ?_⟩
              · by_cases hq' : q' = []
                · rw [hp, hq']
                · simp [hq'] at hq
              · exfalso
                cases l with
                | env t q =>
                  simp only at hl
                  by_cases et : t = s
                  · simp [et] at hl
                  · simp only [et, if_false] at hl
                    have := h.obinj _ _ _ hl e2
                    injection this with h1; exact et h1
                | cell id i q => exact absurd (h.obinj _ _ _ hl e2) (by simp)
                | mapv id i q => exact absurd (h.obinj _ _ _ hl e2) (by simp)
            · simp [hp] at hb
    · obtain ⟨y, w', U', ob', r1, r2⟩ := append_gen (ty := ty) hbare hd hu ht h0 hz hb hr hvec hsrc hmv
      exact ⟨y, w', U', ob', r1, r2⟩
end
end Ax

namespace Ax
open Go Go.RowKit
def Good (P : Program) (A : Amb) (nt : Nat) (pend : List (Nat × AObj)) : St → Act → World → Prop
  | ⟨env, heap, defers, bor⟩, a, w => a.defers = A.ds ∧ defers = [] ∧ ∃ U bl ob, Rel P A nt pend env heap bor a.tmps w U bl ob
def NameOK (P : Program) : Prop := ∀ (f : Nat) fn, P.funcs[f]? = some fn → fn.body.isSome = true → (fn.name == "runtime.NumGoroutine") = false
def Bodied (P : Program) (f : FuncId) : Prop := ∃ fn : Func, P.funcs[f]? = some fn ∧ fn.body.isSome = true
def CallOK (P : Program) (f : FuncId) (args : List AV) (Q : AV → Prop) : Prop := Bodied P f ∧ ∀ (w : World) (F : Nat → Prop) (U : Nat → Nat) (vs : Array Value), (∀ b, F b → b < w.heap.size) → RepL w F U [] args vs.toList →
  Calls P f vs w fun e w' => ∃ r x U' own, e = .returned x ∧ Ext w U w' U' ∧ Rep w' F U' [] r x ∧ OwnAt w' F U' w.heap.size own r x ∧ (∀ p b, own p = some b → w.heap.size ≤ b ∧ b < w'.heap.size ∧ ∀ q, own q = some b → p = q) ∧ Q r
def InlOK (P : Program) (f : FuncId) (args : List AV) (heap : Heap) (k : AV → Heap → Prop) : Prop := Bodied P f ∧ ∀ (A : Amb) (w : World) (U : Nat → Nat) (bl : Blocks) (ob : Loc → Option Nat) (vs : Array Value),
  Rel P A 0 [] [] heap none #[] w U bl ob → RepL w (forb A bl heap) U bl args vs.toList →
  Calls P f vs w fun e w' => ∃ r x heap' U' bl' ob' own, e = .returned x ∧ Rel P A 0 [] [] heap' none #[] w' U' bl' ob' ∧ Rep w' (forb A bl' heap') U' bl' r x ∧ OwnAt w' (forb A bl' heap') U' A.B own r x ∧
    (∀ p b, own p = some b → (¬ A.G b ∧ b < w'.heap.size ∧ ∀ id : Nat, bl'[id]? ≠ some (some b)) ∧ (∀ q, own q = some b → p = q) ∧ ∀ l, ob' l ≠ some b) ∧ k r heap'
section
variable {P : Program} {A : Amb} {nt : Nat} {pend : List (Nat × AObj)} {env : Env} {heap : Heap} {bor : Option (Nat × AV)} {tm : Array Value} {w : World} {U : Nat → Nat} {bl : Blocks} {ob : Loc → Option Nat}
theorem put_eq (a : Act) (d : Option Nat) (x : Value) : a.put d x = ⟨putO a.tmps d x, a.defers⟩ := by cases d <;> rfl
theorem value_wp {o : Oper} {a : Act} {w w' : World} {x : Value} {next : Act → World → Prop} {Q : Exit → Act → World → Prop} (hr : (execOp a.eval o).run P w = .ok (.value x) w') (hn : next ⟨putO a.tmps o.dst x, a.defers⟩ w') :
    o.wp P a w next Q := by
  unfold Oper.wp; rw [hr, Oper.upon_value, put_eq]; exact hn
theorem skip_wp {o : Oper} {a : Act} {w w' : World} {next : Act → World → Prop} {Q : Exit → Act → World → Prop} (hr : (execOp a.eval o).run P w = .ok .skip w') (hn : next ⟨putO a.tmps o.dst undef, a.defers⟩ w') :
    o.wp P a w next Q := by
  unfold Oper.wp; rw [hr, Oper.upon_skip, put_eq]; exact hn
theorem Rel.give (h : Rel P A nt pend env heap bor tm w U bl ob) {d : Option Nat} (hd : ∀ t, d = some t → t < nt) {v : AV} {x : Value} {w' : World} {U' : Nat → Nat} (e : Ext w U w' U')
    (hv : Rep w' (forb A bl heap) U' bl v x) (ho : ∀ own, OwnAt w' (forb A bl heap) U' A.B own v x) : ∃ U2 ob', Rel P A nt pend (setO env d v) heap bor (putO tm d x) w' U2 bl ob' := by
  obtain ⟨ob', h'⟩ := (h.ext e).put0 hd hv ho
  exact ⟨_, ob', h'⟩
theorem undef_rep (h : Rel P A nt pend env heap bor tm w U bl ob) {d : Option Nat} (hd : ∀ t, d = some t → t < nt) : ∃ ob', Rel P A nt pend (setO env d (.tup [])) heap bor (putO tm d undef) w U bl ob' :=
  h.put0 hd (.tup rfl (fun i x y hx => by simp at hx)) (fun own => .bare (bare_of rfl))
theorem call_pure (h : Rel P A nt pend env heap bor tm w U bl ob) {d : Option Nat} (hd : ∀ t, d = some t → t < nt) {f : FuncId} {args : List AV} {vs : Array Value} {Q : AV → Prop} (hc : CallOK P f args Q)
    (ha : RepL w (forb A bl heap) U bl args vs.toList) (hdata : AV.isDataL args = true) :
    Calls P f vs w fun e w' => ∃ r x, e = .returned x ∧ (∃ U' ob', Rel P A nt pend (setO env d r) heap bor (putO tm d x) w' U' bl ob') ∧ Q r := by
  have hF : ∀ b, forb A bl heap b → b < w.heap.size := by
    rintro b (hf | ⟨id, hi, _⟩)
    · have := h.f0 b hf; have := h.hB; omega
    · exact (h.base id b hi).2.1
  refine (hc.2 w (forb A bl heap) U vs hF ⟨ha.1, fun i x y hx hy => (ha.2 i x y hx hy).data (isDataL_get hdata i x hx)⟩).mono ?_
  rintro e w' ⟨r, x, U', own, rfl, hext, hrep, hown, hob, hq⟩
  refine ⟨r, x, rfl, ?_, hq⟩
  have h' := h.ext hext
  cases d with
  | none => exact ⟨_, _, h'⟩
  | some d =>
    refine ⟨_, _, h'.putG (hd d rfl) own hrep.ofNil (fun p u hp hou => ?_) (fun p b hb => ?_)⟩
    · obtain ⟨y, hy, ho⟩ := hown p u hp hou
      refine ⟨y, hy, ?_⟩
      unfold OwnOK at ho ⊢
      split at ho
      · rcases ho with ho | ⟨a, hn, e1, e2, e3, rest⟩
        · exact .inl ho
        · exact .inr ⟨a, hn, e1, e2, Nat.le_trans h.hB e3, rest⟩
      · obtain ⟨ao, cap, hx, hc, ho⟩ := ho
        refine ⟨ao, cap, hx, hc, ?_⟩
        rcases ho with ho | ⟨b, e1, e2, e3, rest⟩
        · exact .inl ho
        · exact .inr ⟨b, e1, e2, Nat.le_trans h.hB e3, rest⟩
      · obtain ⟨ao, cap, hx, hc, ho⟩ := ho
        refine ⟨ao, cap, hx, hc, ?_⟩
        rcases ho with ho | ⟨b, e1, e2, e3, rest⟩
        · exact .inl ho
        · exact .inr ⟨b, e1, e2, Nat.le_trans h.hB e3, rest⟩
      · trivial
    · obtain ⟨b1, b2, b3⟩ := hob p b hb
      exact ⟨⟨fun hg => by have := h.hG b hg; omega, b2, fun id hid => by have := (h.base id b hid).2.1; omega⟩, b3, fun l hl => absurd (h.obok l b hl).2.1 (by omega)⟩
def Amb.inner (A : Amb) (ob : Loc → Option Nat) (w : World) (U : Nat → Nat) (bl : Blocks) (heap : Heap) : Amb :=
  { B := A.B, F0 := A.F0, G := fun b => A.G b ∨ ∃ t p, ob (.env t p) = some b, w0 := w, bl0 := bl, U0 := U, h0 := heap }
theorem noO_get : ∀ {h : Heap}, noO h = true → ∀ id, (h.get id).isO = false
  | [], _, id => by simp [Heap.get, AObj.isO]
  | o :: r, hn, 0 => by simp only [noO, Bool.and_eq_true, Bool.not_eq_true'] at hn; simpa [Heap.get] using hn.1
  | o :: r, hn, id + 1 => by simp only [noO, Bool.and_eq_true, Bool.not_eq_true'] at hn; simp only [Heap.get]; exact noO_get hn.2 id
theorem Rel.inner (h : Rel P A nt pend env heap bor tm w U bl ob) (hb : bor = none) (hno : noO heap = true) :
    Rel P (A.inner ob w U bl heap) 0 [] [] heap none #[] w U bl (fun l => match l with | .env _ _ => none | l => ob l) where
  size := Nat.zero_le _
  env t := ⟨.undef, .bare (bare_of rfl)⟩
  len := h.len
  objs id b hid := by subst hb; exact h.objs id b hid
  inj := h.inj
  base id b hid := by
    obtain ⟨b1, b2, b3, b4⟩ := h.base id b hid
    refine ⟨b1, b2, b3, ?_⟩
    rintro (hg | ⟨t, p, hp⟩)
    · exact b4 hg
    · exact (h.obok _ b hp).2.2 id hid
  obinj l m b hl hm := h.obinj l m b (by cases l <;> first | exact hl | simp at hl) (by cases m <;> first | exact hm | simp at hm)
  obok l b hl := by
    have hl' : ob l = some b := by cases l <;> first | exact hl | simp at hl
    refine ⟨?_, (h.obok l b hl').2.1, (h.obok l b hl').2.2⟩
    rintro (hg | ⟨t, p, hp⟩)
    · exact (h.obok l b hl').1 hg
    · have := h.obinj _ _ _ hl' hp
      subst this
      simp at hl
  since := { below := BelowD.refl _ _, g0 := Grow0.refl _ _ _, ble := BlLe.refl _, pnd := fun id hid => ⟨hid, .inl rfl⟩, gown := fun b _ => ⟨rfl, rfl⟩, blen := Nat.le_refl _, ub := fun b _ => rfl }
  f0 := h.f0
  hB := h.hB
  hG b hg := by
    rcases hg with hg | ⟨t, p, hp⟩
    · exact h.hG b hg
    · exact (h.obok _ b hp).2.1
  pend p hp := by simp at hp
  fro := fun id hid => by rw [noO_get hno id] at hid; cases hid
theorem Rel.outer (h : Rel P A nt pend env heap none tm w U bl ob) {heap' : Heap} {w' : World} {U' : Nat → Nat} {bl' : Blocks} {ob' : Loc → Option Nat}
    (h' : Rel P (A.inner ob w U bl heap) 0 [] [] heap' none #[] w' U' bl' ob') : Rel P A nt pend env heap' none tm w' U' bl' (fun l => match l with | .env _ _ => ob l | l => ob' l) where
  size := h.size
  env t := by
    refine ⟨(h.env t).1.mono h'.since.g0 h'.since.ble, ownAt_keeps (h.env t).2 h'.since.g0 (fun p b hp hlt hF => ?_)⟩
    obtain ⟨g1, g2⟩ := h'.since.gown b (.inr ⟨t, p, hp⟩)
    refine ⟨g1, g2, ?_⟩
    rintro (hf | ⟨id, hid, _⟩)
    · exact hF (.inl hf)
    · exact (h'.base id b hid).2.2.2 (.inr ⟨t, p, hp⟩)
  len := h'.len
  objs id b hid := h'.objs id b hid
  inj := h'.inj
  base id b hid := by
    obtain ⟨b1, b2, b3, b4⟩ := h'.base id b hid
    exact ⟨b1, b2, b3, fun hg => b4 (.inl hg)⟩
  obinj l m b hl hm := by
    have kk : ∀ l, (match l with | Loc.env _ _ => ob l | l => ob' l) = some b → (∃ t p, l = .env t p ∧ ob l = some b) ∨ ((∀ t p, l ≠ .env t p) ∧ ob' l = some b) := by
      intro l hl
      cases l with
      | env t p => exact .inl ⟨t, p, rfl, hl⟩
      | cell id i p => exact .inr ⟨fun t p h => (by cases h), hl⟩
      | mapv id i p => exact .inr ⟨fun t p h => (by cases h), hl⟩
    rcases kk l hl with ⟨t, p, rfl, hl'⟩ | ⟨hn, hl'⟩ <;> rcases kk m hm with ⟨t', p', rfl, hm'⟩ | ⟨hn', hm'⟩
    · exact h.obinj _ _ b hl' hm'
    · exact absurd (.inr ⟨t, p, hl'⟩) (h'.obok m b hm').1
    · exact absurd (.inr ⟨t', p', hm'⟩) (h'.obok l b hl').1
    · exact h'.obinj _ _ b hl' hm'
  obok l b hl := by
    cases l with
    | env t p =>
      obtain ⟨o1, o2, o3⟩ := h.obok _ b hl
      exact ⟨o1, Nat.lt_of_lt_of_le o2 h'.since.below.size, fun id hid => (h'.base id b hid).2.2.2 (.inr ⟨t, p, hl⟩)⟩
    | cell id i p =>
      obtain ⟨o1, o2, o3⟩ := h'.obok _ b hl
      exact ⟨fun hg => o1 (.inl hg), o2, o3⟩
    | mapv id i p =>
      obtain ⟨o1, o2, o3⟩ := h'.obok _ b hl
      exact ⟨fun hg => o1 (.inl hg), o2, o3⟩
  since := by
    refine { below := h.since.below.trans h'.since.below, g0 := h.since.g0.trans h'.since.g0 h.since.below.size, ble := h.since.ble.trans h'.since.ble, pnd := fun id hid => ?_, gown := fun b hb => ?_, blen := Nat.le_trans h.since.blen h'.since.blen, ub := fun b hb => ?_ }
    · obtain ⟨p1, p2⟩ := h.since.pnd id hid
      obtain ⟨q1, q2⟩ := h'.since.pnd id p1
      refine ⟨q1, ?_⟩
      rcases p2 with p2 | p2
      · rcases q2 with q2 | q2
        · exact .inl (q2.trans p2)
        · right; rw [← p2]; exact q2
      · exact .inr p2
    · obtain ⟨g1, g2⟩ := h.since.gown b hb
      obtain ⟨k1, k2⟩ := h'.since.gown b (.inl hb)
      exact ⟨k1.trans g1, k2.trans g2⟩
    · exact (h'.since.ub b hb).trans (h.since.ub b hb)
  f0 := h.f0
  hB := Nat.le_trans h.hB h'.since.below.size
  hG b hb := Nat.lt_of_lt_of_le (h.hG b hb) h'.since.below.size
  pend p hp := by
    obtain ⟨p1, p2, p3⟩ := h.pend p hp
    obtain ⟨q1, q2⟩ := h'.since.pnd p.1 p1
    refine ⟨q1, ?_, p3⟩
    rcases q2 with q2 | q2
    · exact q2.trans p2
    · have q2 : (heap.get p.1).isArr = true := q2
      rw [p2, p3] at q2; cases q2
  fro := fun id hid => Nat.le_trans h.since.blen (h'.fro id hid)
theorem call_inl (h : Rel P A nt pend env heap none tm w U bl ob) {d : Option Nat} (hd : ∀ t, d = some t → t < nt) (hno : noO heap = true) {f : FuncId} {args : List AV} {vs : Array Value} {k : AV → Heap → Prop} (hc : InlOK P f args heap k)
    (ha : RepL w (forb A bl heap) U bl args vs.toList) :
    Calls P f vs w fun e w' => ∃ r x heap', e = .returned x ∧ (∃ U' bl' ob', Rel P A nt pend (setO env d r) heap' none (putO tm d x) w' U' bl' ob') ∧ k r heap' := by
  refine (hc.2 (A.inner ob w U bl heap) w U bl _ vs (h.inner rfl hno) ha).mono ?_
  rintro e w' ⟨r, x, heap', U', bl', ob', own, rfl, hrel, hrep, hown, hob, hk⟩
  refine ⟨r, x, heap', rfl, ?_, hk⟩
  have h' := h.outer hrel
  cases d with
  | none => exact ⟨_, _, _, h'⟩
  | some d =>
    refine ⟨_, _, _, h'.putG (hd d rfl) own hrep hown (fun p b hb => ?_)⟩
    obtain ⟨⟨o1, o2, o3⟩, o4, o5⟩ := hob p b hb
    refine ⟨⟨fun hg => o1 (.inl hg), o2, o3⟩, o4, fun l hl => ?_⟩
    exfalso
    cases l with
    | env t q => exact o1 (.inr ⟨t, q, hl⟩)
    | cell id i q => exact o5 _ hl
    | mapv id i p => exact o5 _ hl
theorem run_call_value {c : Call} {f : Operand} {ρ : Operand → Value} {ty : TypeId} {g : FuncId} {first caps : Array Value} (hc : c.callee = .value f) (hf : ρ f = .func (.func g) first caps) (hb : Bodied P g) (hN : NameOK P) :
    (do let d ← resolve ρ c ty; invoke d.target d.args : Sem Next).run P w = .ok (.enter g (first ++ c.args.map ρ ++ caps)) w := by
  obtain ⟨fn, h1, h2⟩ := hb
  have h3 := hN g fn h1 h2
  have h4 : fn.body.isNone = false := by cases hbd : fn.body <;> simp_all
  simp only [Sem.run_bind, resolve, hc, hf, Deferred.ofValue, Sem.run_pure, Result.andThen_ok, invoke, callFunc, run_program, h1]
  simp [h3, h4]
theorem run_call_builtin {c : Call} {b : Builtin} {ρ : Operand → Value} {ty : TypeId} (hc : c.callee = .builtin b) :
    ∃ cs, (do let d ← resolve ρ c ty; invoke d.target d.args : Sem Next).run P w = (builtin b c.argTypes ty cs (c.args.map ρ)).run P w := by
  simp only [Sem.run_bind, resolve, hc, Sem.run_pure, Result.andThen_ok, invoke]
  exact ⟨_, rfl⟩
end
end Ax

namespace Ax
open Go Go.RowKit
section
variable {P : Program} {A : Amb} {nt : Nat} {pend : List (Nat × AObj)} {a : Act} {w : World}
theorem evo_at {env : Env} {heap : Heap} {bor : Option (Nat × AV)} {U : Nat → Nat} {bl : Blocks} {ob : Loc → Option Nat} (h : Rel P A nt pend env heap bor a.tmps w U bl ob) (t : TypeId) (x : Operand) :
    Rep w (forb A bl heap) U bl (evo P t env x) (a.eval x) := evo_rep (fun t => (h.env t).1) t x
theorem const_own (t : TypeId) (v : Value) {F : Nat → Prop} {U : Nat → Nat} {B : Nat} (own : List Nat → Option Nat) : OwnAt w F U B own (ofConst P t v) v := (ofConst_rep (w := w) (F := F) (U := U) (bl := []) (B := B) (P := P) t v).2 own
theorem evo_const_own (t : TypeId) {x : Operand} (hx : ∀ s, x ≠ .tmp s) {env : Env} {F : Nat → Prop} {U : Nat → Nat} {B : Nat} (own : List Nat → Option Nat) : OwnAt w F U B own (evo P t env x) (a.eval x) := by
  cases x with
  | tmp s => exact absurd rfl (hx s)
  | const v => exact const_own t v own
  | func f => exact .bare (bare_of rfl)
  | global g => exact .bare (bare_of rfl)
abbrev NextIs (P : Program) (A : Amb) (nt : Nat) (pend : List (Nat × AObj)) (k : St → Prop) : Act → World → Prop := fun a' w' => ∃ st', Good P A nt pend st' a' w' ∧ k st'
theorem next_put {env : Env} {heap : Heap} {bor : Option (Nat × AV)} {a : Act} (ha : a.defers = A.ds) {d : Option Nat} {v : AV} {x : Value} {w' : World} {k : St → Prop} (h : ∃ U bl ob, Rel P A nt pend (setO env d v) heap bor (putO a.tmps d x) w' U bl ob)
    (hk : putK env d v fun env => k ⟨env, heap, [], bor⟩) : NextIs P A nt pend k ⟨putO a.tmps d x, a.defers⟩ w' := by
  obtain ⟨U, bl, ob, h⟩ := h
  rw [putK_eq] at hk
  refine ⟨_, ⟨ha, rfl, U, bl, ob, h⟩, hk⟩
theorem plain_wp {cx : Ctx} (hP : cx.P = P) {o : Oper} {env : Env} {heap : Heap} {bor : Option (Nat × AV)} {U : Nat → Nat} {bl : Blocks} {ob : Loc → Option Nat} (h : Rel P A nt pend env heap bor a.tmps w U bl ob) (ha : a.defers = A.ds)
    (hd : ∀ t, o.dst = some t → t < nt) {k : St → Prop} {Q : Exit → Act → World → Prop} {v : AV} (he : evalOp cx.P o env heap = some v) (hk : putK env o.dst v fun env => k ⟨env, heap, [], bor⟩) :
    o.wp P a w (NextIs P A nt pend k) Q := by
  subst hP
  obtain ⟨x, w', U', hr, hext, hrep, hown⟩ := evalOp_sound (B := A.B) he (fun t => (h.env t).1) h.objsOK (h.notF (Nat.le_refl _))
  obtain ⟨U2, ob', h'⟩ := h.give hd hext hrep hown
  exact value_wp hr (next_put ha ⟨U2, bl, ob', h'⟩ hk)
end
end Ax

namespace Ax
open Go Go.RowKit
def pth (v : AV) (j : Nat) (p : List Nat) : List Nat := match v with | .agg _ => j :: p | _ => p
theorem cells_at {v c : AV} {j : Nat} (h : v.cells[j]? = some c) (hn : ∀ l, v ≠ .tup l) (p : List Nat) (u : AV) (hc : c.at p = some u) : v.at (pth v j p) = some u := by
  unfold AV.cells at h
  split at h
  · simp only [pth, AV.at, h]; exact hc
  · rename_i hna
    cases j with
    | zero =>
      simp at h; subst h
      have : pth v 0 p = p := by
        unfold pth
        split
        · exact absurd rfl (hna _)
        · rfl
      rw [this]; exact hc
    | succ j => simp at h
section
variable {P : Program} {A : Amb} {nt : Nat} {pend : List (Nat × AObj)} {env : Env} {heap : Heap} {bor : Option (Nat × AV)} {tm : Array Value} {w : World} {U : Nat → Nat} {bl : Blocks} {ob : Loc → Option Nat}
theorem storeAV_of {t : TypeId} {p v : AV} {h' : Heap} (h : storeAV P heap t p v = some h') : v.cells.length = tySz P t ∧ v.cells.all AV.scal = true ∧ ((∃ id off cs, p = .ptr id off ∧ heap.get id = .cells cs ∧ off + tySz P t ≤ cs.length ∧ h' = heap.set id (.cells (setRange cs off v.cells))) ∨
    ∃ id sz i off, p = .eptr id sz i off ∧ storeArr heap id sz i off v = some h') := by
  unfold storeAV at h
  cases hc : (!(Nat.beq v.cells.length (tySz P t)) || !(v.cells.all AV.scal)) with
  | true => rw [hc] at h; simp at h
  | false =>
    rw [hc] at h
    simp only [cond_false] at h
    simp only [Bool.or_eq_false_iff, Bool.not_eq_false', beq_eq, decide_eq_true_eq] at hc
    refine ⟨hc.1, hc.2, ?_⟩
    split at h
    · rename_i id off
      split at h
      · rename_i cs hg
        rw [ble_eq] at h
        by_cases hl : off + tySz P t ≤ cs.length
        · simp [hl] at h; exact .inl ⟨id, off, cs, rfl, hg, hl, h.symm⟩
        · simp [hl] at h
      · simp at h
    · exact .inr ⟨_, _, _, _, rfl, h⟩
    · simp at h
theorem store_gen (h : Rel P A nt pend env heap bor tm w U bl ob) {id off b : Nat} {cs : List AV} {t : TypeId} {v : AV} {x : Value} (hid : bl[id]? = some (some b)) (hg : heap.get id = .cells cs) (hl : off + tySz P t ≤ cs.length)
    (hv : Rep w (forb A bl heap) U bl v x) (hvl : v.cells.length = tySz P t) (hvs : v.cells.all AV.scal = true) (hpos : 0 < tySz P t) {ov : List Nat → Option Nat} (hov : OwnAt w (forb A bl heap) U A.B ov v x)
    (h1 : ∀ p b, ov p = some b → ¬ A.G b ∧ b < w.heap.size ∧ ∀ id : Nat, bl[id]? ≠ some (some b)) (h2 : ∀ p q b, ov p = some b → ov q = some b → p = q) (h3 : ∀ p b l, ov p = some b → ob l ≠ some b) :
    ∃ w', (Instr.storeAt t (.pointer (some ⟨b, off, none⟩)) x).run P w = .ok () w' ∧ ∃ ob', Rel P A nt pend env (heap.set id (.cells (setRange cs off v.cells))) bor tm w' U bl ob' := by
  obtain ⟨k1, k2, _⟩ := rep_cells hv hvs
  have hobj := h.objs id b hid
  rw [hg] at hobj
  obtain ⟨c, e, fr, o1, o2, o3, o4⟩ := hobj
  have hxl : x.cells.toList.length = tySz P t := by rw [← k1.1]; exact hvl
  obtain ⟨w', c', r1, r2, r3, r4⟩ := storeCells_run (P := P) b off x.cells.toList 0 w c e fr o1 (by omega) k2 (fun o h1 h2 => o3 o (by omega))
  have hnt : ∀ l, v ≠ .tup l := by intro l e; subst e; simp [AV.cells, AV.scal] at hvs
  refine ⟨w', ?_, fun l => match l with | .cell id' i p => if id' = id ∧ off ≤ i ∧ i < off + tySz P t then ov (pth v (i - off) p) else ob (.cell id' i p) | l => ob l, ?_⟩
  · unfold Instr.storeAt Instr.sureAddr storeVar
    simp only [Sem.run_bind, Sem.run_pure, Result.andThen_ok, run_size' hpos]
    rw [if_neg (by rw [← hxl]; simp)]
    exact r1
  · have hcl : ∀ i p b', (if True ∧ off ≤ i ∧ i < off + tySz P t then ov (pth v (i - off) p) else ob (.cell id i p)) = some b' → (off ≤ i ∧ i < off + tySz P t ∧ ov (pth v (i - off) p) = some b') ∨ ob (.cell id i p) = some b' := by
      intro i p b' hh
      by_cases hc : off ≤ i ∧ i < off + tySz P t
      · rw [if_pos ⟨trivial, hc⟩] at hh; exact .inl ⟨hc.1, hc.2, hh⟩
      · rw [if_neg (fun q => hc q.2)] at hh; exact .inr hh
    have key : ∀ l b', (match l with | Loc.cell id' i p => if id' = id ∧ off ≤ i ∧ i < off + tySz P t then ov (pth v (i - off) p) else ob (.cell id' i p) | l => ob l) = some b' →
        (∃ i p, l = .cell id i p ∧ off ≤ i ∧ i < off + tySz P t ∧ ov (pth v (i - off) p) = some b') ∨ ob l = some b' := by
      intro l b' hh
      cases l with
      | env t p => exact .inr hh
      | mapv j i q => exact .inr hh
      | cell j i p =>
        simp only at hh
        by_cases hc : j = id ∧ off ≤ i ∧ i < off + tySz P t
        · rw [if_pos hc] at hh; obtain ⟨rfl, c1, c2⟩ := hc; exact .inl ⟨i, p, rfl, c1, c2, hh⟩
        · rw [if_neg hc] at hh; exact .inr hh
    refine h.write hid (by rw [hg]; simp) (.inr (by intro kt reg ents e; rw [hg] at e; cases e)) (by simp) (by simp [AObj.isO]) r2 (bor' := bor) (fun F hF hmono howns => ?_) (fun l hn1 hn2 => ?_) (fun l m b' hl' hm' => ?_) (fun l b' hl' => ?_) (fun j hj => rfl)
    · refine ⟨c', e, fr, r2.here, by rw [r3, setRange_length, o2], fun o ho => ?_, fun i y z hy hz => ?_⟩
      · have := o3 o (by rw [← r3]; exact ho)
        simp only [World.frozen?, r2.here]
        simp only [World.frozen?, o1] at this
        exact this
      · rw [setRange_get, hvl] at hy
        rw [r4, hxl] at hz
        simp only [Nat.add_zero] at hz
        have hFr : ∀ bl2 v x, Rep w (forb A bl heap) U bl2 v x → Rep w F U bl2 v x := fun bl2 v x hr => hr.mono ⟨fun c _ hf => .inl ((hF c).1 hf), fun c _ hc => ⟨Nat.le_refl _, fun o _ => rfl⟩, fun _ hb => ⟨hb, Nat.le_refl _⟩⟩ (BlLe.refl _)
        have hFo : ∀ own v x, OwnAt w (forb A bl heap) U A.B own v x → OwnAt w F U A.B own v x := fun own v x ho => ownAt_keeps ho ⟨fun c _ hf => .inl ((hF c).1 hf), fun c _ hc => ⟨Nat.le_refl _, fun o _ => rfl⟩, fun _ hb => ⟨hb, Nat.le_refl _⟩⟩ (fun p c _ _ hn => ⟨rfl, rfl, fun hf => hn ((hF c).1 hf)⟩)
        by_cases hc : off ≤ i ∧ i < off + tySz P t
        · rw [if_pos ⟨hc.1, hc.2, by omega⟩] at hy
          rw [if_pos (by omega)] at hz
          refine ⟨hmono _ _ _ (hFr _ _ _ (k1.2 _ y z hy (by simpa using hz))), ?_⟩
          have e1 : (fun p => if id = id ∧ off ≤ i ∧ i < off + tySz P t then ov (pth v (i - off) p) else ob (.cell id i p)) = fun p => ov (pth v (i - off) p) := funext fun p => if_pos ⟨rfl, hc.1, hc.2⟩
          show OwnAt w' F U A.B (fun p => if id = id ∧ off ≤ i ∧ i < off + tySz P t then ov (pth v (i - off) p) else ob (.cell id i p)) y z
          rw [e1]
          refine howns _ _ _ (fun p => ?_) (hFo _ _ _ ?_)
          · intro hh; exact (h1 _ _ hh).2.2 id hid
          · intro p u hp hou
            obtain ⟨q, hq, hok⟩ := hov _ u (cells_at hy hnt p u hp) hou
            refine ⟨q, ?_, hok⟩
            unfold AV.cells at hy
            unfold pth at hq
            split at hy
            · rename_i l
              simp only at hq
              cases hv with
              | @agg _ _ vs hn hh =>
                simp only [vat] at hq
                have hz' : vs[i - off]? = some z := by simpa [Value.cells] using hz
                rw [hz'] at hq; exact hq
            · rename_i hna
              have hio : i - off = 0 := by
                have := (List.getElem?_eq_some_iff.1 hy).1; simp at this; omega
              rw [hio] at hy hz
              simp at hy; subst hy
              have hxc := (scal_rep hv (by
                have hh := hvs
                unfold AV.cells at hh
                split at hh
                · exact absurd rfl (hna _)
                · simpa using hh)).1
              rw [hxc] at hz
              simp at hz; subst hz
              split at hq
              · exact absurd rfl (hna _)
              · exact hq
        · rw [if_neg (fun q => hc ⟨q.1, q.2.1⟩)] at hy
          rw [if_neg (by omega)] at hz
          obtain ⟨q1, q2⟩ := o4 i y z hy hz
          refine ⟨hmono _ _ _ (hFr _ _ _ q1), ?_⟩
          have e1 : (fun p => if id = id ∧ off ≤ i ∧ i < off + tySz P t then ov (pth v (i - off) p) else ob (.cell id i p)) = fun p => ob (.cell id i p) := funext fun p => if_neg (fun q => hc q.2)
          show OwnAt w' F U A.B (fun p => if id = id ∧ off ≤ i ∧ i < off + tySz P t then ov (pth v (i - off) p) else ob (.cell id i p)) y z
          rw [e1]
          exact howns _ _ _ (fun p hh => (h.obok _ _ hh).2.2 id hid) (hFo _ _ _ q2)
    · cases l with
      | env t p => rfl
      | mapv j i q => rfl
      | cell j i p =>
        simp only
        rw [if_neg]
        rintro ⟨rfl, _⟩
        exact hn1 i p rfl
    · rcases key l b' hl' with ⟨i, p, rfl, c1, c2, c3⟩ | hl2 <;> rcases key m b' hm' with ⟨i', p', rfl, d1, d2, d3⟩ | hm2
      · have := h2 _ _ _ c3 d3
        unfold pth at this
        split at this
        · injection this with e1 e2
          subst e2
          have : i = i' := by omega
          subst this; rfl
        · rename_i hna
          have : tySz P t = 1 := by
            rw [← hvl]
            unfold AV.cells
            split
            · exact absurd rfl (hna _)
            · rfl
          have : i = i' := by omega
          subst this; subst p; rfl
      · exact absurd hm2 (h3 _ _ _ c3)
      · exact absurd hl2 (h3 _ _ _ d3)
      · exact h.obinj _ _ b' hl2 hm2
    · rcases key l b' hl' with ⟨i, p, rfl, c1, c2, c3⟩ | hl2
      · exact h1 _ _ c3
      · exact h.obok _ _ hl2
end
end Ax

namespace Ax
open Go Go.RowKit
theorem strip_cells {v : AV} (h : v.cells.all AV.scal = true) : v.strip.cells = AV.stripL v.cells := by
  cases v with
  | agg cs => simp [AV.strip, AV.cells]
  | own v =>
    cases v <;> simp [AV.cells, AV.scal] at h
    simp [AV.cells, AV.strip, AV.stripL]
  | tup vs => simp [AV.cells, AV.scal] at h
  | uni v => simp [AV.cells, AV.strip, AV.stripL]
  | _ => simp [AV.cells, AV.strip, AV.stripL]
theorem setRange_all (old l : List AV) (h : old.length = l.length) : setRange old 0 l = l := by
  apply List.ext_getElem?
  intro i
  rw [setRange_get]
  by_cases hi : i < l.length
  · rw [if_pos (by omega)]; simp
  · rw [if_neg (by omega), List.getElem?_eq_none (by omega), List.getElem?_eq_none (by omega)]
theorem setElem_cells {old v : AV} {off sz : Nat} (ho : old.cells.length = sz) (hv : off + v.cells.length ≤ sz) (h0 : 0 < v.cells.length) : (setElem old off sz v).cells = setRange old.cells off v.cells := by
  unfold setElem
  split
  · rename_i cs
    simp only [AV.cells] at ho
    cases hc : (Nat.beq off 0 && Nat.beq v.cells.length sz) with
    | false => simp [AV.cells]
    | true =>
      simp only [cond_true]
      simp only [Bool.and_eq_true, beq_eq, decide_eq_true_eq] at hc
      obtain ⟨rfl, h2⟩ := hc
      split
      · rename_i l; simp only [AV.cells] at h2 ⊢; exact (setRange_all _ _ (by omega)).symm
      · rfl
  · rename_i hna
    have hc : old.cells = [old] := by
      unfold AV.cells
      split
      · exact absurd rfl (hna _)
      · rfl
    rw [hc] at ho ⊢
    simp at ho
    obtain rfl : off = 0 := by omega
    exact (setRange_all _ _ (by simp; omega)).symm
theorem upd_get (g : Nat → AV) (i : Nat) (v : AV) (j : Nat) : upd g i v j = if j = i then v else g j := by
  unfold upd; rw [beq_eq]; by_cases h : j = i <;> simp [h]
theorem splice_get (g : Nat → AV) (lo k : Nat) (g' : Nat → AV) (j : Nat) : splice g lo k g' j = if lo ≤ j ∧ j < lo + k then g' (j - lo) else g j := by
  unfold splice; rw [ble_eq, blt_eq]
  by_cases h : lo ≤ j ∧ j < lo + k
  · simp [h]
  · rw [if_neg h]
    have : (decide (lo ≤ j) && decide (j < lo + k)) = false := by
      simp only [Bool.and_eq_false_iff, decide_eq_false_iff_not]; exact Decidable.not_and_iff_not_or_not.1 h
    simp [this]
section
variable {P : Program} {A : Amb} {nt : Nat} {pend : List (Nat × AObj)} {env : Env} {heap : Heap} {bor : Option (Nat × AV)} {tm : Array Value} {w : World} {U : Nat → Nat} {bl : Blocks} {ob : Loc → Option Nat}
theorem arr_obj (h : Rel P A nt pend env heap bor tm w U bl ob) {id b : Nat} (hid : bl[id]? = some (some b)) {sz n : Nat} {g : Nat → AV} (hg : heap.get id = .arr sz n g) :
    ∃ c e fr, w.heap[b]? = some (.cells c e fr) ∧ 0 < sz ∧ n * sz ≤ c.size ∧ (∀ o, o < c.size → w.frozen? ⟨b, o, none⟩ = false) ∧
      (∀ i, i < n → (g i).cells.length = sz) ∧ ∀ (i j : Nat) x, i < n → (g i).cells[j]? = some x → ∃ y, c[i * sz + j]? = some y ∧ y.oneCell' = true ∧ Rep w (forb A bl heap) U [] x y := by
  have hobj := h.objs id b hid
  rw [hg] at hobj
  exact hobj
theorem arr_write (h : Rel P A nt pend env heap bor tm w U bl ob) {id b : Nat} (hid : bl[id]? = some (some b)) {sz n : Nat} {g g' : Nat → AV} (hg : heap.get id = .arr sz n g) {c c' : Array Value} {e : TypeId} {fr : Nat × Nat} (hb : w.heap[b]? = some (.cells c e fr))
    {w' : World} (hw : Wrote w b (.cells c' e fr) w') (hs : c'.size = c.size) (hsh : ∀ i, i < n → (g' i).cells.length = sz)
    (hc : ∀ (i j : Nat) x, i < n → (g' i).cells[j]? = some x → ∃ y, c'[i * sz + j]? = some y ∧ y.oneCell' = true ∧ Rep w (forb A bl heap) U [] x y) :
    Rel P A nt pend env (heap.set id (.arr sz n g')) bor tm w' U bl ob := by
  obtain ⟨c0, e0, fr0, k1, k2, k3, k4, k5, k6⟩ := arr_obj h hid hg
  rw [hb] at k1; cases k1
  refine h.write hid (by rw [hg]; simp) (.inr (by intro kt reg ents e; rw [hg] at e; cases e)) (by simp) (by simp [AObj.isO]) hw (bor' := bor) (fun F hF hmono howns => ?_) (fun l _ _ => rfl) h.obinj (fun l c hl => h.obok l c hl) (fun j hj => rfl)
  have hFr : ∀ bl2 v x, Rep w (forb A bl heap) U bl2 v x → Rep w F U bl2 v x := fun bl2 v x hr => hr.mono ⟨fun c _ hf => .inl ((hF c).1 hf), fun c _ hc => ⟨Nat.le_refl _, fun o _ => rfl⟩, fun _ hb => ⟨hb, Nat.le_refl _⟩⟩ (BlLe.refl _)
  refine ⟨c', e, fr, hw.here, k2, by rw [hs]; exact k3, fun o ho => ?_, hsh, fun i j x hi hx => ?_⟩
  · have := k4 o (by rw [← hs]; exact ho)
    simp only [World.frozen?, hw.here]
    simp only [World.frozen?, hb] at this
    exact this
  · obtain ⟨y, h1, h2, h3⟩ := hc i j x hi hx
    exact ⟨y, h1, h2, hmono _ _ _ (hFr _ _ _ h3)⟩
theorem storeArr_sound (h : Rel P A nt pend env heap bor tm w U bl ob) {id sz i off b : Nat} {t : TypeId} {v : AV} {x : Value} {heap' : Heap} (hs : storeArr heap id sz i off v = some heap') (hna : (heap.get id).isO = false) (hid : bl[id]? = some (some b))
    (hv : Rep w (forb A bl heap) U bl v x) (hvl : v.cells.length = tySz P t) (hvs : v.cells.all AV.scal = true) (hpos : 0 < tySz P t) :
    ∃ w', (Instr.storeAt t (.pointer (some ⟨b, i * sz + off, none⟩)) x).run P w = .ok () w' ∧ Rel P A nt pend env heap' bor tm w' U bl ob := by
  unfold storeArr at hs
  split at hs
  · rename_i sz' n g hg
    cases hc : (Nat.beq sz sz' && Nat.blt i n && Nat.ble (off + v.cells.length) sz && v.isData) with
    | false => rw [hc] at hs; simp at hs
    | true =>
      rw [hc] at hs
      simp only [cond_true, Option.some.injEq] at hs
      subst hs
      simp only [Bool.and_eq_true, beq_eq, blt_eq, ble_eq, decide_eq_true_eq] at hc
      obtain ⟨⟨⟨rfl, hi⟩, hle⟩, hd⟩ := hc
      obtain ⟨c, e, fr, k1, k2, k3, k4, k5, k6⟩ := arr_obj h hid hg
      obtain ⟨r1, r2, _⟩ := rep_cells hv hvs
      have hxl : x.cells.toList.length = tySz P t := by rw [← r1.1]; exact hvl
      have hmul := index_mul (sz := sz) hi
      obtain ⟨w', c', s1, s2, s3, s4⟩ := storeCells_run (P := P) b (i * sz + off) x.cells.toList 0 w c e fr k1 (by omega) r2 (fun o h1 h2 => k4 o (by omega))
      refine ⟨w', ?_, arr_write h hid hg k1 s2 s3 (fun j hj => ?_) (fun j k y hj hy => ?_)⟩
      · unfold Instr.storeAt Instr.sureAddr storeVar
        simp only [Sem.run_bind, Sem.run_pure, Result.andThen_ok, run_size' hpos]
        rw [if_neg (by rw [← hxl]; simp)]
        exact s1
      · rw [upd_get]
        split
        · rename_i e1; subst e1
          rw [setElem_cells (k5 _ hi) (by rw [strip_cells hvs, stripL_length]; exact hle) (by rw [strip_cells hvs, stripL_length]; omega), setRange_length]; exact k5 _ hi
        · exact k5 j hj
      · rw [upd_get] at hy
        split at hy
        · rename_i e1; subst e1
          rw [setElem_cells (k5 _ hi) (by rw [strip_cells hvs, stripL_length]; exact hle) (by rw [strip_cells hvs, stripL_length]; omega), setRange_get, strip_cells hvs, stripL_length] at hy
          split at hy
          · rename_i hin
            rw [stripL_get] at hy
            obtain ⟨q, hq, rfl⟩ := Option.map_eq_some_iff.1 hy
            have hql := (List.getElem?_eq_some_iff.1 hq).1
            have hxv : x.cells.toList[k - off]? = some (x.cells.toList[k - off]'(by rw [hxl, ← hvl]; exact hql)) := by simp
            refine ⟨_, ?_, r2 _ (List.mem_of_getElem? hxv), ((r1.2 _ _ _ hq hxv).data (cells_data hd _ _ hq)).strip⟩
            rw [s4, if_pos (by omega), ← hxv]; congr 1; omega
          · rename_i hout
            obtain ⟨y', h1, h2, h3⟩ := k6 j k y hi hy
            have hk : k < sz := by rw [← k5 j hi]; exact (List.getElem?_eq_some_iff.1 hy).1
            refine ⟨y', ?_, h2, h3⟩
            rw [s4, if_neg (by rw [k5 j hi] at hout; omega)]; exact h1
        · rename_i e1
          obtain ⟨y', h1, h2, h3⟩ := k6 j k y hj hy
          have hk : k < sz := by rw [← k5 j hj]; exact (List.getElem?_eq_some_iff.1 hy).1
          refine ⟨y', ?_, h2, h3⟩
          rw [s4, if_neg ?_]; exact h1
          rcases Nat.lt_trichotomy j i with hlt | rfl | hgt
          · have := index_mul (sz := sz) hlt; omega
          · exact absurd rfl e1
          · have := index_mul (sz := sz) hgt; omega
  · rename_i hg; rw [hg] at hna; cases hna
  · simp at hs
theorem splice_sound (h : Rel P A nt pend env heap bor tm w U bl ob) {id b sz n lo k : Nat} {g g' : Nat → AV} {cs : List Value} (hid : bl[id]? = some (some b)) (hg : heap.get id = .arr sz n g) (hle : lo + k ≤ n) (hl : cs.length = k * sz) (h1 : ∀ y ∈ cs, y.oneCell' = true)
    (hs : ∀ i, i < k → (g' i).cells.length = sz) (hc : ∀ (i j : Nat) x, i < k → (g' i).cells[j]? = some x → ∃ y, cs[i * sz + j]? = some y ∧ Rep w (forb A bl heap) U [] x y) :
    ∃ w', (storeCells ⟨b, lo * sz, none⟩ cs).run P w = .ok () w' ∧ Rel P A nt pend env (heap.set id (.arr sz n (splice g lo k g'))) bor tm w' U bl ob := by
  obtain ⟨c, e, fr, k1, k2, k3, k4, k5, k6⟩ := arr_obj h hid hg
  have hmul : (lo + k) * sz ≤ n * sz := Nat.mul_le_mul_right _ hle
  have hsp : (lo + k) * sz = lo * sz + k * sz := Nat.add_mul _ _ _
  obtain ⟨w', c', s1, s2, s3, s4⟩ := storeCells_run (P := P) b (lo * sz) cs 0 w c e fr k1 (by omega) h1 (fun o h1 h2 => k4 o (by omega))
  refine ⟨w', s1, arr_write h hid hg k1 s2 s3 (fun i hi => ?_) (fun i j x hi hx => ?_)⟩
  · rw [splice_get]; split
    · exact hs _ (by omega)
    · exact k5 i hi
  · rw [splice_get] at hx
    split at hx
    · rename_i hin
      obtain ⟨y, hy, hr⟩ := hc (i - lo) j x (by omega) hx
      have hyl := (List.getElem?_eq_some_iff.1 hy).1
      have e1 : i * sz = lo * sz + (i - lo) * sz := by rw [← Nat.add_mul]; congr 1; omega
      refine ⟨y, ?_, h1 y (List.mem_of_getElem? hy), hr⟩
      rw [s4, if_pos (by omega), ← hy]; congr 1; omega
    · rename_i hout
      obtain ⟨y, hy, hr⟩ := k6 i j x hi hx
      have hj : j < sz := by rw [← k5 i hi]; exact (List.getElem?_eq_some_iff.1 hx).1
      refine ⟨y, ?_, hr⟩
      rw [s4, if_neg ?_]; exact hy
      rcases Nat.lt_or_ge i lo with hlt | hge
      · have := index_mul (sz := sz) hlt; omega
      · have : (lo + k) * sz ≤ i * sz := Nat.mul_le_mul_right _ (by omega); omega
end
section
variable {P : Program} {w : World} {F : Nat → Prop} {U : Nat → Nat} {bl : Blocks} {B : Nat}
theorem src_pre {e : TypeId} {h : Heap} {x : AV} {m n : Nat} {g : Nat → AV} {x' : Value} (hs : srcOf P e h x = some (m, g)) (hx : Rep w F U bl x x') (ho : ObjsOK P w F U bl B h) (h0 : 0 < tySz P e) (hn : n ≤ m) :
    (Builtin.lenOf x').run P w = .ok m w ∧ ∃ cs : List Value, (Builtin.firstCells (tySz P e) n x').run P w = .ok cs.toArray w ∧ cs.length = n * tySz P e ∧ (∀ y ∈ cs, y.oneCell' = true) ∧
    (∀ i, i < n → (g i).cells.length = tySz P e) ∧ ∀ (i j : Nat) c, i < n → (g i).cells[j]? = some c → ∃ y, cs[i * tySz P e + j]? = some y ∧ Rep w F U [] c y := by
  obtain ⟨_, hl, _⟩ := srcOf_sound hs hx ho h0
  refine ⟨hl, ?_⟩
  have key : ∀ (y : AV) (y' : Value), srcOf P e h y = some (n, g) → Rep w F U bl y y' → (Builtin.firstCells (tySz P e) n y') = Builtin.firstCells (tySz P e) n x' → ∃ cs : List Value, (Builtin.firstCells (tySz P e) n x').run P w = .ok cs.toArray w ∧ cs.length = n * tySz P e ∧ (∀ y ∈ cs, y.oneCell' = true) ∧
    (∀ i, i < n → (g i).cells.length = tySz P e) ∧ ∀ (i j : Nat) c, i < n → (g i).cells[j]? = some c → ∃ y, cs[i * tySz P e + j]? = some y ∧ Rep w F U [] c y := by
    intro y y' h1 h2 h3
    obtain ⟨cs, _, q2, q3, q4, q5, q6⟩ := srcOf_sound h1 h2 ho h0
    rw [← h3]
    exact ⟨cs, q2 w rfl, q3, q4, q5, q6⟩
  have vcase : ∀ sz n0 g0, Rep w F U bl (.vec sz n0 g0) x' → (bif Nat.beq sz (tySz P e) then some (n0, g0) else none) = some (m, g) → ∃ cs : List Value, (Builtin.firstCells (tySz P e) n x').run P w = .ok cs.toArray w ∧ cs.length = n * tySz P e ∧ (∀ y ∈ cs, y.oneCell' = true) ∧
    (∀ i, i < n → (g i).cells.length = tySz P e) ∧ ∀ (i j : Nat) c, i < n → (g i).cells[j]? = some c → ∃ y, cs[i * tySz P e + j]? = some y ∧ Rep w F U [] c y := by
    intro sz n0 g0 hr hh
    cases hz : Nat.beq sz (tySz P e) with
    | false => simp [hz] at hh
    | true =>
      simp [hz] at hh
      obtain ⟨rfl, rfl⟩ := hh
      cases hr with
      | @vec _ _ _ _ ao cap hcap vals z1 z2 z3 z4 =>
        refine key (.vec sz n g0) (.slice ao n cap) (by simp [srcOf, hz]) (.vec (by omega) vals (fun h => ?_) (fun i hi => z2 i (by omega)) (fun i j hi hj => z3 i j (by omega) hj) (fun i j c hi hc => z4 i j c (by omega) hc)) (by cases ao <;> rfl)
        obtain ⟨q1, a, q2, q3, q4, q5, q6⟩ := z1 (by omega)
        have : n * sz ≤ n0 * sz := Nat.mul_le_mul_right _ hn
        exact ⟨q1, a, q2, q3, q4, by omega, fun i j hi hj => q6 i j (by omega) hj⟩
  have hs0 := hs
  unfold srcOf at hs
  split at hs
  · exact vcase _ _ _ hx hs
  · cases hx with | own hx => exact vcase _ _ _ hx hs
  · simp at hs
    obtain ⟨rfl, rfl⟩ := hs
    obtain rfl : n = 0 := by omega
    exact key _ _ hs0 hx rfl
  · rename_i id sz lo n0
    split at hs
    · rename_i sz' n' g0 hg
      cases hc : (Nat.beq sz sz' && Nat.beq sz (tySz P e) && Nat.ble (lo + n0) n') with
      | false => simp [hc] at hs
      | true =>
        simp [hc] at hs
        obtain ⟨rfl, rfl⟩ := hs
        simp only [Bool.and_eq_true, beq_eq, ble_eq, decide_eq_true_eq] at hc
        cases hx with
        | @row _ _ _ _ _ ao cap hcap hz =>
          refine key (.row id sz lo n) (.slice ao n cap) ?_ (.row (by omega) (fun h => hz (by omega))) (by cases ao <;> rfl)
          have h2 : (Nat.beq sz sz' && Nat.beq sz (tySz P e) && Nat.ble (lo + n) n') = true := by
            simp only [Bool.and_eq_true, beq_eq, ble_eq, decide_eq_true_eq]; exact ⟨hc.1, by omega⟩
          simp [srcOf, hg, h2]
    · simp at hs
  · simp at hs
end
end Ax

namespace Ax
open Go Go.RowKit
theorem stripCL_get (l : List AV) (i : Nat) : (AV.stripCL l)[i]? = (l[i]?).map AV.stripC := by
  induction l generalizing i with
  | nil => simp [AV.stripCL]
  | cons v r ih => cases i <;> simp [AV.stripCL, ih]
theorem stripCL_length (l : List AV) : (AV.stripCL l).length = l.length := by
  induction l with
  | nil => rfl
  | cons v r ih => simp [AV.stripCL, ih]
theorem oneA_cells (v : AV) : v.one.cells = [v.one] := by
  cases v <;> rfl
theorem stripC_cells (v : AV) : v.stripC.cells = [v.stripC] := by
  unfold AV.stripC
  split
  · rfl
  · exact oneA_cells _
theorem strip1_cells (v : AV) : ∃ cs, v.strip1.cells = cs ∧ cs.length = v.cells.length ∧ ∀ i : Nat, cs[i]? = (v.cells[i]?).map AV.stripC := by
  unfold AV.strip1
  split
  · rename_i l
    exact ⟨_, rfl, stripCL_length l, stripCL_get l⟩
  · rename_i hn
    have hv : v.cells = [v] := by
      unfold AV.cells
      split
      · exact absurd rfl (hn _)
      · rfl
    rw [hv]
    refine ⟨_, stripC_cells v, rfl, fun i => ?_⟩
    cases i <;> simp
theorem Rep.stripC {w : World} {F : Nat → Prop} {U : Nat → Nat} {bl : Blocks} {v : AV} {x : Value} (h : Rep w F U bl v x) : Rep w F U bl v.stripC x := by
  unfold AV.stripC
  split
  · exact h
  · have := h.strip
    unfold AV.one
    split
    · exact .undef
    · exact this
theorem stripC_bare (v : AV) : Bare v.stripC := by
  unfold AV.stripC
  split
  · exact bare_of rfl
  · unfold AV.one
    split
    · exact bare_of rfl
    · exact strip_bare _
section
variable {P : Program} {A : Amb} {nt : Nat} {pend : List (Nat × AObj)} {env : Env} {heap : Heap} {bor : Option (Nat × AV)} {tm : Array Value} {w : World} {U : Nat → Nat} {bl : Blocks} {ob : Loc → Option Nat}
theorem obj_o (h : Rel P A nt pend env heap bor tm w U bl ob) {id b : Nat} (hid : bl[id]? = some (some b)) {sz n : Nat} {g : Nat → AV} (hg : heap.get id = .oarr sz n g) :
    ∃ c e fr, w.heap[b]? = some (.cells c e fr) ∧ 0 < sz ∧ n * sz ≤ c.size ∧ U b = c.size ∧ (∀ o, w.frozen? ⟨b, o, none⟩ = false) ∧
      (∀ i, i < n → (g i).cells.length = sz) ∧ ∀ (i j : Nat) x, i < n → (g i).cells[j]? = some x → ∃ y, c[i * sz + j]? = some y ∧ y.oneCell' = true ∧ Rep w (forb A bl heap) U [] x y ∧ OwnAt w (forb A bl heap) U A.B (fun p => ob (.cell id (i * sz + j) p)) x y := by
  have hobj := h.objs id b hid
  rw [hg] at hobj
  exact hobj
theorem store_genO (h : Rel P A nt pend env heap bor tm w U bl ob) {id sz n i0 off b : Nat} {g : Nat → AV} {t : TypeId} {v : AV} {x : Value} (hid : bl[id]? = some (some b)) (hg : heap.get id = .oarr sz n g) (hi0 : i0 < n) (hle : off + v.cells.length ≤ sz) (hdt : v.isData = true)
    (hv : Rep w (forb A bl heap) U bl v x) (hvl : v.cells.length = tySz P t) (hvs : v.cells.all AV.scal = true) (hpos : 0 < tySz P t) {ov : List Nat → Option Nat} (hov : OwnAt w (forb A bl heap) U A.B ov v x)
    (h1 : ∀ p b, ov p = some b → ¬ A.G b ∧ b < w.heap.size ∧ ∀ id : Nat, bl[id]? ≠ some (some b)) (h2 : ∀ p q b, ov p = some b → ov q = some b → p = q) (h3 : ∀ p b l, ov p = some b → ob l ≠ some b) :
    ∃ w', (Instr.storeAt t (.pointer (some ⟨b, i0 * sz + off, none⟩)) x).run P w = .ok () w' ∧ ∃ ob', Rel P A nt pend env (heap.set id (.oarr sz n (upd g i0 (setElem (g i0) off sz v)))) bor tm w' U bl ob' := by
  obtain ⟨k1, k2, _⟩ := rep_cells hv hvs
  obtain ⟨c, e, fr, o1, o2, o3, ou, o4, o5, o6⟩ := obj_o h hid hg
  have hxl : x.cells.toList.length = tySz P t := by rw [← k1.1]; exact hvl
  have hmul := index_mul (sz := sz) hi0
  obtain ⟨w', c', r1, r2, r3, r4⟩ := storeCells_run (P := P) b (i0 * sz + off) x.cells.toList 0 w c e fr o1 (by omega) k2 (fun o h1 h2 => o4 o)
  have hnt : ∀ l, v ≠ .tup l := by intro l e; subst e; simp [AV.cells, AV.scal] at hvs
  obtain ⟨K, hK⟩ : ∃ K, K = i0 * sz + off := ⟨_, rfl⟩
  rw [← hK] at r1 r4 ⊢
  have hse := setElem_cells (old := g i0) (v := v) (off := off) (sz := sz) (o5 _ hi0) hle (by omega)
  refine ⟨w', ?_, fun l => match l with | .cell id' i p => if id' = id ∧ K ≤ i ∧ i < K + tySz P t then ov (pth v (i - K) p) else ob (.cell id' i p) | l => ob l, ?_⟩
  · unfold Instr.storeAt Instr.sureAddr storeVar
    simp only [Sem.run_bind, Sem.run_pure, Result.andThen_ok, run_size' hpos]
    rw [if_neg (by rw [← hxl]; simp)]
    exact r1
  · have key : ∀ l b', (match l with | Loc.cell id' i p => if id' = id ∧ K ≤ i ∧ i < K + tySz P t then ov (pth v (i - K) p) else ob (.cell id' i p) | l => ob l) = some b' →
        (∃ i p, l = .cell id i p ∧ K ≤ i ∧ i < K + tySz P t ∧ ov (pth v (i - K) p) = some b') ∨ ob l = some b' := by
      intro l b' hh
      cases l with
      | env t p => exact .inr hh
      | mapv j i q => exact .inr hh
      | cell j i p =>
        simp only at hh
        by_cases hc : j = id ∧ K ≤ i ∧ i < K + tySz P t
        · rw [if_pos hc] at hh; obtain ⟨rfl, c1, c2⟩ := hc; exact .inl ⟨i, p, rfl, c1, c2, hh⟩
        · rw [if_neg hc] at hh; exact .inr hh
    refine h.write hid (by rw [hg]; simp) (.inr (by intro kt reg ents e; rw [hg] at e; cases e)) (by simp) (fun _ => h.fro id (by rw [hg]; rfl)) r2 (bor' := bor) (fun F hF hmono howns => ?_) (fun l hn1 hn2 => ?_) (fun l m b' hl' hm' => ?_) (fun l b' hl' => ?_) (fun j hj => rfl)
    · have hFr : ∀ bl2 v x, Rep w (forb A bl heap) U bl2 v x → Rep w F U bl2 v x := fun bl2 v x hr => hr.mono ⟨fun c _ hf => .inl ((hF c).1 hf), fun c _ hc => ⟨Nat.le_refl _, fun o _ => rfl⟩, fun _ hb => ⟨hb, Nat.le_refl _⟩⟩ (BlLe.refl _)
      have hFo : ∀ own v x, OwnAt w (forb A bl heap) U A.B own v x → OwnAt w F U A.B own v x := fun own v x ho => ownAt_keeps ho ⟨fun c _ hf => .inl ((hF c).1 hf), fun c _ hc => ⟨Nat.le_refl _, fun o _ => rfl⟩, fun _ hb => ⟨hb, Nat.le_refl _⟩⟩ (fun p c _ _ hn => ⟨rfl, rfl, fun hf => hn ((hF c).1 hf)⟩)
      refine ⟨c', e, fr, r2.here, o2, by rw [r3]; exact o3, by rw [r3]; exact ou, fun o => ?_, fun j hj => ?_, fun j k y hj hy => ?_⟩
      · have := o4 o
        simp only [World.frozen?, r2.here]
        simp only [World.frozen?, o1] at this
        exact this
      · rw [upd_get]
        split
        · rename_i e1; subst e1; rw [hse, setRange_length]; exact o5 _ hi0
        · exact o5 j hj
      · have keep : ∀ (j k : Nat) y, j < n → (g j).cells[k]? = some y → ¬ (K ≤ j * sz + k ∧ j * sz + k < K + tySz P t) → ∃ z, c'[j * sz + k]? = some z ∧ z.oneCell' = true ∧ Rep w' F U [] y z ∧
            OwnAt w' F U A.B (fun p => if id = id ∧ K ≤ j * sz + k ∧ j * sz + k < K + tySz P t then ov (pth v (j * sz + k - K) p) else ob (.cell id (j * sz + k) p)) y z := by
          intro j k y hj hy hc
          obtain ⟨z, z1, z2, z3, z4⟩ := o6 j k y hj hy
          refine ⟨z, by rw [r4, if_neg (by omega)]; exact z1, z2, hmono _ _ _ (hFr _ _ _ z3), ?_⟩
          have e1 : (fun p => if id = id ∧ K ≤ j * sz + k ∧ j * sz + k < K + tySz P t then ov (pth v (j * sz + k - K) p) else ob (.cell id (j * sz + k) p)) = fun p => ob (.cell id (j * sz + k) p) := funext fun p => if_neg (fun q => hc q.2)
          rw [e1]
          exact howns _ _ _ (fun p hh => (h.obok _ _ hh).2.2 id hid) (hFo _ _ _ z4)
        rw [upd_get] at hy
        split at hy
        · rename_i e1; subst e1
          rw [hse, setRange_get] at hy
          split at hy
          · rename_i hin
            have hks : k - off < v.cells.length := by omega
            have hxv : x.cells.toList[k - off]? = some (x.cells.toList[k - off]'(by rw [hxl, ← hvl]; exact hks)) := by simp
            generalize hzz : x.cells.toList[k - off]'(by rw [hxl, ← hvl]; exact hks) = z at hxv
            have hz : c'[j * sz + k]? = some z := by
              rw [r4, if_pos (by omega), ← hxv]; congr 1; omega
            refine ⟨z, hz, k2 _ (List.mem_of_getElem? hxv), hmono _ _ _ (hFr _ _ _ ((k1.2 _ y z hy hxv).data (cells_data hdt _ _ hy))), ?_⟩
            have hkk : j * sz + k - K = k - off := by omega
            have e1 : (fun p => if id = id ∧ K ≤ j * sz + k ∧ j * sz + k < K + tySz P t then ov (pth v (j * sz + k - K) p) else ob (.cell id (j * sz + k) p)) = fun p => ov (pth v (k - off) p) := funext fun p => by rw [if_pos ⟨rfl, by omega, by omega⟩, hkk]
            show OwnAt w' F U A.B (fun p => if id = id ∧ K ≤ j * sz + k ∧ j * sz + k < K + tySz P t then ov (pth v (j * sz + k - K) p) else ob (.cell id (j * sz + k) p)) y z
            rw [e1]
            refine howns _ _ _ (fun p => ?_) (hFo _ _ _ ?_)
            · intro hh; exact (h1 _ _ hh).2.2 id hid
            · intro p u hp hou
              obtain ⟨q, hq, hok⟩ := hov _ u (cells_at hy hnt p u hp) hou
              refine ⟨q, ?_, hok⟩
              unfold AV.cells at hy
              unfold pth at hq
              split at hy
              · rename_i l
                simp only at hq
                cases hv with
                | @agg _ _ vs hn hh =>
                  simp only [vat] at hq
                  have hz' : vs[k - off]? = some z := by simpa [Value.cells] using hxv
                  rw [hz'] at hq; exact hq
              · rename_i hna
                have hio : k - off = 0 := by
                  have := (List.getElem?_eq_some_iff.1 hy).1; simp at this; omega
                rw [hio] at hy hxv
                simp at hy; subst hy
                have hxc := (scal_rep hv (by
                  have hh := hvs
                  unfold AV.cells at hh
                  split at hh
                  · exact absurd rfl (hna _)
                  · simpa using hh)).1
                rw [hxc] at hxv
                simp at hxv; subst hxv
                split at hq
                · exact absurd rfl (hna _)
                · exact hq
          · rename_i hout
            have hk : k < sz := by rw [← o5 j hi0]; exact (List.getElem?_eq_some_iff.1 hy).1
            exact keep j k y hi0 hy (by rw [o5 j hi0] at hout; omega)
        · rename_i e1
          have hk : k < sz := by rw [← o5 j hj]; exact (List.getElem?_eq_some_iff.1 hy).1
          refine keep j k y hj hy ?_
          rcases Nat.lt_trichotomy j i0 with hlt | rfl | hgt
          · have := index_mul (sz := sz) hlt; omega
          · exact absurd rfl e1
          · have := index_mul (sz := sz) hgt; omega
    · cases l with
      | env t p => rfl
      | mapv j i q => rfl
      | cell j i p =>
        simp only
        rw [if_neg]
        rintro ⟨rfl, _⟩
        exact hn1 i p rfl
    · rcases key l b' hl' with ⟨i, p, rfl, c1, c2, c3⟩ | hl2 <;> rcases key m b' hm' with ⟨i', p', rfl, d1, d2, d3⟩ | hm2
      · have := h2 _ _ _ c3 d3
        unfold pth at this
        split at this
        · injection this with e1 e2
          subst e2
          have : i = i' := by omega
          subst this; rfl
        · rename_i hna
          have : tySz P t = 1 := by
            rw [← hvl]
            unfold AV.cells
            split
            · exact absurd rfl (hna _)
            · rfl
          have : i = i' := by omega
          subst this; subst p; rfl
      · exact absurd hm2 (h3 _ _ _ c3)
      · exact absurd hl2 (h3 _ _ _ d3)
      · exact h.obinj _ _ b' hl2 hm2
    · rcases key l b' hl' with ⟨i, p, rfl, c1, c2, c3⟩ | hl2
      · exact h1 _ _ c3
      · exact h.obok _ _ hl2
end
end Ax
