import Derived.Test.YtflebdkgdnfjoaaGreatMA
import Derived.Below
import Derived.Laws.Sem
import Derived.Calls
import Derived.Orders
import Derived.Maps.RangeRun
import Derived.Laws.Cells
import Derived.Laws.StructEq
import Derived.Laws.Strings
set_option linter.unusedVariables false
set_option linter.unusedSimpArgs false
namespace Ax
open Go Go.RowKit
abbrev Blocks := List (Option Nat)
def BlLe (bl bl' : Blocks) : Prop := ∀ (id b : Nat), bl[id]? = some (some b) → bl'[id]? = some (some b)
theorem BlLe.refl (bl : Blocks) : BlLe bl bl := fun _ _ h => h
theorem BlLe.nil (bl : Blocks) : BlLe [] bl := fun _ _ h => by simp at h
theorem BlLe.trans {a b c : Blocks} (h : BlLe a b) (k : BlLe b c) : BlLe a c := fun i x hx => k i x (h i x hx)
inductive Rep (w : World) (F : Nat → Prop) (U : Nat → Nat) : Blocks → AV → Value → Prop
  | undef {bl v} : Rep w F U bl .undef v
  | bool {bl b} : Rep w F U bl (.bool b) (.bool b)
  | int {bl k n} : Rep w F U bl (.int k n) (.int k n)
  | str {bl s} : Rep w F U bl (.str s) (.string s)
  | agg {bl} {cs : List AV} {vs : Array Value} (hn : cs.length = vs.size) (h : ∀ (i : Nat) x y, cs[i]? = some x → vs[i]? = some y → Rep w F U bl x y) : Rep w F U bl (.agg cs) (.agg vs)
  | tup {bl} {cs : List AV} {vs : Array Value} (hn : cs.length = vs.size) (h : ∀ (i : Nat) x y, cs[i]? = some x → vs[i]? = some y → Rep w F U bl x y) : Rep w F U bl (.tup cs) (.tuple vs)
  | vec {bl sz n g ao cap} (hcap : n ≤ cap) (vals : Nat → Nat → Value)
      (hz : 0 < n → 0 < sz ∧ ∃ a : Addr, ao = some a ∧ a.spot = none ∧ ¬ F a.block ∧ a.off + n * sz ≤ U a.block ∧ ∀ i j, i < n → j < sz → w.cell? ⟨a.block, a.off + i * sz + j, none⟩ = some (vals i j))
      (hs : ∀ i, i < n → (g i).cells.length = sz) (ho : ∀ i j, i < n → j < sz → (vals i j).oneCell' = true) (h : ∀ (i j : Nat) c, i < n → (g i).cells[j]? = some c → Rep w F U [] c (vals i j)) : Rep w F U bl (.vec sz n g) (.slice ao n cap)
  | own {bl v x} (h : Rep w F U bl v x) : Rep w F U bl (.own v) x
  | uni {bl v ao n cap} : Rep w F U bl (.uni v) (.slice ao n cap)
  | wide {bl sz n m g ao cap} (hcap : m ≤ cap) (hn : n ≤ m) (h : Rep w F U bl (.vec sz m g) (.slice ao m cap)) : Rep w F U bl (.wide sz n m g) (.slice ao n cap)
  | cptr {bl v} {a : Addr} (vals : Nat → Value) (hp : a.spot = none ∧ ¬ F a.block ∧ a.off + v.cells.length ≤ U a.block ∧ 0 < v.cells.length)
      (hc : ∀ j, j < v.cells.length → w.cell? ⟨a.block, a.off + j, none⟩ = some (vals j)) (h : ∀ (j : Nat) c, v.cells[j]? = some c → Rep w F U bl c (vals j)) : Rep w F U bl (.cptr v) (.pointer (some a))
  | ptr {bl id off b} (h : bl[id]? = some (some b)) : Rep w F U bl (.ptr id off) (.pointer (some ⟨b, off, none⟩))
  | eptr {bl id sz i off b} (h : bl[id]? = some (some b)) : Rep w F U bl (.eptr id sz i off) (.pointer (some ⟨b, i * sz + off, none⟩))
  | nilptr {bl} : Rep w F U bl .nilptr (.pointer none)
  | row {bl id sz lo len ao cap} (hcap : len ≤ cap) (hz : 0 < len → ∃ b, bl[id]? = some (some b) ∧ ao = some ⟨b, lo * sz, none⟩) : Rep w F U bl (.row id sz lo len) (.slice ao len cap)
  | brow {bl id sz n ao cap} (hn : n ≤ cap) (hz : cap = 0 ∨ ∃ b, bl[id]? = some (some b) ∧ ao = some ⟨b, 0, none⟩ ∧ b < w.heap.size ∧ cap * sz ≤ U b ∧ cap ≤ 9223372036854775807) : Rep w F U bl (.brow id sz n) (.slice ao n cap)
  | nils {bl sz g ao} : Rep w F U bl (.nils sz g) (.slice ao 0 0)
  | rvec {bl} {vs : List AV} {ao cap} (hcap : vs.length ≤ cap) (vals : Nat → Value)
      (hz : 0 < vs.length → ∃ a : Addr, ao = some a ∧ a.spot = none ∧ ¬ F a.block ∧ a.off + vs.length ≤ U a.block ∧ ∀ i, i < vs.length → w.cell? ⟨a.block, a.off + i, none⟩ = some (vals i))
      (hs : ∀ v ∈ vs, v.cells = [v]) (h : ∀ (i : Nat) c, vs[i]? = some c → Rep w F U bl c (vals i)) : Rep w F U bl (.rvec vs) (.slice ao vs.length cap)
  | mapr {bl id b} (h : bl[id]? = some (some b)) : Rep w F U bl (.mapr id) (.map (some b))
  | nilmap {bl} : Rep w F U bl .nilmap (.map none)
  | fn {bl f} {xs cs : List AV} {vs us : Array Value} (hn : xs.length = vs.size) (hm : cs.length = us.size) (h : ∀ (i : Nat) x y, xs[i]? = some x → vs[i]? = some y → Rep w F U bl x y)
      (h' : ∀ (i : Nat) x y, cs[i]? = some x → us[i]? = some y → Rep w F U bl x y) : Rep w F U bl (.fn f xs cs) (.func (.func f) vs us)
  | nilfn {bl} : Rep w F U bl .nilfn .nilFunc
  | iter {bl id b} (h : bl[id]? = some (some b)) : Rep w F U bl (.iter id) (.pointer (some ⟨b, 0, none⟩))
  | iface {bl t v x} (h : Rep w F U bl v x) : Rep w F U bl (.iface t v) (.iface t x)
  | nilIface {bl} : Rep w F U bl .nilIface .nilIface
structure Grow0 (w : World) (F : Nat → Prop) (U : Nat → Nat) (w' : World) (F' : Nat → Prop) (U' : Nat → Nat) : Prop where
  forb : ∀ b, b < w.heap.size → F' b → F b ∨ U b = 0
  ext : ∀ b, b < w.heap.size → ¬ F b → U b ≤ U' b ∧ ∀ o, o < U b → w'.cell? ⟨b, o, none⟩ = w.cell? ⟨b, o, none⟩
  up : ∀ b, b < w.heap.size → b < w'.heap.size ∧ U b ≤ U' b
theorem Grow0.refl (w : World) (F : Nat → Prop) (U : Nat → Nat) : Grow0 w F U w F U := ⟨fun _ _ h => .inl h, fun _ _ _ => ⟨Nat.le_refl _, fun _ _ => rfl⟩, fun _ hb => ⟨hb, Nat.le_refl _⟩⟩
theorem Grow0.trans {w w' w'' : World} {F F' F'' : Nat → Prop} {U U' U'' : Nat → Nat} (h : Grow0 w F U w' F' U') (k : Grow0 w' F' U' w'' F'' U'') (hs : w.heap.size ≤ w'.heap.size) : Grow0 w F U w'' F'' U'' := by
  refine ⟨fun b hb hf => ?_, fun b hb hf => ?_, fun b hb => ⟨(k.up b (h.up b hb).1).1, Nat.le_trans (h.up b hb).2 (k.up b (h.up b hb).1).2⟩⟩
  · rcases k.forb b (by omega) hf with hf' | hu
    · exact h.forb b hb hf'
    · by_cases hF : F b
      · exact .inl hF
      · have := (h.ext b hb hF).1; exact .inr (by omega)
  · obtain ⟨g1, g2⟩ := h.ext b hb hf
    by_cases hF : F' b
    · rcases h.forb b hb hF with hf' | hu
      · exact absurd hf' hf
      · exact ⟨by omega, fun o ho => by omega⟩
    · obtain ⟨k1, k2⟩ := k.ext b (by omega) hF
      exact ⟨Nat.le_trans g1 k1, fun o ho => (k2 o (Nat.lt_of_lt_of_le ho g1)).trans (g2 o ho)⟩
theorem Grow0.notF {w w' : World} {F F' : Nat → Prop} {U U' : Nat → Nat} (h : Grow0 w F U w' F' U') {b : Nat} (hb : b < w.heap.size) (hF : ¬ F b) (hU : 0 < U b) : ¬ F' b := fun hf => by
  rcases h.forb b hb hf with h' | h'
  · exact hF h'
  · omega
theorem cell_lt {w : World} {b o : Nat} {v : Value} (h : w.cell? ⟨b, o, none⟩ = some v) : b < w.heap.size := by
  rcases Nat.lt_or_ge b w.heap.size with h' | h'
  · exact h'
  · simp [World.cell?, Array.getElem?_eq_none h'] at h
theorem Rep.mono {w w' : World} {F F' : Nat → Prop} {U U' : Nat → Nat} (g : Grow0 w F U w' F' U') {bl : Blocks} {v : AV} {x : Value} (h : Rep w F U bl v x) :
    ∀ {bl' : Blocks}, BlLe bl bl' → Rep w' F' U' bl' v x := by
  induction h with
  | undef => exact fun _ => .undef
  | bool => exact fun _ => .bool
  | int => exact fun _ => .int
  | str => exact fun _ => .str
  | agg hn h ih => exact fun hb => .agg hn fun i x y hx hy => ih i x y hx hy hb
  | tup hn h ih => exact fun hb => .tup hn fun i x y hx hy => ih i x y hx hy hb
  | @vec bl sz n gg ao cap hcap vals hz hs h1 h ih =>
    intro bl' hb
    refine .vec hcap vals (fun hn => ?_) hs h1 (fun i j c hi hc => ih i j c hi hc (BlLe.nil _))
    obtain ⟨h0, a, e1, e2, e3, e4, e5⟩ := hz hn
    have hl : a.block < w.heap.size := cell_lt (e5 0 0 hn h0)
    obtain ⟨g1, g2⟩ := g.ext _ hl e3
    have hpos : 0 < n * sz := Nat.mul_pos hn h0
    refine ⟨h0, a, e1, e2, g.notF hl e3 (by omega), Nat.le_trans e4 g1, fun i j hi hj => ?_⟩
    rw [g2 _ ?_, e5 i j hi hj]
    have : (i + 1) * sz ≤ n * sz := Nat.mul_le_mul_right _ hi
    rw [Nat.add_mul, Nat.one_mul] at this
    omega
  | own h ih => exact fun hb => .own (ih hb)
  | uni => exact fun _ => .uni
  | wide hcap hn h ih => exact fun hb => .wide hcap hn (ih hb)
  | @cptr bl v a vals hp hc h ih =>
    intro bl' hb
    obtain ⟨e1, e2, e3, e4⟩ := hp
    have hl : a.block < w.heap.size := cell_lt (hc 0 e4)
    obtain ⟨g1, g2⟩ := g.ext _ hl e2
    refine .cptr vals ⟨e1, g.notF hl e2 (by omega), Nat.le_trans e3 g1, e4⟩ (fun j hj => ?_) (fun j c hc' => ih j c hc' hb)
    rw [g2 _ (by omega), hc j hj]
  | ptr h => exact fun hb => .ptr (hb _ _ h)
  | eptr h => exact fun hb => .eptr (hb _ _ h)
  | nilptr => exact fun _ => .nilptr
  | row hcap hz => exact fun hb => .row hcap fun hn => let ⟨b, h1, h2⟩ := hz hn; ⟨b, hb _ _ h1, h2⟩
  | brow hn hz => exact fun hb => .brow hn (hz.imp (fun e => e) fun ⟨b, h1, h2, h3, h4⟩ => ⟨b, hb _ _ h1, h2, (g.up b h3).1, Nat.le_trans h4.1 (g.up b h3).2, h4.2⟩)
  | nils => exact fun _ => .nils
  | @rvec bl vs ao cap hcap vals hz hs h ih =>
    intro bl' hb
    refine .rvec hcap vals (fun hn => ?_) hs (fun i c hc => ih i c hc hb)
    obtain ⟨a, e1, e2, e3, e4, e5⟩ := hz hn
    have hl : a.block < w.heap.size := cell_lt (e5 0 hn)
    obtain ⟨g1, g2⟩ := g.ext _ hl e3
    refine ⟨a, e1, e2, g.notF hl e3 (by omega), Nat.le_trans e4 g1, fun i hi => ?_⟩
    rw [g2 _ (by omega), e5 i hi]
  | mapr h => exact fun hb => .mapr (hb _ _ h)
  | nilmap => exact fun _ => .nilmap
  | fn hn hm h h' ih ih' => exact fun hb => .fn hn hm (fun i x y hx hy => ih i x y hx hy hb) (fun i x y hx hy => ih' i x y hx hy hb)
  | nilfn => exact fun _ => .nilfn
  | iter h => exact fun hb => .iter (hb _ _ h)
  | iface h ih => exact fun hb => .iface (ih hb)
  | nilIface => exact fun _ => .nilIface
structure Grow1 (w : World) (F : Nat → Prop) (U : Nat → Nat) (w' : World) (F' : Nat → Prop) (U' : Nat → Nat) : Prop where
  forb : ∀ b, b < w.heap.size → F' b → F b ∨ U b = 0
  ext : ∀ b, b < w.heap.size → ¬ F b → U b ≤ U' b ∧ ∀ o, o < U b → w'.cell? ⟨b, o, none⟩ = w.cell? ⟨b, o, none⟩
theorem Grow1.notF {w w' : World} {F F' : Nat → Prop} {U U' : Nat → Nat} (h : Grow1 w F U w' F' U') {b : Nat} (hb : b < w.heap.size) (hF : ¬ F b) (hU : 0 < U b) : ¬ F' b := fun hf => by
  rcases h.forb b hb hf with h' | h'
  · exact hF h'
  · omega
theorem Rep.mono1 {w w' : World} {F F' : Nat → Prop} {U U' : Nat → Nat} (g : Grow1 w F U w' F' U') {bl : Blocks} {v : AV} {x : Value} (h : Rep w F U bl v x) :
    bl = [] → ∀ {bl' : Blocks}, Rep w' F' U' bl' v x := by
  induction h with
  | undef => exact fun _ => .undef
  | bool => exact fun _ => .bool
  | int => exact fun _ => .int
  | str => exact fun _ => .str
  | agg hn h ih => exact fun hb => .agg hn fun i x y hx hy => ih i x y hx hy hb
  | tup hn h ih => exact fun hb => .tup hn fun i x y hx hy => ih i x y hx hy hb
  | @vec bl sz n gg ao cap hcap vals hz hs h1 h ih =>
    intro hb bl'
    refine .vec hcap vals (fun hn => ?_) hs h1 (fun i j c hi hc => ih i j c hi hc rfl)
    obtain ⟨h0, a, e1, e2, e3, e4, e5⟩ := hz hn
    have hl : a.block < w.heap.size := cell_lt (e5 0 0 hn h0)
    obtain ⟨g1, g2⟩ := g.ext _ hl e3
    have hpos : 0 < n * sz := Nat.mul_pos hn h0
    refine ⟨h0, a, e1, e2, g.notF hl e3 (by omega), Nat.le_trans e4 g1, fun i j hi hj => ?_⟩
    rw [g2 _ ?_, e5 i j hi hj]
    have : (i + 1) * sz ≤ n * sz := Nat.mul_le_mul_right _ hi
    rw [Nat.add_mul, Nat.one_mul] at this
    omega
  | own h ih => exact fun hb => .own (ih hb)
  | uni => exact fun _ => .uni
  | wide hcap hn h ih => exact fun hb => .wide hcap hn (ih hb)
  | @cptr bl v a vals hp hc h ih =>
    intro hb bl'
    obtain ⟨e1, e2, e3, e4⟩ := hp
    have hl : a.block < w.heap.size := cell_lt (hc 0 e4)
    obtain ⟨g1, g2⟩ := g.ext _ hl e2
    refine .cptr vals ⟨e1, g.notF hl e2 (by omega), Nat.le_trans e3 g1, e4⟩ (fun j hj => ?_) (fun j c hc' => ih j c hc' hb)
    rw [g2 _ (by omega), hc j hj]
  | ptr h => intro hb; subst hb; simp at h
  | eptr h => intro hb; subst hb; simp at h
  | nilptr => exact fun _ => .nilptr
  | @row bl id sz lo len ao cap hcap hz => exact fun hb => .row hcap fun hn => let ⟨b, h1, h2⟩ := hz hn; absurd h1 (by subst hb; simp)
  | brow hn hz => exact fun hb => .brow hn (hz.imp (fun e => e) fun ⟨b, h1, _⟩ => absurd h1 (by subst hb; simp))
  | nils => exact fun _ => .nils
  | @rvec bl vs ao cap hcap vals hz hs h ih =>
    intro hb bl'
    refine .rvec hcap vals (fun hn => ?_) hs (fun i c hc => ih i c hc hb)
    obtain ⟨a, e1, e2, e3, e4, e5⟩ := hz hn
    have hl : a.block < w.heap.size := cell_lt (e5 0 hn)
    obtain ⟨g1, g2⟩ := g.ext _ hl e3
    refine ⟨a, e1, e2, g.notF hl e3 (by omega), Nat.le_trans e4 g1, fun i hi => ?_⟩
    rw [g2 _ (by omega), e5 i hi]
  | mapr h => intro hb; subst hb; simp at h
  | nilmap => exact fun _ => .nilmap
  | fn hn hm h h' ih ih' => exact fun hb => .fn hn hm (fun i x y hx hy => ih i x y hx hy hb) (fun i x y hx hy => ih' i x y hx hy hb)
  | nilfn => exact fun _ => .nilfn
  | iter h => intro hb; subst hb; simp at h
  | iface h ih => exact fun hb => .iface (ih hb)
  | nilIface => exact fun _ => .nilIface
theorem Rep.ofNil {w : World} {F : Nat → Prop} {U : Nat → Nat} {bl : Blocks} {v : AV} {x : Value} (h : Rep w F U [] v x) : Rep w F U bl v x :=
  h.mono (Grow0.refl _ _ _) (BlLe.nil _)
theorem Rep.rebl {w : World} {F : Nat → Prop} {U : Nat → Nat} {bl bl' : Blocks} {id : Nat} (hb : ∀ j b : Nat, j ≠ id → bl[j]? = some (some b) → bl'[j]? = some (some b)) {v : AV} {x : Value} (h : Rep w F U bl v x) :
    v.has id = false → Rep w F U bl' v x := by
  have hl : ∀ (l : List AV), AV.hasL id l = false → ∀ (i : Nat) c, l[i]? = some c → c.has id = false := by
    intro l
    induction l with
    | nil => intro _ i c hc; simp at hc
    | cons v r ih =>
      intro h0 i c hc
      simp only [AV.hasL, Bool.or_eq_false_iff] at h0
      cases i with
      | zero => simp at hc; exact hc ▸ h0.1
      | succ i => exact ih h0.2 i c (by simpa using hc)
  have hne : ∀ j : Nat, Nat.beq j id = false → j ≠ id := fun j hj e => by subst e; simp at hj
  induction h with
  | undef => exact fun _ => .undef
  | bool => exact fun _ => .bool
  | int => exact fun _ => .int
  | str => exact fun _ => .str
  | agg hn h ih => exact fun h0 => .agg hn fun i x y hx hy => ih i x y hx hy hb (hl _ (by simpa [AV.has] using h0) i x hx)
  | tup hn h ih => exact fun h0 => .tup hn fun i x y hx hy => ih i x y hx hy hb (hl _ (by simpa [AV.has] using h0) i x hx)
  | vec hcap vals hz hs h1 h ih => exact fun _ => .vec hcap vals hz hs h1 h
  | own h ih => exact fun h0 => .own (ih hb (by simpa [AV.has] using h0))
  | uni => exact fun _ => .uni
  | wide hcap hn h ih => exact fun _ => .wide hcap hn (ih hb rfl)
  | @cptr bl v a vals hp hc h ih =>
    intro h0
    refine .cptr vals hp hc fun j c hj => ih j c hj hb ?_
    simp only [AV.has] at h0
    unfold AV.cells at hj
    split at hj
    · exact hl _ (by simpa [AV.has] using h0) j c hj
    · cases j with
      | zero => simp at hj; exact hj ▸ h0
      | succ j => simp at hj
  | ptr h => exact fun h0 => .ptr (hb _ _ (hne _ (by simpa only [AV.has] using h0)) h)
  | eptr h => exact fun h0 => .eptr (hb _ _ (hne _ (by simpa only [AV.has] using h0)) h)
  | nilptr => exact fun _ => .nilptr
  | row hcap hz => exact fun h0 => .row hcap fun hn => let ⟨b, h1, h2⟩ := hz hn; ⟨b, hb _ _ (hne _ (by simpa only [AV.has] using h0)) h1, h2⟩
  | brow hn hz => exact fun h0 => .brow hn (hz.imp (fun e => e) fun ⟨b, h1, h2⟩ => ⟨b, hb _ _ (hne _ (by simpa only [AV.has] using h0)) h1, h2⟩)
  | nils => exact fun _ => .nils
  | rvec hcap vals hz hs h ih => exact fun h0 => .rvec hcap vals hz hs fun i c hc => ih i c hc hb (hl _ (by simpa [AV.has] using h0) i c hc)
  | mapr h => exact fun h0 => .mapr (hb _ _ (hne _ (by simpa only [AV.has] using h0)) h)
  | nilmap => exact fun _ => .nilmap
  | fn hn hm h h' ih ih' =>
    intro h0
    simp only [AV.has, Bool.or_eq_false_iff] at h0
    exact .fn hn hm (fun i x y hx hy => ih i x y hx hy hb (hl _ h0.1 i x hx)) (fun i x y hx hy => ih' i x y hx hy hb (hl _ h0.2 i x hx))
  | nilfn => exact fun _ => .nilfn
  | iter h => exact fun h0 => .iter (hb _ _ (hne _ (by simpa only [AV.has] using h0)) h)
  | iface h ih => exact fun h0 => .iface (ih hb (by simpa [AV.has] using h0))
  | nilIface => exact fun _ => .nilIface
theorem isDataL_get {l : List AV} (h : AV.isDataL l = true) : ∀ (i : Nat) (x : AV), l[i]? = some x → x.isData = true := by
  induction l with
  | nil => intro i x hx; simp at hx
  | cons v r ih =>
    simp only [AV.isDataL, Bool.and_eq_true] at h
    intro i x hx
    cases i with
    | zero => simp at hx; exact hx ▸ h.1
    | succ i => exact ih h.2 i x (by simpa using hx)
theorem cells_data {v : AV} (h : v.isData = true) : ∀ (j : Nat) (c : AV), v.cells[j]? = some c → c.isData = true := by
  intro j c hc
  unfold AV.cells at hc
  split at hc
  · simp only [AV.isData] at h; exact isDataL_get h j c hc
  · cases j with
    | zero => simp at hc; exact hc ▸ h
    | succ j => simp at hc
theorem Rep.data {w : World} {F : Nat → Prop} {U : Nat → Nat} {bl : Blocks} {v : AV} {x : Value} (h : Rep w F U bl v x) : v.isData = true → Rep w F U [] v x := by
  induction h with
  | undef => exact fun _ => .undef
  | bool => exact fun _ => .bool
  | int => exact fun _ => .int
  | str => exact fun _ => .str
  | agg hn h ih => exact fun hd => .agg hn fun i x y hx hy => ih i x y hx hy (isDataL_get (by simpa [AV.isData] using hd) i x hx)
  | tup hn h ih => exact fun hd => .tup hn fun i x y hx hy => ih i x y hx hy (isDataL_get (by simpa [AV.isData] using hd) i x hx)
  | vec hcap vals hz hs h1 h ih => exact fun _ => .vec hcap vals hz hs h1 h
  | own h ih => exact fun hd => .own (ih (by simpa [AV.isData] using hd))
  | uni => exact fun _ => .uni
  | wide hcap hn h ih => exact fun _ => .wide hcap hn (ih rfl)
  | cptr vals hp hc h ih => exact fun hd => .cptr vals hp hc fun j c hj => ih j c hj (cells_data (by simpa [AV.isData] using hd) j c hj)
  | ptr h => intro hd; simp [AV.isData] at hd
  | eptr h => intro hd; simp [AV.isData] at hd
  | nilptr => exact fun _ => .nilptr
  | row hcap hz => intro hd; simp [AV.isData] at hd
  | brow hn hz => intro hd; simp [AV.isData] at hd
  | nils => exact fun _ => .nils
  | rvec hcap vals hz hs h ih => intro hd; simp [AV.isData] at hd
  | mapr h => intro hd; simp [AV.isData] at hd
  | nilmap => exact fun _ => .nilmap
  | fn hn hm h h' ih ih' =>
    intro hd
    simp only [AV.isData, Bool.and_eq_true] at hd
    exact .fn hn hm (fun i x y hx hy => ih i x y hx hy (isDataL_get hd.1 i x hx)) (fun i x y hx hy => ih' i x y hx hy (isDataL_get hd.2 i x hx))
  | nilfn => exact fun _ => .nilfn
  | iter h => intro hd; simp [AV.isData] at hd
  | iface h ih => exact fun hd => .iface (ih (by simpa [AV.isData] using hd))
  | nilIface => exact fun _ => .nilIface
theorem wide_vec {w : World} {F : Nat → Prop} {U : Nat → Nat} {bl : Blocks} {sz n m : Nat} {g : Nat → AV} {x : Value} (h : Rep w F U bl (.wide sz n m g) x) : Rep w F U bl (.vec sz n g) x := by
  cases h with
  | wide hcap hn h =>
    cases h with
    | vec hcap' vals hz hs ho h1 =>
      refine .vec (by omega) vals (fun hp => ?_) (fun i hi => hs i (by omega)) (fun i j hi hj => ho i j (by omega) hj) (fun i j c hi hc => h1 i j c (by omega) hc)
      obtain ⟨h0, a, e1, e2, e3, e4, e5⟩ := hz (by omega)
      have : n * sz ≤ m * sz := Nat.mul_le_mul_right _ hn
      exact ⟨h0, a, e1, e2, e3, by omega, fun i j hi hj => e5 i j (by omega) hj⟩
theorem stripL_get (l : List AV) (i : Nat) : (AV.stripL l)[i]? = (l[i]?).map AV.strip := by
  induction l generalizing i with
  | nil => simp [AV.stripL]
  | cons v r ih => cases i <;> simp [AV.stripL, ih]
theorem stripL_length (l : List AV) : (AV.stripL l).length = l.length := by
  induction l with
  | nil => rfl
  | cons v r ih => simp [AV.stripL, ih]
theorem Rep.strip {w : World} {F : Nat → Prop} {U : Nat → Nat} {bl : Blocks} {v : AV} {x : Value} (h : Rep w F U bl v x) : Rep w F U bl v.strip x := by
  induction h with
  | agg hn h ih =>
    simp only [AV.strip]
    refine .agg (by rw [stripL_length]; exact hn) fun i x y hx hy => ?_
    rw [stripL_get] at hx
    obtain ⟨x', hx', rfl⟩ := Option.map_eq_some_iff.1 hx
    exact ih i x' y hx' hy
  | tup hn h ih =>
    simp only [AV.strip]
    refine .tup (by rw [stripL_length]; exact hn) fun i x y hx hy => ?_
    rw [stripL_get] at hx
    obtain ⟨x', hx', rfl⟩ := Option.map_eq_some_iff.1 hx
    exact ih i x' y hx' hy
  | own h ih => simpa only [AV.strip] using ih
  | uni => exact .undef
  | fn hn hm h h' ih ih' =>
    simp only [AV.strip]
    refine .fn (by rw [stripL_length]; exact hn) (by rw [stripL_length]; exact hm) (fun i x y hx hy => ?_) (fun i x y hx hy => ?_)
    · rw [stripL_get] at hx
      obtain ⟨x', hx', rfl⟩ := Option.map_eq_some_iff.1 hx
      exact ih i x' y hx' hy
    · rw [stripL_get] at hx
      obtain ⟨x', hx', rfl⟩ := Option.map_eq_some_iff.1 hx
      exact ih' i x' y hx' hy
  | vec hcap vals hz hs h1 h ih => simp only [AV.strip]; exact .vec hcap vals hz hs h1 h
  | wide hcap hn h ih => simp only [AV.strip]; exact .wide hcap hn h
  | cptr vals hp hc h ih => simp only [AV.strip]; exact .cptr vals hp hc h
  | rvec hcap vals hz hs h ih => simp only [AV.strip]; exact .rvec hcap vals hz hs h
  | undef => exact .undef
  | bool => exact .bool
  | int => exact .int
  | str => exact .str
  | ptr h => exact .ptr h
  | eptr h => exact .eptr h
  | nilptr => exact .nilptr
  | row hcap hz => exact .row hcap hz
  | brow hn hz => exact .brow hn hz
  | nils => simp only [AV.strip]; exact .vec (Nat.le_refl _) (fun _ _ => Go.undef) (fun h => absurd h (by omega)) (fun i hi => absurd hi (by omega)) (fun i j hi => absurd hi (by omega)) (fun i j c hi => absurd hi (by omega))
  | mapr h => exact .mapr h
  | nilmap => exact .nilmap
  | nilfn => exact .nilfn
  | iter h => exact .iter h
  | iface h ih => simp only [AV.strip]; exact .iface h
  | nilIface => exact .nilIface
section
variable {R : Type}
mutual
theorem AV.force_eq (v : AV) (k : AV → R) : v.force k = k v := by
  cases v with
  | own v => simp only [AV.force, AV.force_eq v]
  | uni v => simp only [AV.force, AV.force_eq v]
  | agg cs => simp only [AV.force, AV.forceL_eq cs]
  | tup cs => simp only [AV.force, AV.forceL_eq cs]
  | cptr v => simp only [AV.force, AV.force_eq v]
  | fn f a b => simp only [AV.force, AV.forceL_eq a, AV.forceL_eq b]
  | rvec vs => simp only [AV.force, AV.forceL_eq vs]
  | iface t v => simp only [AV.force, AV.force_eq v]
  | _ => simp only [AV.force]
theorem AV.forceL_eq (l : List AV) (k : List AV → R) : AV.forceL l k = k l := by
  cases l with
  | nil => simp only [AV.forceL]
  | cons v r => simp only [AV.forceL, AV.force_eq v, AV.forceL_eq r]
end
theorem Env.force_eq (l : Env) (k : Env → R) : Env.force l k = k l := by
  induction l generalizing k with
  | nil => rfl
  | cons p r ih => simp only [Env.force, ih]
theorem AObj.force_eq (o : AObj) (k : AObj → R) : o.force k = k o := by
  cases o <;> simp only [AObj.force, AV.forceL_eq]
theorem Heap.force_eq (l : Heap) (k : Heap → R) : Heap.force l k = k l := by
  induction l generalizing k with
  | nil => rfl
  | cons p r ih => simp only [Heap.force, ih, AObj.force_eq]
theorem forceNat_eq (n : Nat) (k : Nat → R) : forceNat n k = k n := by
  induction n generalizing k with
  | zero => rfl
  | succ n ih => simp only [forceNat, ih]
theorem putK_eq (env : Env) (d : Option Nat) (v : AV) (k : Env → R) : putK env d v k = k (match d with | some d => env.set d v | none => env) := by
  cases d <;> simp only [putK, AV.force_eq, Env.force_eq]
end
end Ax

namespace Ax
open Go Go.RowKit
def AV.at : AV → List Nat → Option AV
  | v, [] => some v
  | .agg cs, i :: p => match cs[i]? with | some c => AV.at c p | none => none
  | .tup cs, i :: p => match cs[i]? with | some c => AV.at c p | none => none
  | _, _ :: _ => none
def vat : Value → List Nat → Option Value
  | v, [] => some v
  | .agg cs, i :: p => match cs[i]? with | some c => vat c p | none => none
  | .tuple cs, i :: p => match cs[i]? with | some c => vat c p | none => none
  | _, _ :: _ => none
def AV.owned : AV → Bool
  | .own _ => true
  | .uni _ => true
  | _ => false
def Bare (v : AV) : Prop := ∀ p u, v.at p = some u → u.owned = false
def AV.plainB : AV → Bool
  | .own _ => false
  | .uni _ => false
  | .agg _ => false
  | .tup l => l.isEmpty
  | _ => true
theorem bare_of {v : AV} (h : v.plainB = true) : Bare v := by
  intro p u
  cases v with
  | own v => simp [AV.plainB] at h
  | uni v => simp [AV.plainB] at h
  | agg v => simp [AV.plainB] at h
  | tup l =>
    simp only [AV.plainB, List.isEmpty_iff] at h; subst h
    cases p with
    | nil => simp only [AV.at]; rintro ⟨⟩; rfl
    | cons i p => simp [AV.at]
  | _ =>
    cases p with
    | nil => simp only [AV.at]; rintro ⟨⟩; rfl
    | cons i p => simp [AV.at]
inductive Loc where
  | env (t : Nat) (p : List Nat)
  | cell (id i : Nat) (p : List Nat)
  | mapv (id i : Nat) (p : List Nat)
  deriving DecidableEq
def OwnOK (w : World) (F : Nat → Prop) (U : Nat → Nat) (B : Nat) (own : Option Nat) : AV → Value → Prop
  | .own (.vec sz n _), .slice ao _ cap => cap = n ∨ (∃ a : Addr, (0 < n ∨ a.off = 0) ∧ ao = some a ∧ own = some a.block ∧ B ≤ a.block ∧ a.spot = none ∧ ¬ F a.block ∧ U a.block = a.off + n * sz ∧ (0 < sz ∧ cap ≤ 9223372036854775807) ∧
      ∃ c e fr, w.heap[a.block]? = some (.cells c e fr) ∧ a.off + cap * sz ≤ c.size ∧ ∀ o, a.off + n * sz ≤ o → w.frozen? ⟨a.block, o, none⟩ = false)
  | .uni (.vec sz n g), x => ∃ ao cap, x = .slice ao n cap ∧ n ≤ cap ∧ (cap = 0 ∨ ∃ b, ao = some ⟨b, 0, none⟩ ∧ own = some b ∧ B ≤ b ∧ ¬ F b ∧ U b = 0 ∧ (0 < sz ∧ cap ≤ 9223372036854775807) ∧
      ∃ c e fr, w.heap[b]? = some (.cells c e fr) ∧ cap * sz ≤ c.size ∧ (∀ o, w.frozen? ⟨b, o, none⟩ = false) ∧ (∀ i, i < n → (g i).cells.length = sz) ∧
        ∀ (i j : Nat) q, i < n → (g i).cells[j]? = some q → ∃ y, c[i * sz + j]? = some y ∧ y.oneCell' = true ∧ Rep w F U [] q y)
  | .uni (.wide sz n _ g), x => ∃ ao cap, x = .slice ao n cap ∧ n ≤ cap ∧ (n = 0 ∨ ∃ b, ao = some ⟨b, 0, none⟩ ∧ own = some b ∧ B ≤ b ∧ ¬ F b ∧ U b = 0 ∧ 0 < sz ∧
      ∃ c e fr, w.heap[b]? = some (.cells c e fr) ∧ n * sz ≤ c.size ∧ (∀ o, o < c.size → w.frozen? ⟨b, o, none⟩ = false) ∧ (∀ i, i < n → (g i).cells.length = sz) ∧
        ∀ (i j : Nat) q, i < n → (g i).cells[j]? = some q → ∃ y, c[i * sz + j]? = some y ∧ y.oneCell' = true ∧ Rep w F U [] q y)
  | _, _ => True
def OwnAt (w : World) (F : Nat → Prop) (U : Nat → Nat) (B : Nat) (own : List Nat → Option Nat) (v : AV) (x : Value) : Prop :=
  ∀ p u, v.at p = some u → u.owned = true → ∃ y, vat x p = some y ∧ OwnOK w F U B (own p) u y
theorem OwnAt.bare {w : World} {F : Nat → Prop} {U : Nat → Nat} {B : Nat} {own : List Nat → Option Nat} {v : AV} {x : Value} (h : Bare v) : OwnAt w F U B own v x :=
  fun p u hp ho => by rw [h p u hp] at ho; simp at ho
mutual
theorem strip_bare (v : AV) : Bare v.strip := by
  intro p u
  cases v with
  | own v => simp only [AV.strip]; exact strip_bare v p u
  | agg cs =>
    cases p with
    | nil => simp only [AV.strip, AV.at]; rintro ⟨⟩; rfl
    | cons i p =>
      simp only [AV.strip, AV.at]
      cases h : (AV.stripL cs)[i]? with
      | none => simp
      | some c => exact stripL_bare cs i c h p u
  | tup cs =>
    cases p with
    | nil => simp only [AV.strip, AV.at]; rintro ⟨⟩; rfl
    | cons i p =>
      simp only [AV.strip, AV.at]
      cases h : (AV.stripL cs)[i]? with
      | none => simp
      | some c => exact stripL_bare cs i c h p u
  | _ =>
    cases p with
    | nil => simp only [AV.strip, AV.at]; rintro ⟨⟩; rfl
    | cons i p => simp [AV.strip, AV.at]
theorem stripL_bare (l : List AV) : ∀ (i : Nat) (c : AV), (AV.stripL l)[i]? = some c → Bare c := by
  intro i c h
  cases l with
  | nil => simp [AV.stripL] at h
  | cons v r =>
    cases i with
    | zero => simp [AV.stripL] at h; subst h; exact strip_bare v
    | succ i => exact stripL_bare r i c (by simpa [AV.stripL] using h)
end
structure Amb where
  B : Nat
  F0 : Nat → Prop
  G : Nat → Prop
  w0 : World
  bl0 : Blocks
  U0 : Nat → Nat
  h0 : Heap
  ds : List Deferred := []
def forb (A : Amb) (bl : Blocks) (h : Heap) (b : Nat) : Prop := A.F0 b ∨ ∃ id : Nat, bl[id]? = some (some b) ∧ h.get id ≠ .dead
def EntRep (w : World) (F : Nat → Prop) (U : Nat → Nat) (ents : List (AV × AV)) (es : Array MapEntry) : Prop :=
  ents.length = es.size ∧ ∀ (i : Nat) p e, ents[i]? = some p → es[i]? = some e → Rep w F U [] p.1 e.key ∧ Rep w F U [] p.2 e.val
def Fresh (clock : Nat) (es : Array MapEntry) : Prop :=
  (∀ (i : Nat) e, es[i]? = some e → e.born < clock) ∧ ∀ (i j : Nat) e f, es[i]? = some e → es[j]? = some f → e.born = f.born → i = j
def RegMap (clock : Nat) (es : Array MapEntry) : Prop := clock = es.size ∧ ∀ (i : Nat) e, es[i]? = some e → e.born = i
def ObjRep (P : Program) (w : World) (F : Nat → Prop) (U : Nat → Nat) (bl : Blocks) (B : Nat) (own : Nat → List Nat → Option Nat) (ownM : Nat → List Nat → Option Nat) (bor : Option AV) : AObj → Nat → Prop
  | .cells cs, b => ∃ c e fr, w.heap[b]? = some (.cells c e fr) ∧ c.size = cs.length ∧ (∀ o, o < c.size → w.frozen? ⟨b, o, none⟩ = false) ∧
      ∀ (i : Nat) x y, cs[i]? = some x → c[i]? = some y → Rep w F U bl x y ∧ OwnAt w F U B (own i) x y
  | .arr sz n g, b => ∃ c e fr, w.heap[b]? = some (.cells c e fr) ∧ 0 < sz ∧ n * sz ≤ c.size ∧ (∀ o, o < c.size → w.frozen? ⟨b, o, none⟩ = false) ∧
      (∀ i, i < n → (g i).cells.length = sz) ∧ ∀ (i j : Nat) x, i < n → (g i).cells[j]? = some x → ∃ y, c[i * sz + j]? = some y ∧ y.oneCell' = true ∧ Rep w F U [] x y
  | .oarr sz n g, b => ∃ c e fr, w.heap[b]? = some (.cells c e fr) ∧ 0 < sz ∧ n * sz ≤ c.size ∧ U b = c.size ∧ (∀ o, w.frozen? ⟨b, o, none⟩ = false) ∧
      (∀ i, i < n → (g i).cells.length = sz) ∧ ∀ (i j : Nat) x, i < n → (g i).cells[j]? = some x → ∃ y, c[i * sz + j]? = some y ∧ y.oneCell' = true ∧ Rep w F U [] x y ∧ OwnAt w F U B (own (i * sz + j)) x y
  | .map kt reg ents, b => ∃ es clock, w.heap[b]? = some (.map es clock) ∧ EntRep w F U ents es ∧ Fresh clock es ∧ (∀ p ∈ ents, keyOk P kt p.1 = true) ∧
      (∀ (i j : Nat) p q, ents[i]? = some p → ents[j]? = some q → eqKey P kt p.1 q.1 = true → i = j) ∧ (reg = true → RegMap clock es) ∧
      (∀ (i : Nat) p e, ents[i]? = some p → es[i]? = some e → OwnAt w F U B (ownM i) p.2 e.val)
  | .iter none left cur, b => left = [] ∧ ∃ s l q, w.heap[b]? = some (.mapIter none s l q)
  | .iter (some id) left cur, b => ∃ bm es clock seen last, bl[id]? = some (some bm) ∧ w.heap[bm]? = some (.map es clock) ∧ w.heap[b]? = some (.mapIter (some bm) clock seen last) ∧ clock ≤ last ∧ Fresh clock es ∧
      EntRep w F U left (leftOf es seen) ∧ ∀ p, cur = [p] → clock = last ∧ ∃ e, seen.back? = some e.born ∧ es.find? (fun x => x.born == e.born) = some e ∧ Rep w F U [] p.1 e.key ∧ Rep w F U [] p.2 e.val
  | .dead, _ => True
def AObj.isArr : AObj → Bool
  | .arr _ _ _ => true
  | .oarr _ _ _ => true
  | _ => false
structure BelowD (B : Nat) (w w' : World) : Prop where
  os : w'.os = w.os
  tape : w'.tape = w.tape
  output : w'.output = w.output
  size : w.heap.size ≤ w'.heap.size
  block : ∀ k, k < B → w'.heap[k]? = w.heap[k]?
  drawn : w.drawn ≤ w'.drawn
theorem BelowD.refl (B : Nat) (w : World) : BelowD B w w := ⟨rfl, rfl, rfl, Nat.le_refl _, fun _ _ => rfl, Nat.le_refl _⟩
theorem BelowD.trans {B : Nat} {a b c : World} (h : BelowD B a b) (k : BelowD B b c) : BelowD B a c :=
  ⟨k.os.trans h.os, k.tape.trans h.tape, k.output.trans h.output, Nat.le_trans h.size k.size, fun i hi => (k.block i hi).trans (h.block i hi), Nat.le_trans h.drawn k.drawn⟩
structure Since (A : Amb) (w : World) (U : Nat → Nat) (bl : Blocks) (h : Heap) : Prop where
  below : BelowD A.B A.w0 w
  g0 : Grow0 A.w0 (forb A A.bl0 A.h0) A.U0 w (forb A bl h) U
  ble : BlLe A.bl0 bl
  pnd : ∀ id : Nat, A.bl0[id]? = some none → bl[id]? = some none ∧ (h.get id = A.h0.get id ∨ (A.h0.get id).isArr = true)
  gown : ∀ b, A.G b → w.heap[b]? = A.w0.heap[b]? ∧ U b = A.U0 b
  blen : A.bl0.length ≤ bl.length
  ub : ∀ b, b < A.B → U b = A.U0 b
def borAt (bor : Option (Nat × AV)) (id : Nat) : Option AV :=
  match bor with
  | some (i, q) => if i = id then some q else none
  | none => none
structure Rel (P : Program) (A : Amb) (nt : Nat) (pend : List (Nat × AObj)) (env : Env) (heap : Heap) (bor : Option (Nat × AV)) (tm : Array Value) (w : World) (U : Nat → Nat) (bl : Blocks) (ob : Loc → Option Nat) : Prop where
  size : nt ≤ tm.size
  env : ∀ t, Rep w (forb A bl heap) U bl (env.get t) (tm.getD t undef) ∧ OwnAt w (forb A bl heap) U A.B (fun p => ob (.env t p)) (env.get t) (tm.getD t undef)
  len : bl.length = heap.length
  objs : ∀ id b : Nat, bl[id]? = some (some b) → ObjRep P w (forb A bl heap) U bl A.B (fun i p => ob (.cell id i p)) (fun i p => ob (.mapv id i p)) (borAt bor id) (heap.get id) b
  inj : ∀ i j b : Nat, bl[i]? = some (some b) → bl[j]? = some (some b) → i = j
  base : ∀ id b : Nat, bl[id]? = some (some b) → A.B ≤ b ∧ b < w.heap.size ∧ ¬ A.F0 b ∧ ¬ A.G b
  obinj : ∀ l m b, ob l = some b → ob m = some b → l = m
  obok : ∀ l b, ob l = some b → ¬ A.G b ∧ b < w.heap.size ∧ ∀ id : Nat, bl[id]? ≠ some (some b)
  since : Since A w U bl heap
  f0 : ∀ b, A.F0 b → b < A.B
  hB : A.B ≤ w.heap.size
  hG : ∀ b, A.G b → b < w.heap.size
  pend : ∀ p ∈ pend, bl[p.1]? = some none ∧ heap.get p.1 = p.2 ∧ p.2.isArr = false
  fro : ∀ id, (heap.get id).isO = true → A.bl0.length ≤ id
end Ax

namespace Ax
open Go Go.RowKit
theorem beq_eq (a b : Nat) : Nat.beq a b = decide (a = b) := by
  by_cases h : a = b
  · subst h; simp
  · rw [Bool.eq_false_iff.2 (fun hc : Nat.beq a b = true => h (Nat.eq_of_beq_eq_true hc))]; simp [h]
theorem ble_eq (a b : Nat) : Nat.ble a b = decide (a ≤ b) := by
  by_cases h : a ≤ b
  · simp [h]
  · simp only [h, decide_false, Bool.eq_false_iff, ne_eq, Nat.ble_eq, not_false_eq_true]
theorem blt_eq (a b : Nat) : Nat.blt a b = decide (a < b) := by
  unfold Nat.blt; rw [ble_eq]; rfl
theorem get_set (env : Env) (d t : Nat) (v : AV) : (env.set d v).get t = if d = t then v else env.get t := by
  induction env with
  | nil => simp only [Env.set, Env.get, beq_eq]; by_cases h : d = t <;> simp [h]
  | cons p r ih =>
    obtain ⟨s, w⟩ := p
    simp only [Env.set, beq_eq, ble_eq]
    by_cases h1 : s = d
    · subst h1; simp only [decide_true, cond_true, Env.get, beq_eq]; by_cases h : s = t <;> simp [h]
    · by_cases h2 : d ≤ s
      · simp only [h1, h2, decide_false, decide_true, cond_false, cond_true, Env.get, beq_eq]; by_cases h : d = t <;> simp [h]
      · simp only [h1, h2, decide_false, cond_false, Env.get, beq_eq, ih]
        by_cases h : s = t
        · subst h; simp; intro h3; exact absurd h3.symm h1
        · simp [h]
theorem get_bare (env : Env) (s t : Nat) : (env.bare s).get t = if s = t then (env.get t).strip else env.get t := by
  induction env with
  | nil => simp [Env.bare, Env.get, AV.strip]
  | cons p r ih =>
    obtain ⟨u, w⟩ := p
    simp only [Env.bare, beq_eq]
    by_cases h1 : u = s
    · subst h1; simp only [decide_true, cond_true, Env.get, beq_eq]; by_cases h : u = t <;> simp [h]
    · simp only [h1, decide_false, cond_false, Env.get, beq_eq, ih]
      by_cases h : u = t
      · subst h; simp; intro h3; exact absurd h3.symm h1
      · simp [h]
theorem tm_put (tm : Array Value) (d t : Nat) (x : Value) (h : d < tm.size) : (tm.setIfInBounds d x).getD t undef = if d = t then x else tm.getD t undef := by
  simp only [Array.getD_eq_getD_getElem?, Array.getElem?_setIfInBounds]
  by_cases h' : d = t
  · subst h'; simp [h]
  · simp [h']
structure Ext (w : World) (U : Nat → Nat) (w' : World) (U' : Nat → Nat) : Prop where
  os : w'.os = w.os
  tape : w'.tape = w.tape
  output : w'.output = w.output
  size : w.heap.size ≤ w'.heap.size
  block : ∀ b, b < w.heap.size → w'.heap[b]? = w.heap[b]? ∧ U' b = U b
  drawn : w.drawn ≤ w'.drawn
theorem Ext.refl (w : World) (U : Nat → Nat) : Ext w U w U := ⟨rfl, rfl, rfl, Nat.le_refl _, fun _ _ => ⟨rfl, rfl⟩, Nat.le_refl _⟩
theorem Ext.trans {w w' w'' : World} {U U' U'' : Nat → Nat} (h : Ext w U w' U') (k : Ext w' U' w'' U'') : Ext w U w'' U'' :=
  ⟨k.os.trans h.os, k.tape.trans h.tape, k.output.trans h.output, Nat.le_trans h.size k.size,
    fun b hb => ⟨((k.block b (Nat.lt_of_lt_of_le hb h.size)).1).trans (h.block b hb).1, ((k.block b (Nat.lt_of_lt_of_le hb h.size)).2).trans (h.block b hb).2⟩, Nat.le_trans h.drawn k.drawn⟩
theorem cell_block {w w' : World} {b : Nat} (h : w'.heap[b]? = w.heap[b]?) (o : Nat) : w'.cell? ⟨b, o, none⟩ = w.cell? ⟨b, o, none⟩ := by
  simp only [World.cell?, h]
theorem frozen_block {w w' : World} {b : Nat} (h : w'.heap[b]? = w.heap[b]?) (o : Nat) : w'.frozen? ⟨b, o, none⟩ = w.frozen? ⟨b, o, none⟩ := by
  simp only [World.frozen?, h]
theorem Ext.grow {w w' : World} {U U' : Nat → Nat} (e : Ext w U w' U') (F : Nat → Prop) : Grow0 w F U w' F U' :=
  ⟨fun _ _ h => .inl h, fun b hb _ => ⟨Nat.le_of_eq (e.block b hb).2.symm, fun o _ => cell_block (e.block b hb).1 o⟩, fun b hb => ⟨Nat.lt_of_lt_of_le hb e.size, Nat.le_of_eq (e.block b hb).2.symm⟩⟩
theorem lt_of_some {w : World} {b : Nat} {o : Obj} (h : w.heap[b]? = some o) : b < w.heap.size := by
  rcases Nat.lt_or_ge b w.heap.size with h' | h'
  · exact h'
  · simp [Array.getElem?_eq_none h'] at h
theorem Ext.own {w w' : World} {U U' : Nat → Nat} (e : Ext w U w' U') {F : Nat → Prop} {B : Nat} {own : Option Nat} {v : AV} {x : Value} (h : OwnOK w F U B own v x) : OwnOK w' F U' B own v x := by
  unfold OwnOK at *
  split at h
  · rename_i sz n g ao len cap
    rcases h with h | ⟨a, hn, e1, e2, e3, e4, e5, e6, hsz, c, el, fr, e7, e8, e9⟩
    · exact .inl h
    · have hl := lt_of_some e7
      obtain ⟨b1, b2⟩ := e.block _ hl
      exact .inr ⟨a, hn, e1, e2, e3, e4, e5, b2.trans e6, hsz, c, el, fr, b1.trans e7, e8, fun o h1 => (frozen_block b1 o).trans (e9 o h1)⟩
  · obtain ⟨ao, cap, hx, hc, h⟩ := h
    refine ⟨ao, cap, hx, hc, ?_⟩
    rcases h with h | ⟨b, e1, e2, e3, e4, e5, hsz, c, el, fr, e7, e8, e9, e10, e11⟩
    · exact .inl h
    · obtain ⟨b1, b2⟩ := e.block _ (lt_of_some e7)
      exact .inr ⟨b, e1, e2, e3, e4, b2.trans e5, hsz, c, el, fr, b1.trans e7, e8, fun o => (frozen_block b1 o).trans (e9 o), e10, fun i j q hi hq => let ⟨y, h1, h2, h3⟩ := e11 i j q hi hq; ⟨y, h1, h2, h3.mono (e.grow F) (BlLe.refl _)⟩⟩
  · obtain ⟨ao, cap, hx, hc, h⟩ := h
    refine ⟨ao, cap, hx, hc, ?_⟩
    rcases h with h | ⟨b, e1, e2, e3, e4, e5, hsz, c, el, fr, e7, e8, e9, e10, e11⟩
    · exact .inl h
    · obtain ⟨b1, b2⟩ := e.block _ (lt_of_some e7)
      exact .inr ⟨b, e1, e2, e3, e4, b2.trans e5, hsz, c, el, fr, b1.trans e7, e8, fun o h1 => (frozen_block b1 o).trans (e9 o h1), e10, fun i j q hi hq => let ⟨y, h1, h2, h3⟩ := e11 i j q hi hq; ⟨y, h1, h2, h3.mono (e.grow F) (BlLe.refl _)⟩⟩
  · trivial
theorem Ext.ownAt {w w' : World} {U U' : Nat → Nat} (e : Ext w U w' U') {F : Nat → Prop} {B : Nat} {own : List Nat → Option Nat} {v : AV} {x : Value} (h : OwnAt w F U B own v x) : OwnAt w' F U' B own v x :=
  fun p u hp ho => let ⟨y, h1, h2⟩ := h p u hp ho; ⟨y, h1, e.own h2⟩
theorem Ext.obj {P : Program} {w w' : World} {U U' : Nat → Nat} (e : Ext w U w' U') {F : Nat → Prop} {bl : Blocks} {B : Nat} {own : Nat → List Nat → Option Nat} {ownM : Nat → List Nat → Option Nat} {bor : Option AV} {o : AObj} {b : Nat}
    (h : ObjRep P w F U bl B own ownM bor o b) : ObjRep P w' F U' bl B own ownM bor o b := by
  cases o with
  | cells cs =>
    obtain ⟨c, el, fr, h1, h2, h3, h4⟩ := h
    have hb := e.block b (lt_of_some h1)
    exact ⟨c, el, fr, hb.1.trans h1, h2, fun o ho => (frozen_block hb.1 o).trans (h3 o ho), fun i x y hx hy => ⟨(h4 i x y hx hy).1.mono (e.grow F) (BlLe.refl _), e.ownAt (h4 i x y hx hy).2⟩⟩
  | arr sz n g =>
    obtain ⟨c, el, fr, h1, h2, h3, h4, h5, h6⟩ := h
    have hb := e.block b (lt_of_some h1)
    exact ⟨c, el, fr, hb.1.trans h1, h2, h3, fun o ho => (frozen_block hb.1 o).trans (h4 o ho), h5, fun i j x hi hx =>
      let ⟨y, hy, h1, hr⟩ := h6 i j x hi hx; ⟨y, hy, h1, hr.mono (e.grow F) (BlLe.refl _)⟩⟩
  | oarr sz n g =>
    obtain ⟨c, el, fr, h1, h2, h3, hu, h4, h5, h6⟩ := h
    have hb := e.block b (lt_of_some h1)
    exact ⟨c, el, fr, hb.1.trans h1, h2, h3, hb.2.trans hu, fun o => (frozen_block hb.1 o).trans (h4 o), h5, fun i j x hi hx =>
      let ⟨y, hy, h1, hr, ho⟩ := h6 i j x hi hx; ⟨y, hy, h1, hr.mono (e.grow F) (BlLe.refl _), e.ownAt ho⟩⟩
  | map kt ow ents =>
    obtain ⟨es, clock, h1, h2, h3, h4, h5, h6, h7⟩ := h
    have hb := e.block b (lt_of_some h1)
    exact ⟨es, clock, hb.1.trans h1, ⟨h2.1, fun i p q hp hq => ⟨((h2.2 i p q hp hq).1).mono (e.grow F) (BlLe.refl _), ((h2.2 i p q hp hq).2).mono (e.grow F) (BlLe.refl _)⟩⟩, h3, h4, h5, h6,
      fun i p q hp hq => e.ownAt (h7 i p q hp hq)⟩
  | iter o l cu =>
    cases o with
    | none => obtain ⟨h0, s, q, r, h1⟩ := h; exact ⟨h0, s, q, r, (e.block b (lt_of_some h1)).1.trans h1⟩
    | some id =>
      obtain ⟨bm, es, clock, seen, last, h1, h2, h3, h4, h5, h6, h7⟩ := h
      exact ⟨bm, es, clock, seen, last, h1, (e.block bm (lt_of_some h2)).1.trans h2, (e.block b (lt_of_some h3)).1.trans h3, h4, h5,
        ⟨h6.1, fun i p q hp hq => ⟨((h6.2 i p q hp hq).1).mono (e.grow F) (BlLe.refl _), ((h6.2 i p q hp hq).2).mono (e.grow F) (BlLe.refl _)⟩⟩,
        fun p hp => let ⟨k1, e', k2, k3, k4, k5⟩ := h7 p hp; ⟨k1, e', k2, k3, k4.mono (e.grow F) (BlLe.refl _), k5.mono (e.grow F) (BlLe.refl _)⟩⟩
  | dead => trivial
section
variable {P : Program} {A : Amb} {nt : Nat} {pend : List (Nat × AObj)} {env : Env} {heap : Heap} {bor : Option (Nat × AV)} {tm : Array Value} {w : World} {U : Nat → Nat} {bl : Blocks} {ob : Loc → Option Nat}
theorem Rel.ext (h : Rel P A nt pend env heap bor tm w U bl ob) {w' : World} {U' : Nat → Nat} (e : Ext w U w' U') :
    Rel P A nt pend env heap bor tm w' U' bl ob where
  size := h.size
  env t := ⟨(h.env t).1.mono (e.grow _) (BlLe.refl _), e.ownAt (h.env t).2⟩
  len := h.len
  objs id b hb := e.obj (h.objs id b hb)
  inj := h.inj
  base id b hb := let ⟨h1, h2, h3⟩ := h.base id b hb; ⟨h1, Nat.lt_of_lt_of_le h2 e.size, h3⟩
  obinj := h.obinj
  obok := fun l b hb => ⟨(h.obok l b hb).1, Nat.lt_of_lt_of_le (h.obok l b hb).2.1 e.size, (h.obok l b hb).2.2⟩
  since := {
    below := h.since.below.trans ⟨e.os, e.tape, e.output, e.size, fun k hk => (e.block k (Nat.lt_of_lt_of_le hk h.hB)).1, e.drawn⟩
    g0 := h.since.g0.trans (e.grow _) h.since.below.size
    ble := h.since.ble
    pnd := h.since.pnd
    gown := fun b hb => by
      obtain ⟨g1, g2⟩ := h.since.gown b hb
      obtain ⟨e1, e2⟩ := e.block b (h.hG b hb)
      exact ⟨e1.trans g1, e2.trans g2⟩
    blen := h.since.blen
    ub := fun b hb => by rw [(e.block b (Nat.lt_of_lt_of_le hb h.hB)).2]; exact h.since.ub b hb }
  f0 := h.f0
  hB := Nat.le_trans h.hB e.size
  hG := fun b hb => Nat.lt_of_lt_of_le (h.hG b hb) e.size
  pend := h.pend
  fro := h.fro
theorem Rel.putG (h : Rel P A nt pend env heap bor tm w U bl ob) {d : Nat} (hd : d < nt) {v : AV} {x : Value} (own : List Nat → Option Nat)
    (hv : Rep w (forb A bl heap) U bl v x) (ho : OwnAt w (forb A bl heap) U A.B own v x)
    (hf : ∀ p b, own p = some b → (¬ A.G b ∧ b < w.heap.size ∧ ∀ id : Nat, bl[id]? ≠ some (some b)) ∧ (∀ q, own q = some b → p = q) ∧ ∀ l, ob l = some b → ∃ q, l = .env d q) :
    Rel P A nt pend (env.set d v) heap bor (tm.setIfInBounds d x) w U bl (fun l => match l with | .env t p => if t = d then own p else ob (.env t p) | l => ob l) where
  size := by simp; exact h.size
  env t := by
    rw [get_set, tm_put _ _ _ _ (Nat.lt_of_lt_of_le hd h.size)]
    by_cases e : d = t
    · subst e; simp only [if_true]; exact ⟨hv, ho⟩
    · have e' : ¬ t = d := fun q => e q.symm
      simp only [e, e', if_false]; exact h.env t
  len := h.len
  objs := h.objs
  inj := h.inj
  base := h.base
  obinj := by
    intro l m b hl hm
    have key : ∀ l b, (match l with | Loc.env t p => if t = d then own p else ob (.env t p) | l => ob l) = some b → (∃ p, l = .env d p ∧ own p = some b) ∨ (ob l = some b ∧ ∀ p, l ≠ .env d p) := by
      intro l b hl
      cases l with
      | env t p =>
        simp only at hl
        by_cases e : t = d
        · subst e; simp only [if_true] at hl; exact .inl ⟨p, rfl, hl⟩
        · simp only [e, if_false] at hl; exact .inr ⟨hl, fun q hq => e (by injection hq)⟩
      | cell id i p => exact .inr ⟨hl, fun q hq => by injection hq⟩
      | mapv id i p => exact .inr ⟨hl, fun q hq => by injection hq⟩
    rcases key l b hl with ⟨p, rfl, hp⟩ | ⟨hl', hn⟩ <;> rcases key m b hm with ⟨q, rfl, hq⟩ | ⟨hm', hn'⟩
    · rw [(hf p b hp).2.1 q hq]
    · obtain ⟨q, rfl⟩ := (hf p b hp).2.2 m hm'; exact absurd rfl (hn' q)
    · obtain ⟨p, rfl⟩ := (hf q b hq).2.2 l hl'; exact absurd rfl (hn p)
    · exact h.obinj l m b hl' hm'
  obok := by
    intro l b hl
    cases l with
    | env t p =>
      simp only at hl
      by_cases e : t = d
      · subst e; simp only [if_true] at hl; exact (hf p b hl).1
      · simp only [e, if_false] at hl; exact h.obok _ b hl
    | cell id i p => exact h.obok _ b hl
    | mapv id i q => exact h.obok _ b hl
  since := h.since
  f0 := h.f0
  hB := h.hB
  hG := h.hG
  pend := h.pend
  fro := h.fro
def setO (env : Env) (d : Option Nat) (v : AV) : Env := match d with | some d => env.set d v | none => env
def putO (tm : Array Value) (d : Option Nat) (x : Value) : Array Value := match d with | some d => tm.setIfInBounds d x | none => tm
theorem Rel.put0 (h : Rel P A nt pend env heap bor tm w U bl ob) {d : Option Nat} (hd : ∀ t, d = some t → t < nt) {v : AV} {x : Value}
    (hv : Rep w (forb A bl heap) U bl v x) (ho : ∀ own, OwnAt w (forb A bl heap) U A.B own v x) :
    ∃ ob', Rel P A nt pend (setO env d v) heap bor (putO tm d x) w U bl ob' := by
  cases d with
  | none => exact ⟨ob, h⟩
  | some d => exact ⟨_, h.putG (hd d rfl) (fun _ => none) hv (ho _) (fun p b hb => by simp at hb)⟩
theorem Rel.bareAt (h : Rel P A nt pend env heap bor tm w U bl ob) (s : Nat) :
    Rel P A nt pend (env.bare s) heap bor tm w U bl (fun l => match l with | .env t p => if t = s then none else ob (.env t p) | l => ob l) := by
  refine { h with env := fun t => ?_, obinj := ?_, obok := ?_ }
  · rw [get_bare]
    by_cases e : s = t
    · subst e; simp only [if_true]; exact ⟨(h.env s).1.strip, .bare (strip_bare _)⟩
    · have e' : ¬ t = s := fun q => e q.symm
      simp only [e, e', if_false]; exact h.env t
  · intro l m b hl hm
    refine h.obinj l m b ?_ ?_
    · cases l <;> simp only at hl <;> first | exact hl | (split at hl <;> first | exact hl | simp at hl)
    · cases m <;> simp only at hm <;> first | exact hm | (split at hm <;> first | exact hm | simp at hm)
  · intro l b hl
    refine h.obok l b ?_
    cases l <;> simp only at hl <;> first | exact hl | (split at hl <;> first | exact hl | simp at hl)
theorem Rel.move (h : Rel P A nt pend env heap bor tm w U bl ob) (s : Nat) {d : Option Nat} (hd : ∀ t, d = some t → t < nt) :
    ∃ ob', Rel P A nt pend (setO (env.bare s) d (env.get s)) heap bor (putO tm d (tm.getD s undef)) w U bl ob' := by
  have hb : Rel P A nt pend (env.bare s) heap bor tm w U bl (fun l => match l with | .env t p => if t = s then none else ob (.env t p) | l => ob l) := by
    refine { h with env := fun t => ?_, obinj := ?_, obok := ?_ }
    · rw [get_bare]
      by_cases e : s = t
      · subst e; simp only [if_true]; exact ⟨(h.env s).1.strip, .bare (strip_bare _)⟩
      · have e' : ¬ t = s := fun q => e q.symm
        simp only [e, e', if_false]; exact h.env t
    · intro l m b hl hm
      refine h.obinj l m b ?_ ?_
      · cases l <;> simp only at hl <;> first | exact hl | (split at hl <;> first | exact hl | simp at hl)
      · cases m <;> simp only at hm <;> first | exact hm | (split at hm <;> first | exact hm | simp at hm)
    · intro l b hl
      refine h.obok l b ?_
      cases l <;> simp only at hl <;> first | exact hl | (split at hl <;> first | exact hl | simp at hl)
  cases d with
  | none => exact ⟨_, hb⟩
  | some d =>
    refine ⟨_, hb.putG (hd d rfl) (fun p => ob (.env s p)) (h.env s).1 (h.env s).2 (fun p b hp => ⟨h.obok _ b hp, fun q hq => ?_, fun l hl => ?_⟩)⟩
    · have := h.obinj _ _ b hp hq; injection this
    · cases l with
      | env t q =>
        simp only at hl
        by_cases e : t = s
        · simp [e] at hl
        · simp only [e, if_false] at hl
          have := h.obinj _ _ b hl hp
          injection this with e1 e2
          exact absurd e1 e
      | cell id i q => exact absurd (h.obinj _ _ b hl hp) (by simp)
      | mapv id i q => exact absurd (h.obinj _ _ b hl hp) (by simp)
end
end Ax

namespace Ax
open Go Go.RowKit
section
variable {P : Program} {w : World}
theorem und_of {t : TypeId} {d : TypeDesc} (h : tyD P t = d) (hd : d ≠ .invalid) : P.underlying t = some d := by
  unfold tyD at h
  cases h' : P.underlying t with
  | none => rw [h'] at h; exact absurd h.symm hd
  | some e => rw [h'] at h; simp at h; rw [h]
theorem run_und {t : TypeId} {d : TypeDesc} (h : tyD P t = d) (hd : d ≠ .invalid) : (underlying t).run P w = .ok d w := run_underlying (und_of h hd) w
theorem info_of {t : TypeId} (h : (P.underlying t).isSome = true) : ∃ i, P.info? t = some i := by
  unfold Program.underlying at h
  cases h' : P.info? t with
  | none => simp [h'] at h
  | some i => exact ⟨i, rfl⟩
theorem run_info {t : TypeId} {i : TypeInfo} (h : P.info? t = some i) : (typeInfo t).run P w = .ok i w := by
  simp [typeInfo, h]
theorem run_size {t : TypeId} (h : (P.underlying t).isSome = true) : (Go.sizeOf t).run P w = .ok (tySz P t) w := by
  obtain ⟨i, hi⟩ := info_of h
  simp [Go.sizeOf, typeInfo, hi, tySz]
theorem info_size {t : TypeId} (h : 0 < tySz P t) : ∃ i, P.info? t = some i := by
  unfold tySz at h
  cases h' : P.info? t with
  | none => simp [h'] at h
  | some i => exact ⟨i, rfl⟩
theorem run_size' {t : TypeId} (h : 0 < tySz P t) : (Go.sizeOf t).run P w = .ok (tySz P t) w := by
  obtain ⟨i, hi⟩ := info_size h
  simp [Go.sizeOf, typeInfo, hi, tySz]
theorem tyAgg_und {t : TypeId} (h : tyAgg P t = true) : (P.underlying t).isSome = true := by
  unfold tyAgg tyD at h
  cases h' : P.underlying t with
  | none => rw [h'] at h; simp at h
  | some e => rfl
theorem run_agg {t : TypeId} (h : (P.underlying t).isSome = true) : (isAgg t).run P w = .ok (tyAgg P t) w := by
  obtain ⟨d, hd⟩ := Option.isSome_iff_exists.1 h
  have hu : (underlying t).run P w = .ok d w := run_underlying hd w
  unfold isAgg tyAgg tyD
  rw [Sem.run_bind, hu, hd]
  cases d <;> simp
variable {F : Nat → Prop} {U : Nat → Nat} {bl : Blocks}
def CellsRep (w : World) (F : Nat → Prop) (U : Nat → Nat) (bl : Blocks) (cs : List AV) (f : Nat → Option Value) : Prop :=
  ∀ (j : Nat) c, cs[j]? = some c → ∃ y, f j = some y ∧ Rep w F U bl c y
theorem take_drop_get {α : Type} (l : List α) (a n j : Nat) : ((l.drop a).take n)[j]? = if j < n then l[a + j]? else none := by
  rw [List.getElem?_take]; split <;> simp_all [List.getElem?_drop]
theorem oneAV_some {r : Option AV} {v : AV} (h : oneAV r = some v) : r = some v ∧ ∀ l, v ≠ .agg l := by
  unfold oneAV at h
  split at h
  · simp at h
  · rename_i hn
    subst h
    exact ⟨rfl, fun l hl => hn l (by rw [hl])⟩
theorem part_sound {t : TypeId} {cs : List AV} {vs : Array Value} {off : Nat} {v : AV} (h : partAV P t cs off = some v) (hc : CellsRep w F U bl cs (fun j => vs[j]?)) :
    ∃ x, (part t vs off).run P w = .ok x w ∧ Rep w F U bl v x := by
  unfold partAV at h
  cases ha : tyAgg P t with
  | true =>
    have hu := tyAgg_und ha
    simp only [ha, cond_true, ble_eq] at h
    by_cases hl : off + tySz P t ≤ cs.length
    · simp only [hl, decide_true, cond_true, Option.some.injEq] at h
      subst h
      have hlen : off + tySz P t ≤ vs.size := by
        rcases Nat.eq_zero_or_pos (off + tySz P t) with h0 | h0
        · omega
        · obtain ⟨y, hy, _⟩ := hc (off + tySz P t - 1) cs[off + tySz P t - 1] (List.getElem?_eq_getElem (by omega))
          obtain ⟨hlt, _⟩ := Array.getElem?_eq_some_iff.1 hy
          omega
      refine ⟨.agg (vs.extract off (off + tySz P t)), ?_, .agg ?_ ?_⟩
      · simp [part, run_agg hu, ha, run_size hu]
      · simp; omega
      · intro i x y hx hy
        rw [take_drop_get] at hx
        split at hx
        · rename_i hi
          obtain ⟨y', hy', hr⟩ := hc _ x hx
          have : y = y' := by
            rw [Array.getElem?_extract] at hy
            split at hy
            · exact Option.some.inj (hy.symm.trans hy')
            · simp at hy
          exact this ▸ hr
        · simp at hx
    · simp [hl] at h
  | false =>
    simp only [ha, cond_false] at h
    cases hk : ((P.underlying t).isSome && Nat.beq (tySz P t) 1) with
    | false => simp [hk] at h
    | true =>
      simp only [hk, cond_true] at h
      simp only [Bool.and_eq_true] at hk
      obtain ⟨y, hy, hr⟩ := hc off v (oneAV_some h).1
      refine ⟨y, ?_, hr⟩
      simp [part, run_agg hk.1, ha, hy]
theorem addr_add (b o n : Nat) : (⟨b, o, none⟩ : Addr).add n = ⟨b, o + n, none⟩ := by
  unfold Addr.add; split <;> simp_all
theorem load_sound {t : TypeId} {cs : List AV} {b o off : Nat} {v : AV} (h : partAV P t cs off = some v) (hc : CellsRep w F U bl cs (fun j => w.cell? ⟨b, o + j, none⟩)) :
    ∃ x, (Instr.loadAt t (.pointer (some ⟨b, o + off, none⟩))).run P w = .ok x w ∧ Rep w F U bl v x := by
  unfold partAV at h
  cases ha : tyAgg P t with
  | true =>
    have hu := tyAgg_und ha
    simp only [ha, cond_true, ble_eq] at h
    by_cases hl : off + tySz P t ≤ cs.length
    · simp only [hl, decide_true, cond_true, Option.some.injEq] at h
      subst h
      have hex : ∀ j, j < tySz P t → ∃ y, w.cell? ⟨b, o + off + j, none⟩ = some y ∧ ∀ c, cs[off + j]? = some c → Rep w F U bl c y := by
        intro j hj
        obtain ⟨y, hy, hr⟩ := hc (off + j) cs[off + j] (List.getElem?_eq_getElem (by omega))
        refine ⟨y, by rw [Nat.add_assoc]; exact hy, fun c hcc => ?_⟩
        rw [List.getElem?_eq_getElem (by omega)] at hcc
        exact Option.some.inj hcc ▸ hr
      refine ⟨.agg ((List.range (tySz P t)).map fun j => (w.cell? ⟨b, o + off + j, none⟩).getD undef).toArray, ?_, .agg (by simp; omega) ?_⟩
      · have := run_loadCells (P := P) w ⟨b, o + off, none⟩ (tySz P t) (fun j => (w.cell? ⟨b, o + off + j, none⟩).getD undef) (fun j hj => by
          rw [addr_add]; obtain ⟨y, hy, _⟩ := hex j hj; simp [hy])
        simp [Instr.loadAt, Instr.sureAddr, loadVar, run_agg hu, ha, run_size hu, this]
      · intro i x y hx hy
        rw [take_drop_get] at hx
        split at hx
        · rename_i hi
          obtain ⟨y', hy', hr⟩ := hex i hi
          simp [hi, hy'] at hy
          exact hy ▸ hr x hx
        · simp at hx
    · simp [hl] at h
  | false =>
    simp only [ha, cond_false] at h
    cases hk : ((P.underlying t).isSome && Nat.beq (tySz P t) 1) with
    | false => simp [hk] at h
    | true =>
      simp only [hk, cond_true] at h
      simp only [Bool.and_eq_true] at hk
      obtain ⟨y, hy, hr⟩ := hc off v (oneAV_some h).1
      refine ⟨y, ?_, hr⟩
      simp [Instr.loadAt, Instr.sureAddr, loadVar, run_agg hk.1, ha, hy]
end
end Ax

namespace Ax
open Go Go.RowKit
section
variable {P : Program} {w : World} {F : Nat → Prop} {U : Nat → Nat} {bl : Blocks} {B : Nat}
theorem own_triv_nil {sz : Nat} {g : Nat → AV} {own : List Nat → Option Nat} : OwnAt w F U B own (.own (.vec sz 0 g)) (.slice none 0 0) := by
  intro p u h
  cases p with
  | nil => simp [AV.at] at h; subst h; exact fun _ => ⟨_, rfl, .inl rfl⟩
  | cons i p => simp [AV.at] at h
theorem ofConst1_rep (t : TypeId) (v : Value) : Rep w F U bl (ofConst1 P t v) v ∧ ∀ own, OwnAt w F U B own (ofConst1 P t v) v := by
  unfold ofConst1
  split
  · exact ⟨.bool, fun _ => .bare (bare_of rfl)⟩
  · exact ⟨.int, fun _ => .bare (bare_of rfl)⟩
  · exact ⟨.str, fun _ => .bare (bare_of rfl)⟩
  · exact ⟨.nilptr, fun _ => .bare (bare_of rfl)⟩
  · split
    · rename_i e he
      have hz : zeroCell P depth0 t = bif tyData P depth0 e then AV.own (.vec (tySz P e) 0 fun _ =>
        bif tyAgg P e then .agg ((tyCells P depth0 e).map fun u => (zeroCell P 11 u).strip) else (zeroCell P 11 e).strip) else .rvec [] := by
        show zeroCell P (11 + 1) t = _
        simp only [zeroCell, he]
      rw [hz]
      cases tyData P depth0 e with
      | true => exact ⟨.own (.vec (Nat.le_refl _) (fun _ _ => undef) (fun h => absurd h (by omega)) (fun i hi => absurd hi (by omega)) (fun i j hi _ => absurd hi (by omega)) (fun i j c hi _ => absurd hi (by omega))), fun _ => own_triv_nil⟩
      | false => exact ⟨.rvec (Nat.le_refl _) (fun _ => undef) (fun h => absurd h (by simp)) (fun v hv => by simp at hv) (fun i c hc => by simp at hc), fun _ => .bare (bare_of rfl)⟩
    · exact ⟨.rvec (Nat.le_refl _) (fun _ => undef) (fun h => absurd h (by simp)) (fun v hv => by simp at hv) (fun i c hc => by simp at hc), fun _ => .bare (bare_of rfl)⟩
  · exact ⟨.nilmap, fun _ => .bare (bare_of rfl)⟩
  · exact ⟨.nilfn, fun _ => .bare (bare_of rfl)⟩
  · exact ⟨.nilIface, fun _ => .bare (bare_of rfl)⟩
  · exact ⟨.undef, fun _ => .bare (bare_of rfl)⟩
theorem ofConstL_get (P : Program) : ∀ (ts : List TypeId) (vs : List Value), ts.length = vs.length → (ofConstL P ts vs).length = vs.length ∧
    ∀ (i : Nat) x v, (ofConstL P ts vs)[i]? = some x → vs[i]? = some v → ∃ t, x = ofConst1 P t v
  | [], [], _ => ⟨rfl, fun i x v h => by simp [ofConstL] at h⟩
  | t :: ts, v :: vs, h => by
    obtain ⟨h1, h2⟩ := ofConstL_get P ts vs (by simpa using h)
    refine ⟨by simp [ofConstL, h1], fun i x u hx hu => ?_⟩
    cases i with
    | zero => simp [ofConstL] at hx hu; exact ⟨t, by rw [← hx, ← hu]⟩
    | succ i => exact h2 i x u (by simpa [ofConstL] using hx) (by simpa using hu)
  | [], _ :: _, h => by simp at h
  | _ :: _, [], h => by simp at h
theorem ofConst_rep (t : TypeId) (v : Value) : Rep w F U bl (ofConst P t v) v ∧ ∀ own, OwnAt w F U B own (ofConst P t v) v := by
  unfold ofConst
  split
  · rename_i vs
    rw [beq_eq]
    by_cases h : (tyCells P depth0 t).length = vs.size
    · simp only [h, decide_true, cond_true]
      obtain ⟨h1, h2⟩ := ofConstL_get P (tyCells P depth0 t) vs.toList (by simpa using h)
      refine ⟨.agg (by simpa using h1) fun i x y hx hy => ?_, fun own p u hp hou => ?_⟩
      · obtain ⟨t', rfl⟩ := h2 i x y hx (by simpa using hy)
        exact (ofConst1_rep (B := 0) t' y).1
      · cases p with
        | nil => simp [AV.at] at hp; subst hp; simp [AV.owned] at hou
        | cons i p =>
          simp only [AV.at] at hp
          cases hx : (ofConstL P (tyCells P depth0 t) vs.toList)[i]? with
          | none => simp [hx] at hp
          | some x =>
            simp only [hx] at hp
            have hi : i < vs.size := by
              have := (List.getElem?_eq_some_iff.1 hx).1; rw [h1] at this; simpa using this
            obtain ⟨t', rfl⟩ := h2 i x vs[i] hx (by simp [hi])
            obtain ⟨y, hy, ho⟩ := (ofConst1_rep (w := w) (F := F) (U := U) (bl := bl) (B := B) (P := P) t' vs[i]).2 (fun q => own (i :: q)) p u hp hou
            exact ⟨y, by simp [vat, hi, hy], ho⟩
    · simp only [h, decide_false, cond_false]; exact ⟨.undef, fun _ => .bare (bare_of rfl)⟩
  · exact ofConst1_rep t v
theorem ofConst1_nouni (t : TypeId) (v : Value) {u : AV} : ofConst1 P t v ≠ .uni u := by
  unfold ofConst1
  split
  case h_5 =>
    split
    · rename_i e he
      have hz : zeroCell P depth0 t = bif tyData P depth0 e then AV.own (.vec (tySz P e) 0 fun _ =>
        bif tyAgg P e then .agg ((tyCells P depth0 e).map fun u => (zeroCell P 11 u).strip) else (zeroCell P 11 e).strip) else .rvec [] := by
        show zeroCell P (11 + 1) t = _
        simp only [zeroCell, he]
      rw [hz]
      cases tyData P depth0 e <;> simp
    · simp
  all_goals simp
theorem ofConst_nouni (t : TypeId) (v : Value) {u : AV} : ofConst P t v ≠ .uni u := by
  unfold ofConst
  split
  · cases Nat.beq (tyCells P depth0 t).length _ <;> simp
  · exact ofConst1_nouni t v
theorem evo_rep {env : Env} {a : Act} (hE : ∀ t, Rep w F U bl (env.get t) (a.tmps.getD t undef)) (t : TypeId) (x : Operand) : Rep w F U bl (evo P t env x) (a.eval x) := by
  cases x with
  | tmp s => exact hE s
  | const v => exact (ofConst_rep (B := 0) t v).1
  | func f => exact .fn rfl rfl (fun i x y h => by simp at h) (fun i x y h => by simp at h)
  | global g => exact .undef
theorem rep_int {k : IntKind} {n : Int} {x : Value} (h : Rep w F U bl (.int k n) x) : x = .int k n := by cases h; rfl
theorem rep_bool {b : Bool} {x : Value} (h : Rep w F U bl (.bool b) x) : x = .bool b := by cases h; rfl
theorem rep_str {s : ByteArray} {x : Value} (h : Rep w F U bl (.str s) x) : x = .string s := by cases h; rfl
def Flat : AV → Prop
  | .int _ _ => True
  | .bool _ => True
  | .str _ => True
  | _ => False
theorem Flat.bare {v : AV} (h : Flat v) : Bare v := by
  cases v <;> first | exact h.elim | exact bare_of rfl
theorem bare_ptr {v : AV} (h : (match v with | .ptr _ _ => True | .eptr _ _ _ _ => True | .cptr _ => True | .fn _ _ _ => True | .vec _ _ _ => True | .row _ _ _ _ => True | .rvec _ => True | .wide _ _ _ _ => True | .undef => True | .iface _ _ => True | _ => False)) : Bare v := by
  cases v <;> first | exact h.elim | exact bare_of rfl
theorem toList_eq (x y : ByteArray) : (x.toList == y.toList) = decide (x = y) := by
  by_cases h : x = y
  · subst h; simp
  · rw [decide_eq_false h]
    rw [beq_eq_false_iff_ne]
    intro h'
    apply h
    rw [ByteArray.toList_eq, ByteArray.toList_eq] at h'
    obtain ⟨⟨x⟩⟩ := x
    obtain ⟨⟨y⟩⟩ := y
    simp at h'
    rw [h']
theorem guard_int (op : BinOp) (t : TypeId) (ox oy : Operand) (a b : Value) (h : (match a, b with | .nilIface, .nilIface => false | .agg _, .agg _ => false | _, _ => true) = true) :
    (eqGuard op t ox oy a b).run P w = .ok () w := by
  cases op <;> first
    | rfl
    | (simp only [eqGuard]; cases a <;> cases b <;> first | rfl | simp at h)
theorem cellsRep_arr {xs : List AV} {vs : Array Value} (hn : xs.length = vs.size) (h : ∀ (i : Nat) x y, xs[i]? = some x → vs[i]? = some y → Rep w F U bl x y) : CellsRep w F U bl xs (fun j => vs[j]?) := by
  intro j c hj
  have hlt := (List.getElem?_eq_some_iff.1 hj).1
  exact ⟨vs[j]'(by omega), by simp, h j c _ hj (by simp)⟩
theorem eqFs_sound {E : TypeId → AV → AV → Option Bool} {D : Nat} (hE : ∀ t x y x' y' b, E t x y = some b → Rep w F U bl x x' → Rep w F U bl y y' → (Op.equalIn D t x' y').run P w = .ok b w)
    {xs ys : List AV} {vs us : Array Value} (hx : CellsRep w F U bl xs (fun j => vs[j]?)) (hy : CellsRep w F U bl ys (fun j => us[j]?)) :
    ∀ (fs : List Field) (b : Bool), eqFsWith P E xs ys fs = some b → (Op.eqFields D vs us fs).run P w = .ok b w
  | [], b, h => by simp [eqFsWith] at h; subst h; simp [Op.eqFields]
  | f :: r, b, h => by
    simp only [eqFsWith] at h
    cases hn : (f.name == "_") with
    | true => simp [hn] at h
    | false =>
      simp only [hn, cond_false] at h
      cases h1 : partAV P f.type xs f.offset with
      | none => simp [h1] at h
      | some a =>
        cases h2 : partAV P f.type ys f.offset with
        | none => simp [h1, h2] at h
        | some c =>
          simp only [h1, h2] at h
          cases h3 : E f.type a c with
          | none => simp [h3] at h
          | some e =>
            simp only [h3] at h
            obtain ⟨d, hd, rfl⟩ := Option.map_eq_some_iff.1 h
            obtain ⟨a', ra, pa⟩ := part_sound h1 hx
            obtain ⟨c', rc, pc⟩ := part_sound h2 hy
            have hne : f.name ≠ "_" := by simpa using hn
            have ih := eqFs_sound hE hx hy r d hd
            simp only [Op.eqFields, if_pos hne, Sem.run_bind, ra, rc, Result.andThen_ok, hE _ _ _ _ _ _ h3 pa pc]
            cases e with
            | true => simp [ih]
            | false => simp
theorem eqT_sound : ∀ (d D : Nat), d ≤ D → ∀ t x y x' y' b, eqT P d t x y = some b → Rep w F U bl x x' → Rep w F U bl y y' → (Op.equalIn D t x' y').run P w = .ok b w
  | 0, _, _ => fun t x y x' y' b h _ _ => by simp [eqT] at h
  | d + 1, 0, hD => absurd hD (by omega)
  | d + 1, D + 1, hD => fun t x y x' y' b h hx hy => by
    unfold eqT at h
    split at h
    · rename_i k0 k a k' b' ht
      obtain rfl := rep_int hx
      obtain rfl := rep_int hy
      by_cases hk : k = k0 ∧ k' = k0
      · obtain ⟨rfl, rfl⟩ := hk
        simp at h
        subst h
        rw [run_equalIn_int w D t _ _ _ _ (und_of ht (by simp))]
        congr 1
      · have : (decide (k = k0) && decide (k' = k0)) = false := by
          simp only [Bool.and_eq_false_iff, decide_eq_false_iff_not]; exact Decidable.not_and_iff_not_or_not.1 hk
        simp [this] at h
    · rename_i a b' ht
      obtain rfl := rep_bool hx
      obtain rfl := rep_bool hy
      simp at h
      subst h
      rw [run_equalIn_bool' w D t _ _ (und_of ht (by simp))]
    · rename_i a b' ht
      obtain rfl := rep_str hx
      obtain rfl := rep_str hy
      simp at h
      subst h
      rw [run_equalIn_string w D t _ _ (und_of ht (by simp)), toList_eq]
    · rename_i fs xs ys ht
      cases hs : P.stoodInHeld t with
      | true => simp [hs] at h
      | false =>
        simp only [hs, cond_false] at h
        cases hx with
        | agg hn1 h1 =>
          cases hy with
          | agg hn2 h2 =>
            have hu := und_of ht (by simp)
            have hf : P.fieldsOf t = fs := by simp [Program.fieldsOf, hu]
            rw [run_equalIn_struct w D t _ _ (by rw [hf]; exact hu) hs, hf]
            exact eqFs_sound (eqT_sound d D (by omega)) (cellsRep_arr hn1 h1) (cellsRep_arr hn2 h2) _ _ h
    · simp at h
theorem eq_of {t : TypeId} {x y : Value} {b : Bool} (h : ∀ d, (Op.equalIn (d + 1) t x y).run P w = .ok b w) : (Op.equal t x y).run P w = .ok b w := by
  simp only [Op.equal, Op.maxDepth]; exact h 9999
theorem eqAV_sound {t : TypeId} {x y : AV} {x' y' : Value} {b : Bool} (h : eqAV P t x y = some b) (hx : Rep w F U bl x x') (hy : Rep w F U bl y y') :
    (Op.equal t x' y').run P w = .ok b w ∧ (∀ op ox oy, (eqGuard op t ox oy x' y').run P w = .ok () w) ∧
      (binOp .eql t x' y' = (do pure (.bool (← Op.equal t x' y')))) ∧ (binOp .neq t x' y' = (do pure (.bool (!(← Op.equal t x' y'))))) := by
  have pt : ∀ u c : Bool, (match tyD P t with | .pointer _ => some c | _ => none) = some u → ∃ e, tyD P t = .pointer e ∧ c = u := by
    intro u c hh; cases hd : tyD P t <;> simp [hd] at hh; exact ⟨_, rfl, hh⟩
  have pm : ∀ u c : Bool, (match tyD P t with | .map _ _ => some c | _ => none) = some u → ∃ k e, tyD P t = .map k e ∧ c = u := by
    intro u c hh; cases hd : tyD P t <;> simp [hd] at hh; exact ⟨_, _, rfl, hh⟩
  have pf : ∀ u c : Bool, (match tyD P t with | .func _ _ _ => some c | _ => none) = some u → ∃ k e f, tyD P t = .func k e f ∧ c = u := by
    intro u c hh; cases hd : tyD P t <;> simp [hd] at hh; exact ⟨_, _, _, rfl, hh⟩
  unfold eqAV at h
  split at h
  · rename_i xs ys
    cases hg : P.eqGuardType P.depth t with
    | true => simp [hg] at h
    | false =>
      simp only [hg, cond_false] at h
      have := eqT_sound depth0 10000 (by decide) t _ _ _ _ _ h hx hy
      cases hx; cases hy
      exact ⟨by simp only [Op.equal, Op.maxDepth]; exact this, fun op ox oy => run_eqGuard_agg w op t ox oy _ _ hg, rfl, rfl⟩
  · have := eqT_sound depth0 10000 (by decide) t _ _ _ _ _ h hx hy
    cases hx; cases hy
    exact ⟨by simp only [Op.equal, Op.maxDepth]; exact this, fun op ox oy => guard_int op t ox oy _ _ rfl, rfl, rfl⟩
  · obtain ⟨e, he, rfl⟩ := pt _ _ h
    cases hx; cases hy
    exact ⟨eq_of fun d => by simp [Op.equalIn, run_underlying (und_of he (by simp))], fun op ox oy => guard_int op t ox oy _ _ rfl, rfl, rfl⟩
  · obtain ⟨e, he, rfl⟩ := pt _ _ h
    cases hx; cases hy
    exact ⟨eq_of fun d => by simp [Op.equalIn, run_underlying (und_of he (by simp))], fun op ox oy => guard_int op t ox oy _ _ rfl, rfl, rfl⟩
  · obtain ⟨e, he, rfl⟩ := pt _ _ h
    cases hx; cases hy
    exact ⟨eq_of fun d => by simp [Op.equalIn, run_underlying (und_of he (by simp))], fun op ox oy => guard_int op t ox oy _ _ rfl, rfl, rfl⟩
  · obtain ⟨e, he, rfl⟩ := pt _ _ h
    cases hx; cases hy
    exact ⟨eq_of fun d => by simp [Op.equalIn, run_underlying (und_of he (by simp))], fun op ox oy => guard_int op t ox oy _ _ rfl, rfl, rfl⟩
  · obtain ⟨e, he, rfl⟩ := pt _ _ h
    cases hx; cases hy
    exact ⟨eq_of fun d => by simp [Op.equalIn, run_underlying (und_of he (by simp))], fun op ox oy => guard_int op t ox oy _ _ rfl, rfl, rfl⟩
  · obtain ⟨k, e, he, rfl⟩ := pm _ _ h
    cases hx; cases hy
    exact ⟨eq_of fun d => by simp [Op.equalIn, run_underlying (und_of he (by simp))], fun op ox oy => guard_int op t ox oy _ _ rfl, rfl, rfl⟩
  · obtain ⟨k, e, he, rfl⟩ := pm _ _ h
    cases hx; cases hy
    exact ⟨eq_of fun d => by simp [Op.equalIn, run_underlying (und_of he (by simp))], fun op ox oy => guard_int op t ox oy _ _ rfl, rfl, rfl⟩
  · obtain ⟨k, e, he, rfl⟩ := pm _ _ h
    cases hx; cases hy
    exact ⟨eq_of fun d => by simp [Op.equalIn, run_underlying (und_of he (by simp))], fun op ox oy => guard_int op t ox oy _ _ rfl, rfl, rfl⟩
  · obtain ⟨k, e, f, he, rfl⟩ := pf _ _ h
    cases hx; cases hy
    exact ⟨eq_of fun d => by simp [Op.equalIn, run_underlying (und_of he (by simp))], fun op ox oy => guard_int op t ox oy _ _ rfl, rfl, rfl⟩
  · obtain ⟨k, e, f, he, rfl⟩ := pf _ _ h
    cases hx; cases hy
    exact ⟨eq_of fun d => by simp [Op.equalIn, run_underlying (und_of he (by simp))], fun op ox oy => guard_int op t ox oy _ _ rfl, rfl, rfl⟩
  · obtain ⟨k, e, f, he, rfl⟩ := pf _ _ h
    cases hx; cases hy
    exact ⟨eq_of fun d => by simp [Op.equalIn, run_underlying (und_of he (by simp))], fun op ox oy => guard_int op t ox oy _ _ rfl, rfl, rfl⟩
  · simp at h
theorem binAV_sound {op : BinOp} {t : TypeId} {x y v : AV} {x' y' : Value} {ox oy : Operand} (h : binAV P op t x y = some v) (hx : Rep w F U bl x x') (hy : Rep w F U bl y y') :
    ∃ r, (do eqGuard op t ox oy x' y'; binOp op t x' y').run P w = .ok r w ∧ Rep w F U bl v r ∧ Flat v := by
  have fin : ∀ r, (match x', y' with | .nilIface, .nilIface => false | .agg _, .agg _ => false | _, _ => true) = true → (binOp op t x' y').run P w = .ok r w →
      (do eqGuard op t ox oy x' y'; binOp op t x' y').run P w = .ok r w := by
    intro r hm hr
    rw [Sem.run_bind, guard_int op t ox oy x' y' hm]
    exact hr
  unfold binAV at h
  split at h
  · rename_i k a k' b
    obtain rfl := rep_int hx
    obtain rfl := rep_int hy
    split at h
    · by_cases hb : b < 0
      · simp [hb] at h
      · simp only [hb, decide_false, cond_false, Option.some.injEq] at h
        subst h
        exact ⟨_, fin _ rfl (by simp [binOp, Op.shift, hb]), .int, trivial⟩
    · by_cases hb : b < 0
      · simp [hb] at h
      · simp only [hb, decide_false, cond_false, Option.some.injEq] at h
        subst h
        exact ⟨_, fin _ rfl (by simp [binOp, Op.shift, hb]), .int, trivial⟩
    · rename_i hs1 hs2
      by_cases hk : k = k'
      · subst hk
        simp only [decide_true, cond_true] at h
        unfold intOp at h
        cases op <;> simp only [Option.some.injEq, reduceCtorEq] at h <;> first
          | (exact absurd rfl (hs1)) | (exact absurd rfl (hs2))
          | (subst h; exact ⟨_, fin _ rfl (by unfold binOp; simp only [ne_eq, not_true_eq_false, if_false]; rfl), by first | exact .int | exact .bool, trivial⟩)
          | (by_cases hb : b = 0
             · simp [hb] at h
             · simp only [hb, decide_false, cond_false, Option.some.injEq] at h
               subst h
               exact ⟨_, fin _ rfl (by simp [binOp, Op.intDiv, hb]; first | done | rfl), .int, trivial⟩)
      · simp [hk] at h
  · rename_i a b
    obtain rfl := rep_str hx
    obtain rfl := rep_str hy
    unfold strOp at h
    cases op <;> simp only [Option.some.injEq, reduceCtorEq] at h <;> first
      | (subst h; exact ⟨_, fin _ rfl (by simp [binOp, Op.stringOp, toList_eq, strLt]; first | done | rfl), .bool, trivial⟩)
      | (by_cases hb : a.size + b.size ≤ 4611686018427387904
         · simp only [hb, decide_true, cond_true, Option.some.injEq] at h
           subst h
           refine ⟨_, fin _ rfl (by
             have : ¬ (((a.size + b.size : Nat) : Int) > IntKind.i64.max) := by
               have : IntKind.i64.max = 9223372036854775807 := by decide
               omega
             simp only [binOp, Op.stringOp, Sem.run_ite, if_neg this, Sem.run_pure]), .str, trivial⟩
         · simp [hb] at h)
  · split at h
    · obtain ⟨b, he, rfl⟩ := Option.map_eq_some_iff.1 h
      obtain ⟨k1, k2, k3, k4⟩ := eqAV_sound he hx hy
      exact ⟨_, by rw [Sem.run_bind, k2]; simp only [Result.andThen_ok, k3, Sem.run_bind, k1]; rfl, .bool, trivial⟩
    · obtain ⟨b, he, rfl⟩ := Option.map_eq_some_iff.1 h
      obtain ⟨k1, k2, k3, k4⟩ := eqAV_sound he hx hy
      exact ⟨_, by rw [Sem.run_bind, k2]; simp only [Result.andThen_ok, k4, Sem.run_bind, k1]; rfl, .bool, trivial⟩
    · simp at h
end
end Ax
