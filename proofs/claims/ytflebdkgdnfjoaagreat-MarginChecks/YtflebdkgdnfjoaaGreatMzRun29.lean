import Derived.Test.YtflebdkgdnfjoaaGreatAxFuel
import Derived.Test.YtflebdkgdnfjoaaGreatLW
set_option linter.unusedVariables false
set_option linter.unusedSimpArgs false
namespace Go.Proofs
open Ax Go
set_option maxRecDepth 100000
mutual
def sameB : AV → AV → Bool
  | .int k a, .int k' b => decide (k = k') && decide (a = b)
  | .str a, .str b => decide (a = b)
  | .bool a, .bool b => a == b
  | .agg a, .agg b => sameBL a b
  | .tup a, .tup b => sameBL a b
  | _, _ => false
def sameBL : List AV → List AV → Bool
  | [], [] => true
  | a :: r, b :: s => sameB a b && sameBL r s
  | _, _ => false
end
mutual
theorem sameB_of : ∀ {a b : AV}, sameB a b = true → a = b
  | .int k a, b, h => by
    cases b <;> simp [sameB] at h
    rw [h.1, h.2]
  | .str a, b, h => by
    cases b <;> simp [sameB] at h
    rw [h]
  | .bool a, b, h => by
    cases b <;> simp [sameB] at h
    rw [h]
  | .agg a, b, h => by
    cases b <;> simp only [sameB, Bool.false_eq_true] at h
    rw [sameBL_of h]
  | .tup a, b, h => by
    cases b <;> simp only [sameB, Bool.false_eq_true] at h
    rw [sameBL_of h]
  | .undef, b, h => by simp [sameB] at h
  | .vec _ _ _, b, h => by simp [sameB] at h
  | .wide _ _ _ _, b, h => by simp [sameB] at h
  | .own _, b, h => by simp [sameB] at h
  | .uni _, b, h => by simp [sameB] at h
  | .cptr _, b, h => by simp [sameB] at h
  | .ptr _ _, b, h => by simp [sameB] at h
  | .eptr _ _ _ _, b, h => by simp [sameB] at h
  | .nilptr, b, h => by simp [sameB] at h
  | .row _ _ _ _, b, h => by simp [sameB] at h
  | .brow _ _ _, b, h => by simp [sameB] at h
  | .nils _ _, b, h => by simp [sameB] at h
  | .rvec _, b, h => by simp [sameB] at h
  | .mapr _, b, h => by simp [sameB] at h
  | .nilmap, b, h => by simp [sameB] at h
  | .fn _ _ _, b, h => by simp [sameB] at h
  | .nilfn, b, h => by simp [sameB] at h
  | .iter _, b, h => by simp [sameB] at h
  | .stamp _ _, b, h => by simp [sameB] at h
  | .iface _ _, b, h => by simp [sameB] at h
  | .nilIface, b, h => by simp [sameB] at h
theorem sameBL_of : ∀ {a b : List AV}, sameBL a b = true → a = b
  | [], [], _ => rfl
  | a :: r, b :: s, h => by
    simp only [sameBL, Bool.and_eq_true] at h
    rw [sameB_of h.1, sameBL_of h.2]
  | [], _ :: _, h => by simp [sameBL] at h
  | _ :: _, [], h => by simp [sameBL] at h
end
noncomputable def cxZ : Ctx where
  P := Tryz.prog
  inl := fun f => match f with | 309 => true | 375 => true | 277 => true | 102 => true | 103 => true | 104 => true | 105 => true | 106 => true | 107 => true | 108 => true | _ => false
  keep := fun _ _ => none
  keepX := fun _ _ => none
  xf := fun f r i => match f, r, i with | 193, 13, 2 => true | _, _, _ => false
  ow := fun _ => true
  gh := fun f r => match f, r with | 101, 3 => [.adoptO 3] | 101, 12 => [.freeze 3] | 278, 2 => [.adopt 3] | 278, 5 => [.freeze 3] | 200, 1 => [.shutP 5, .shutP 6] | 193, 14 => [.adoptC 8, .adoptC 9] | _, _ => []
  gf := fun f => match f with | 193 => [.freezeC 8, .freezeC 9] | _ => []
  ln := fun _ => false
  srt := srtT
def oil9 : ByteArray := ⟨#[111, 105, 108]⟩
def ru9 : Ru := ⟨[⟨⟨oil9, 1, 9576, 0⟩, [-100, 0, 100], 1000⟩], [], [], 50, 0, 0, [⟨10, 5⟩], [], [], 0, 30, 100⟩
def ps9 : List Pr := [⟨oil9, 0, 1, 1, 0, 100, false⟩]
def ac9 : Ac := ⟨⟨#[97]⟩, ⟨#[120]⟩⟩
def nd9 : Nd := ⟨⟨#[97]⟩, ⟨#[120]⟩, 300, 0, 0, 0, 0, 15, 347⟩
def nd90 : Nd := ⟨⟨#[97]⟩, ⟨#[120]⟩, 0, 0, 0, 0, 0, 0, 0⟩
def tupNe (p : Nd × Int) : AV := .tup [encNd p.1, .int .i64 p.2]
theorem run91 : CallOK Tryz.prog 27 [encRu ru9, EPr.L ps9, .int .i64 9500, encAc ac9, EP.L [⟨⟨oil9, 1, 9576, 0⟩, 3, 0⟩]] (fun r => r = tupNe (nd9, 0)) :=
  lfp_sound (cx := cxZ) rfl progOK (fuel_call (calm := calmT) 100 (q := fun r => sameB r (tupNe (nd9, 0))) (fun r h => sameB_of h) (by decide +kernel))
theorem run92 : CallOK Tryz.prog 27 [encRu ru9, EPr.L ps9, .int .i64 9500, encAc ac9, EP.L [⟨⟨oil9, 1, 9576, 0⟩, 1, 1⟩]] (fun r => r = tupNe (nd90, 0)) :=
  lfp_sound (cx := cxZ) rfl progOK (fuel_call (calm := calmT) 100 (q := fun r => sameB r (tupNe (nd90, 0))) (fun r h => sameB_of h) (by decide +kernel))
end Go.Proofs
