import Derived.Test.YtflebdkgdnfjoaaGreatLO
import Derived.Test.YtflebdkgdnfjoaaGreatRows
import Derived.Test.YtflebdkgdnfjoaaGreatAxRowZ
import Derived.WalkKit
import Derived.ProofKit
import Derived.SizedLaws
set_option linter.unusedVariables false
set_option linter.unusedSimpArgs false
namespace Go.Proofs.YtflebdkgdnfjoaaGreat.marginChecks
open Go.ChangeShapes Go.WideShapes Go.ChangeAt Go.RowKit Ax
theorem own : ownKnob Tryz.prog.godebug = none := by kernel_rfl
theorem laidOut : laidOutB Tryz.prog = true := by kernel_rfl
theorem plainArgs : Tryz.f4.params.toList.all (plain Tryz.prog 8) = true := by kernel_rfl
theorem readArgs : (Tryz.f4.params.toList.all fun t => Tryz.prog.readableRec t && decide (t < Tryz.prog.types.size)) = true := by kernel_rfl
def Law : Prop := ∀ xs, TypedArgs Tryz.prog 8 Tryz.f4.params.toList xs → CallOK Tryz.prog 4 xs (fun r => r = .bool true)
set_option maxHeartbeats 40000000 in
set_option maxRecDepth 100000 in
theorem lifted (law : Law) (os : Os) (started : os.Started) (H : Type) (enc : TypeId × Value → H) :
    ReturnsInHanded {} Tryz.checked os 4 .any (Rows.marginChecksSpec.pre6 enc Tryz.prog Tryz.f4 Rows.marginChecksRow.domain false) (Rows.marginChecksSpec.post enc Tryz.prog Tryz.f4 false true false false) := by
  refine returnsInHanded_of_change_sized (C := Tryz.checked) own started (by kernel_rfl) Tryz.func4
    (ChangeSpec.witness6 (enc := enc) (C := Tryz.checked) false ⟨#[], #[.agg #[.slice none 0 0, .slice none 0 0, .slice none 0 0, .int .i64 0, .int .i64 0, .int .i64 0, .slice none 0 0, .slice none 0 0, .slice none 0 0, .int .i64 0, .int .i64 0, .int .i64 0], .slice none 0 0], []⟩ 8 (by kernel_rfl) (by kernel_rfl) (by kernel_rfl) (by kernel_rfl)) ?_
  intro W base args ds gs before hval hW _ hsz _
  have hW' := hW
  obtain ⟨p, q, hA, hV, rfl, hfz, hnd⟩ := hW
  obtain ⟨rfl, rfl⟩ := trodVars_none hV
  have hz : (DataW.weightsEach Tryz.prog (Tryz.f4.params.toList ++ []) (ds ++ [])).all (fun m => decide (m ≤ reachBytes)) = true := hsz
  rw [List.append_nil, List.append_nil] at hz
  replace hz : ∀ m ∈ DataW.weightsEach Tryz.prog Tryz.f4.params.toList ds, m ≤ reachBytes := fun m hm => of_decide_eq_true (List.all_eq_true.1 hz m hm)
  refine (row_calls (d := 8) laidOut plainArgs readArgs (fun j t v hj hv => hval j t v (by simpa using hj) (by simpa using hv)) hA hz law).mono fun e W' ⟨he, bel, hA'⟩ => ?_
  subst he
  have hA2 := hA
  rw [Tryz.params4] at hA2
  obtain ⟨v0, vs0, d0, ds0, p0, q0, hargs, rfl, rfl, h0, r0⟩ := trodAll_cons hA2
  obtain ⟨v1, vs1, d1, ds1, p1, q1, rfl, rfl, rfl, h1, r1⟩ := trodAll_cons r0
  obtain ⟨rfl, rfl, rfl⟩ := trodAll_nil r1
  exact ⟨_, rfl, _, _, _, [], _, [], hW', trodAll_mk1 (shut_bool Tryz.underlying4 _), hA', rfl, bel.frame _, fun h => by cases h⟩
theorem and_t {a b : Bool} (h : a = true) (k : b = true) : (a && b) = true := by rw [h, k]; rfl
set_option maxHeartbeats 40000000 in
set_option maxRecDepth 100000 in
theorem closed : joinedFacts Tryz.prog 4 Tryz.f4 Rows.marginChecksSpec Rows.marginChecksRow = true := by
  unfold joinedFacts
  repeat' (with_reducible refine and_t ?_ ?_)
  all_goals as_aux_lemma => kernel_rfl
set_option maxHeartbeats 40000000 in
theorem over (law : Law) : Rows.marginChecksRow.holds Tryz.pinned (OpenSpec.ofChange Rows.marginChecksSpec) :=
  OpenClaim.holds_of_wide 4 Tryz.f4 rfl rfl rfl rfl rfl rfl rfl ⟨rfl, rfl, rfl, rfl, rfl⟩ rfl rfl rfl rfl rfl (by kernel_rfl) Tryz.func4 closed
    (of_decide_eq_true (by kernel_rfl)) (by unfold Func.isWrapper; first | (rw [if_pos (by decide +kernel)]; kernel_rfl) | (rw [if_neg (by decide +kernel)]; exact ⟨rfl, rfl⟩))
    (fun os started H enc _ => lifted law os started H enc)
theorem proved (law : Law) : Rows.MarginChecksSaid := over law
end Go.Proofs.YtflebdkgdnfjoaaGreat.marginChecks
