import Derived.Test.YtflebdkgdnfjoaaLM
import Derived.Test.YtflebdkgdnfjoaaRows
import Derived.Test.YtflebdkgdnfjoaaAxRow
import Derived.WalkKit
import Derived.ProofKit
import Derived.SizedLaws
namespace Go.Proofs.Ytflebdkgdnfjoaa.histWorst
open Go.ChangeShapes Go.WideShapes Go.ChangeAt Go.RowKit Ax
theorem own : ownKnob Try.prog.godebug = none := by kernel_rfl
theorem laidOut : laidOutB Try.prog = true := by kernel_rfl
theorem plainArgs : Try.f9.params.toList.all (plain Try.prog 8) = true := by kernel_rfl
theorem readArgs : (Try.f9.params.toList.all fun t => Try.prog.readableRec t && decide (t < Try.prog.types.size)) = true := by kernel_rfl
def Law : Prop := ∀ xs, TypedArgs Try.prog 8 Try.f9.params.toList xs → CallOK Try.prog 9 xs (fun r => r = .bool true)
set_option maxRecDepth 100000 in
theorem lifted (law : Law) (os : Os) (started : os.Started) (H : Type) (enc : TypeId × Value → H) :
    ReturnsInHanded {} Try.checked os 9 .any (Rows.histWorstSpec.pre6 enc Try.prog Try.f9 Rows.histWorstRow.domain false) (Rows.histWorstSpec.post enc Try.prog Try.f9 false true false false) := by
  refine returnsInHanded_of_change_sized (C := Try.checked) own started (by kernel_rfl) Try.func9
    (ChangeSpec.witness6 (enc := enc) (C := Try.checked) false ⟨#[], #[.slice none 0 0, .int .i64 0], []⟩ 8 (by kernel_rfl) (by kernel_rfl) (by kernel_rfl) (by kernel_rfl)) ?_
  intro W base args ds gs before hval hW _ _ _
  have hW' := hW
  obtain ⟨p, q, hA, hV, rfl, hfz, hnd⟩ := hW
  obtain ⟨rfl, rfl⟩ := trodVars_none hV
  refine (row_calls (d := 8) laidOut plainArgs readArgs (fun j t v hj hv => hval j t v (by simpa using hj) (by simpa using hv)) hA law).mono fun e W' ⟨he, bel, hA'⟩ => ?_
  subst he
  have hA2 := hA
  rw [Try.params9] at hA2
  obtain ⟨v0, vs0, d0, ds0, p0, q0, hargs, rfl, rfl, h0, r0⟩ := trodAll_cons hA2
  obtain ⟨v1, vs1, d1, ds1, p1, q1, rfl, rfl, rfl, h1, r1⟩ := trodAll_cons r0
  obtain ⟨rfl, rfl, rfl⟩ := trodAll_nil r1
  exact ⟨_, rfl, _, _, _, [], _, [], hW', trodAll_mk1 (shut_bool Try.underlying4 _), hA', rfl, bel.frame _, fun h => by cases h⟩
theorem over (law : Law) : Rows.histWorstRow.holds Try.pinned (OpenSpec.ofChange Rows.histWorstSpec) :=
  OpenClaim.holds_of_wide 9 Try.f9 rfl rfl rfl rfl rfl rfl rfl ⟨rfl, rfl, rfl, rfl, rfl⟩ rfl rfl rfl rfl rfl (by kernel_rfl) Try.func9 (by kernel_rfl)
    (of_decide_eq_true (by kernel_rfl)) (by unfold Func.isWrapper; first | (rw [if_pos (by decide +kernel)]; kernel_rfl) | (rw [if_neg (by decide +kernel)]; exact ⟨rfl, rfl⟩))
    (fun os started H enc _ => lifted law os started H enc)
theorem proved (law : Law) : Rows.HistWorstSaid := over law
end Go.Proofs.Ytflebdkgdnfjoaa.histWorst
