/- Xc, part N: arguments, by number. -/
import Derived.Test.YtacfcgoighnioaaGreatXcM
set_option linter.unusedVariables false
set_option linter.unusedSectionVars false
namespace Go.Xc
open Go.Vc
variable [Sites]
noncomputable abbrev a0 (args : List CV) (f : Bool) : Bool := match args with | [] => f | _ => false
theorem a0_ok {args : List CV} {f : Bool} (h : a0 args f = true) : args = [] ∧ f = true := by
  unfold a0 at h
  split at h
  · exact ⟨rfl, h⟩
  · cases h
noncomputable abbrev a1 (args : List CV) (f : CV → Bool) : Bool := match args with | [v0] => f v0 | _ => false
theorem a1_ok {args : List CV} {f : CV → Bool} (h : a1 args f = true) : ∃ v0, args = [v0] ∧ f v0 = true := by
  unfold a1 at h
  split at h
  · exact ⟨_, rfl, h⟩
  · cases h
noncomputable abbrev a2 (args : List CV) (f : CV → CV → Bool) : Bool := match args with | [v0, v1] => f v0 v1 | _ => false
theorem a2_ok {args : List CV} {f : CV → CV → Bool} (h : a2 args f = true) : ∃ v0 v1, args = [v0, v1] ∧ f v0 v1 = true := by
  unfold a2 at h
  split at h
  · exact ⟨_, _, rfl, h⟩
  · cases h
noncomputable abbrev a3 (args : List CV) (f : CV → CV → CV → Bool) : Bool := match args with | [v0, v1, v2] => f v0 v1 v2 | _ => false
theorem a3_ok {args : List CV} {f : CV → CV → CV → Bool} (h : a3 args f = true) : ∃ v0 v1 v2, args = [v0, v1, v2] ∧ f v0 v1 v2 = true := by
  unfold a3 at h
  split at h
  · exact ⟨_, _, _, rfl, h⟩
  · cases h
noncomputable abbrev a4 (args : List CV) (f : CV → CV → CV → CV → Bool) : Bool := match args with | [v0, v1, v2, v3] => f v0 v1 v2 v3 | _ => false
theorem a4_ok {args : List CV} {f : CV → CV → CV → CV → Bool} (h : a4 args f = true) : ∃ v0 v1 v2 v3, args = [v0, v1, v2, v3] ∧ f v0 v1 v2 v3 = true := by
  unfold a4 at h
  split at h
  · exact ⟨_, _, _, _, rfl, h⟩
  · cases h
noncomputable abbrev a5 (args : List CV) (f : CV → CV → CV → CV → CV → Bool) : Bool := match args with | [v0, v1, v2, v3, v4] => f v0 v1 v2 v3 v4 | _ => false
theorem a5_ok {args : List CV} {f : CV → CV → CV → CV → CV → Bool} (h : a5 args f = true) : ∃ v0 v1 v2 v3 v4, args = [v0, v1, v2, v3, v4] ∧ f v0 v1 v2 v3 v4 = true := by
  unfold a5 at h
  split at h
  · exact ⟨_, _, _, _, _, rfl, h⟩
  · cases h
noncomputable abbrev a6 (args : List CV) (f : CV → CV → CV → CV → CV → CV → Bool) : Bool := match args with | [v0, v1, v2, v3, v4, v5] => f v0 v1 v2 v3 v4 v5 | _ => false
theorem a6_ok {args : List CV} {f : CV → CV → CV → CV → CV → CV → Bool} (h : a6 args f = true) : ∃ v0 v1 v2 v3 v4 v5, args = [v0, v1, v2, v3, v4, v5] ∧ f v0 v1 v2 v3 v4 v5 = true := by
  unfold a6 at h
  split at h
  · exact ⟨_, _, _, _, _, _, rfl, h⟩
  · cases h
noncomputable abbrev a7 (args : List CV) (f : CV → CV → CV → CV → CV → CV → CV → Bool) : Bool := match args with | [v0, v1, v2, v3, v4, v5, v6] => f v0 v1 v2 v3 v4 v5 v6 | _ => false
theorem a7_ok {args : List CV} {f : CV → CV → CV → CV → CV → CV → CV → Bool} (h : a7 args f = true) : ∃ v0 v1 v2 v3 v4 v5 v6, args = [v0, v1, v2, v3, v4, v5, v6] ∧ f v0 v1 v2 v3 v4 v5 v6 = true := by
  unfold a7 at h
  split at h
  · exact ⟨_, _, _, _, _, _, _, rfl, h⟩
  · cases h
noncomputable abbrev a8 (args : List CV) (f : CV → CV → CV → CV → CV → CV → CV → CV → Bool) : Bool := match args with | [v0, v1, v2, v3, v4, v5, v6, v7] => f v0 v1 v2 v3 v4 v5 v6 v7 | _ => false
theorem a8_ok {args : List CV} {f : CV → CV → CV → CV → CV → CV → CV → CV → Bool} (h : a8 args f = true) : ∃ v0 v1 v2 v3 v4 v5 v6 v7, args = [v0, v1, v2, v3, v4, v5, v6, v7] ∧ f v0 v1 v2 v3 v4 v5 v6 v7 = true := by
  unfold a8 at h
  split at h
  · exact ⟨_, _, _, _, _, _, _, _, rfl, h⟩
  · cases h
noncomputable abbrev a9 (args : List CV) (f : CV → CV → CV → CV → CV → CV → CV → CV → CV → Bool) : Bool := match args with | [v0, v1, v2, v3, v4, v5, v6, v7, v8] => f v0 v1 v2 v3 v4 v5 v6 v7 v8 | _ => false
theorem a9_ok {args : List CV} {f : CV → CV → CV → CV → CV → CV → CV → CV → CV → Bool} (h : a9 args f = true) : ∃ v0 v1 v2 v3 v4 v5 v6 v7 v8, args = [v0, v1, v2, v3, v4, v5, v6, v7, v8] ∧ f v0 v1 v2 v3 v4 v5 v6 v7 v8 = true := by
  unfold a9 at h
  split at h
  · exact ⟨_, _, _, _, _, _, _, _, _, rfl, h⟩
  · cases h
noncomputable abbrev a10 (args : List CV) (f : CV → CV → CV → CV → CV → CV → CV → CV → CV → CV → Bool) : Bool := match args with | [v0, v1, v2, v3, v4, v5, v6, v7, v8, v9] => f v0 v1 v2 v3 v4 v5 v6 v7 v8 v9 | _ => false
theorem a10_ok {args : List CV} {f : CV → CV → CV → CV → CV → CV → CV → CV → CV → CV → Bool} (h : a10 args f = true) : ∃ v0 v1 v2 v3 v4 v5 v6 v7 v8 v9, args = [v0, v1, v2, v3, v4, v5, v6, v7, v8, v9] ∧ f v0 v1 v2 v3 v4 v5 v6 v7 v8 v9 = true := by
  unfold a10 at h
  split at h
  · exact ⟨_, _, _, _, _, _, _, _, _, _, rfl, h⟩
  · cases h
noncomputable abbrev a11 (args : List CV) (f : CV → CV → CV → CV → CV → CV → CV → CV → CV → CV → CV → Bool) : Bool := match args with | [v0, v1, v2, v3, v4, v5, v6, v7, v8, v9, v10] => f v0 v1 v2 v3 v4 v5 v6 v7 v8 v9 v10 | _ => false
theorem a11_ok {args : List CV} {f : CV → CV → CV → CV → CV → CV → CV → CV → CV → CV → CV → Bool} (h : a11 args f = true) : ∃ v0 v1 v2 v3 v4 v5 v6 v7 v8 v9 v10, args = [v0, v1, v2, v3, v4, v5, v6, v7, v8, v9, v10] ∧ f v0 v1 v2 v3 v4 v5 v6 v7 v8 v9 v10 = true := by
  unfold a11 at h
  split at h
  · exact ⟨_, _, _, _, _, _, _, _, _, _, _, rfl, h⟩
  · cases h
noncomputable abbrev a12 (args : List CV) (f : CV → CV → CV → CV → CV → CV → CV → CV → CV → CV → CV → CV → Bool) : Bool := match args with | [v0, v1, v2, v3, v4, v5, v6, v7, v8, v9, v10, v11] => f v0 v1 v2 v3 v4 v5 v6 v7 v8 v9 v10 v11 | _ => false
theorem a12_ok {args : List CV} {f : CV → CV → CV → CV → CV → CV → CV → CV → CV → CV → CV → CV → Bool} (h : a12 args f = true) : ∃ v0 v1 v2 v3 v4 v5 v6 v7 v8 v9 v10 v11, args = [v0, v1, v2, v3, v4, v5, v6, v7, v8, v9, v10, v11] ∧ f v0 v1 v2 v3 v4 v5 v6 v7 v8 v9 v10 v11 = true := by
  unfold a12 at h
  split at h
  · exact ⟨_, _, _, _, _, _, _, _, _, _, _, _, rfl, h⟩
  · cases h
end Go.Xc
