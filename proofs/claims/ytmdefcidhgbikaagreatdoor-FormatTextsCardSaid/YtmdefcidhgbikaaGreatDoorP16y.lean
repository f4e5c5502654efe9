/- Plain facts of chapter 16: the law FormatTexts. No program in sight. -/
import Derived.Test.YtmdefcidhgbikaaGreatDoorP16s
import Derived.Test.YtmdefcidhgbikaaGreatDoorM16
set_option linter.unusedVariables false
set_option linter.unusedSimpArgs false
set_option linter.unnecessarySimpa false
namespace Go.Ab.R06
open Go.Ab Go.Ab.RB Go.Lib

theorem texts_law {e : TExpr} {b : TBody} (he : TExpr.Bd e) (hb : TBody.Bd b) : Ev2 (fun n _ => law16_FormatTexts n e b) (· = true) := by
  simp only [law16_FormatTexts]
  refine ev_cut (fun t => t = false → (GoodE e ∧ nodesE e ≤ 300) ∧ GoodB b ∧ nodesB b ≤ 300) ?_ (fun t ht => ?_)
  · refine ev_cut _ (one_ev [e] (by simp) (by simpa using he)) (fun r hr => ev_ite (fun _ => ev_some (by simp)) (fun h1 => ?_))
    exact ev_cut _ (whole1_ev hb) (fun q hq => ev_some (fun h => ⟨hr (nf h1) e (by simp), hq (by simpa using h)⟩))
  · refine ev_ite (fun _ => ev_cut _ awake_ev (fun r hr => ev_some hr)) (fun h => ?_)
    obtain ⟨⟨g1, g2⟩, g3, g4⟩ := ht (by simpa using h)
    obtain ⟨b1, b2, _⟩ := both_ev g1 g2
    have b4 : Ev2 (fun n _ => ref16_Body n b) (· = bodyT 0 b) := by
      simp only [ref16_Body]
      exact ev_to _ (rbody_ev g3 0 (by omega) g4) (ev_some rfl)
    refine ev_to true ?_ (ev_some rfl)
    exact ev_to _ b1 (ev_to _ b2 (ev_ifT rfl (ev_to _ (body_ev g3 g4) (ev_to _ b4 (ev_ifT rfl (ev_cut _ awake_ev (fun r hr => ev_some hr)))))))
end Go.Ab.R06
