/- Records: what is put is there (the plain law). Conditions: none. -/
import Derived.Test.YtmaggokcjcdllaaWl
set_option linter.unusedSimpArgs false
set_option linter.unusedVariables false
namespace Go.Proofs.Ytmaggokcjcdllaa
open Go.Avc
end Go.Proofs.Ytmaggokcjcdllaa
/- Records: what is put is there (what At says). Conditions: none. -/
namespace Go.Proofs.Ytmaggokcjcdllaa
open Go.Avc
theorem goodN_spec (look : Nat → Int × Bool) (n : Nat) : (∀ j, j < goodN look n → (look j).2 = true) ∧ (goodN look n < n → (look (goodN look n)).2 = false) := by
  unfold goodN
  refine ⟨fun j hj => ?_, fun h => ?_⟩
  · have := List.not_of_lt_findIdx hj
    simpa using this
  · have := List.findIdx_getElem (xs := List.range n) (p := fun i => !(look i).2) (w := by simpa using h)
    simpa using this
theorem goodN_congr {f g : Nat → Int × Bool} {n : Nat} (h : ∀ j, j < n → f j = g j) : goodN f n = goodN g n := by
  obtain ⟨h1, h2⟩ := goodN_spec f n
  have h3 := goodN_le f n
  by_cases e : goodN f n < n
  · exact (goodN_bad e (by rw [← h _ e]; exact h2 e) fun j hj => by rw [← h j (by omega)]; exact h1 j hj).symm
  · have e2 : goodN f n = n := by omega
    rw [e2] at h1 ⊢
    exact (goodN_all fun j hj => by rw [← h j hj]; exact h1 j hj).symm
end Go.Proofs.Ytmaggokcjcdllaa
