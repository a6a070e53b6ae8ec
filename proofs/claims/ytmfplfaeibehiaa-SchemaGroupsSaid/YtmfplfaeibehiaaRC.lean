/- Keys that are handed in, opened. No conditions. -/
import Derived.Test.YtmfplfaeibehiaaRB
namespace Go.Proofs.Ytmfplfaeibehiaa
open Go Go.K
open Go.ChangeShapes Go.Joins
variable {H : Type} {enc : TypeId × Value → H} {w : World} {base : Nat} {spare : Nat → Bool} {held : Bool}
theorem keys_of_trod {n : Nat} {cs : List Value} {y : DataW H × List MemPlace} (h : DataW.trod enc Try.prog w base spare held n 49 cs = some y) : ∃ v l, cs = [v] ∧ RKeys (fun _ => True) w v l := by
  obtain ⟨v, l, e, h1, _⟩ := keys_of_trodU h
  exact ⟨v, l, e, h1⟩
end Go.Proofs.Ytmfplfaeibehiaa
