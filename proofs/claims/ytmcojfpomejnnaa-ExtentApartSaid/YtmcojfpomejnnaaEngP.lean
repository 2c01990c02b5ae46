/- Yet more rules of the quick walk. Over any program. -/
import Derived.Test.YtmcojfpomejnnaaEngN
set_option linter.unusedSimpArgs false
set_option linter.unusedVariables false
namespace Go.Own
open Go Go.RowKit
section
variable {P : Program} {n : Nat} {ops : Array Oper} {Q : Post} {rest : List Oper} {e : Env} {w w' : World} {s : Ro} {rs : List Asn}
/-- the ways meet again; the piece at the head may have turned -/
theorem C.cutR {x y : Code} {A : Asn} (H : Holds s w (A :: rs)) (wr sl : List Nat) (hs : sl.all (fun t => wr.any (Nat.beq t)) = true) (p : List Value → Asn → Prop) (h1 : C P n (thenE (fun e' w' => Agr wr e e' ∧ ∃ A', p (sl.map e') A' ∧ Holds s w' (A' :: rs)) Q) x e w)
    (h2 : ∀ vs h w A, p vs A → Holds s w (A :: rs) → C P n Q y (upds sl vs (hav wr h e)) w) : C P n Q (.seq x y) e w :=
  C.cut wr sl hs (fun vs w => ∃ A', p vs A' ∧ Holds s w (A' :: rs)) h1 (fun vs h w ⟨A', hj1, hj2⟩ => h2 vs h w A' hj1 hj2)
end
end Go.Own
