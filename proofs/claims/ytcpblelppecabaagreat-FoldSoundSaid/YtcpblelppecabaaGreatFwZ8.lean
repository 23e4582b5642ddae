import Derived.Test.YtcpblelppecabaaGreatFwZ7
import Derived.Shelf.Strings.BuilderK
import Derived.Lib.OthersKept
import Derived.WalkKit
import Derived.BigCall
namespace Nt
open Go Go.Proofs Go.RowKit Go.Shelf
set_option linter.unusedVariables false
set_option linter.unusedSimpArgs false
theorem v4l{w:World}{M:Nat→Nat→Prop}{v:Value}:∀{l:List D},RelV w M v (.sl l)→∃a c,v=.slice a l.length c∧(l≠[]→∃b o,a=some ⟨b,o,none⟩∧RelC w M b o (jP l))
 |_,.nil=>⟨_,_,rfl,fun h=>absurd rfl h⟩
 |_,.emp _=>⟨_,_,rfl,fun h=>absurd rfl h⟩
 |_,.sl b o _ _ h _=>⟨_,_,rfl,fun _=>⟨b,o,rfl,h⟩⟩
end Nt

