/- FnJsonStrict of the given program returns true for every slice of bytes and leaves it as it was. Conditions: none. -/
import Derived.Test.YtgihpfidacjogaaDoorDPb
import Derived.Test.YtgihpfidacjogaaDoorDJ
set_option linter.unusedVariables false
set_option linter.unusedSimpArgs false
namespace Go.Proofs.YtgihpfidacjogaaDoor
theorem told : Told := fun code g => Fw.laws_FnJsonStrict_ok (Fw.strict code) g
theorem fnJsonStrict_card_holds : Rows.FnJsonStrictCardSaid := card_of told
#print axioms fnJsonStrict_card_holds
end Go.Proofs.YtgihpfidacjogaaDoor
