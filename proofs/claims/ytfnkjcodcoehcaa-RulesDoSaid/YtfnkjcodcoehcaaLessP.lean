/- A patch without the keys of another one. Plain. -/
import Derived.Test.YtfnkjcodcoehcaaPatchFn
namespace Go.Proofs.Ytfnkjcodcoehcaa
set_option linter.unusedVariables false

/-- has a patch the key? -/
def hasKey (q : List Ch) (k : Int) : Bool := q.any (fun d => d.key == k)
def lessP (p q : List Ch) : List Ch := p.filter (fun c => !hasKey q c.key)
end Go.Proofs.Ytfnkjcodcoehcaa
