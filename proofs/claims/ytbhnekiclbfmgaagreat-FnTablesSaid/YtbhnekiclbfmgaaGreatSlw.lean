/- Regions that draw their order: a chain of stores at the end, beside it several values that nobody there waits for. -/
import Derived.Test.YtbhnekiclbfmgaaGreatSlg
namespace Go.Proofs.YtbhnekiclbfmgaaGreat
namespace SL
open Go.RowKit
section
variable {C : Cx} {ops : Array Oper} {B F : List Ck} {σ : Env}
variable {Kf : Act → World → Prop} {A : List (List Nat)} {tl : Env → List Ck → List Ck → Prop}
end
section
variable {C : Cx} {ops : Array Oper} {B F : List Ck} {σ : Env} {tl : Env → List Ck → Prop}
end
section
variable {C : Cx} {B F : List Ck}
end
end SL
end Go.Proofs.YtbhnekiclbfmgaaGreat
