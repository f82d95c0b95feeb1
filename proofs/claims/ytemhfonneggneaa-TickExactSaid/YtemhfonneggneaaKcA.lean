/- tappetlaw16: num, alive. -/
import Derived.Test.YtemhfonneggneaaKcT
namespace Go.Proofs.Ytemhfonneggneaa.CK
open Go.RowKit Go.Fr

def a0 : List (Bool × Nat × Nat) := List.replicate 3 (false, 0, 0)
def a1 : List (Bool × Nat × Nat) := [(true, 2, 0), (false, 0, 0), (false, 0, 0)]
def a2 : List (Bool × Nat × Nat) := [(true, 2, 0), (true, 2, 3), (false, 0, 0)]

def a3 : List (Bool × Nat × Nat) := [(true, 1, 0), (true, 1, 3), (false, 0, 0)]
def a4 : List (Bool × Nat × Nat) := [(false, 0, 0), (true, 3, 3), (false, 0, 0)]

end Go.Proofs.Ytemhfonneggneaa.CK
