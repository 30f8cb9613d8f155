/- Words for the laws of two arguments whose results are slices of places. -/
import Derived.Test.YtfijinbdpfeceaaLawP
namespace Go.Proofs.Ytfijinbdpfeceaa
open Go.RowKit
set_option linter.unusedVariables false
/-- What a call out of a world above W has left: a slice of places and a code. -/
def WildP (B : Nat) (W : World) (l : List (Int × Int)) (k : Int) (u : Value) (w' : World) : Prop := ∃ (x : Ext B W) (A : Option Addr) (c : Nat), u = .tuple #[.slice A l.length c, .int .i64 k] ∧ Below x.out.heap.size x.out w' ∧ OwQ x.out.heap.size w'.heap.size w' (.slice A l.length c) l
theorem WildP.of {B : Nat} {W : World} {x : Ext B W} {P : Program} {f : FuncId} {args : Array Value} {l : List (Int × Int)} {k : Int} (h : Calls P f args x.out (RetP x.out l k)) : Calls P f args x.out fun e w' => ∃ u, e = .returned u ∧ WildP B W l k u w' :=
  h.mono fun e w' ⟨v, he, hb, ho⟩ => by
    obtain ⟨A, c, rfl⟩ := owns_slice ho
    exact ⟨_, he, x, A, c, rfl, hb, OwQ.of ho hb⟩
end Go.Proofs.Ytfijinbdpfeceaa
