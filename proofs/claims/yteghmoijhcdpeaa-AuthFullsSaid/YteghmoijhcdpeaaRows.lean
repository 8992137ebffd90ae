/-
  No cell of these rows narrows 'for every input' (looked for: loops, veiled, ifaces, maps, wideKeys, modest, calm, conditions, laid).
  DERIVED. THE GIVEN ROWS OF THIS SEAT. 5 by the template 'for every input the law returns true; each argument reads behind the call as it read before'; 0 by the template 'total and deterministic' (their statements: YteghmoijhcdpeaaTotals.lean).
  GIVEN WITH THE SEED: the statements are not yours to turn. If you find one false, say at which input.
  Laid BY PROGRAM, IN A SANDBOX (cutbox-rows.mjs): the forced cells as the released guide's own fill.sh prints them over the translation b51273ffab7e6882… (all of the seat's roots in one cut). By AI agents, Wed Nov 11 2026. No macro, syntax, notation, axiom, sorry.
-/
import Derived.Test.YteghmoijhcdpeaaChecked
import GoSem.Claim
import GoSem.ClaimJoined
import GoSem.ClaimMapViews
import Derived.JoinedTies
import Derived.KernelRfl
namespace Go.Proofs.Yteghmoijhcdpeaa
/- THE CELL 'sum', in the pinned program and in every row, IS THE sha256 OF THE DUMP (.gsa) THAT YteghmoijhcdpeaaProg.lean LOADS. Nothing in Lean hashes anything: it is a label: what it is worth is what the hold of that sum in a sandbox is worth. -/
noncomputable def Try.pinned : Pinned := { name := "yteghmoijhcdpeaa", sum := "b51273ffab7e688210007ec4dcd2ac4808a6e389afe1932da79fe1e3ce3905e0", checked := Try.checked }
namespace Rows
def none {H : Type} : Left H := { results := [], args := [] }

/-- 'tagcachelaw48.AuthNames': WHATEVER THE INPUT: true; the input reads as it did. -/
def authNamesSpec : ChangeSpec := { name := "authNames", fn := fun _ => fun
  | [d] => { results := [.lit (.bool true)], args := [d] }
  | _ => none }
def authNamesRow : OpenClaim := { program := "yteghmoijhcdpeaa", sum := "b51273ffab7e688210007ec4dcd2ac4808a6e389afe1932da79fe1e3ce3905e0", func := "tagcache/tagcachelaw48.AuthNames", spec := "authNames", unfollowed := true, recurses := true, apart := false }
def AuthNamesSaid : Prop := authNamesRow.holds Try.pinned (OpenSpec.ofChange authNamesSpec)

/-- ITS FALSE NEIGHBOUR: 'it returns false'. Refute it at one input. -/
def authNamesWrong : ChangeSpec := { name := "authNames", fn := fun _ => fun
  | [d] => { results := [.lit (.bool false)], args := [d] }
  | _ => none }
def AuthNamesWrongFalsely : Prop := authNamesRow.holds Try.pinned (OpenSpec.ofChange authNamesWrong)

/-- 'tagcachelaw48.AuthHolds': WHATEVER THE INPUT: true; the input reads as it did. -/
def authHoldsSpec : ChangeSpec := { name := "authHolds", fn := fun _ => fun
  | [d1, d2, d3] => { results := [.lit (.bool true)], args := [d1, d2, d3] }
  | _ => none }
def authHoldsRow : OpenClaim := { program := "yteghmoijhcdpeaa", sum := "b51273ffab7e688210007ec4dcd2ac4808a6e389afe1932da79fe1e3ce3905e0", func := "tagcache/tagcachelaw48.AuthHolds", spec := "authHolds", unfollowed := true, recurses := true, apart := false }
def AuthHoldsSaid : Prop := authHoldsRow.holds Try.pinned (OpenSpec.ofChange authHoldsSpec)

/-- ITS FALSE NEIGHBOUR: 'it returns false'. Refute it at one input. -/
def authHoldsWrong : ChangeSpec := { name := "authHolds", fn := fun _ => fun
  | [d1, d2, d3] => { results := [.lit (.bool false)], args := [d1, d2, d3] }
  | _ => none }
def AuthHoldsWrongFalsely : Prop := authHoldsRow.holds Try.pinned (OpenSpec.ofChange authHoldsWrong)

/-- 'tagcachelaw48.AuthFulls': WHATEVER THE INPUT: true; the input reads as it did. -/
def authFullsSpec : ChangeSpec := { name := "authFulls", fn := fun _ => fun
  | [d1, d2] => { results := [.lit (.bool true)], args := [d1, d2] }
  | _ => none }
def authFullsRow : OpenClaim := { program := "yteghmoijhcdpeaa", sum := "b51273ffab7e688210007ec4dcd2ac4808a6e389afe1932da79fe1e3ce3905e0", func := "tagcache/tagcachelaw48.AuthFulls", spec := "authFulls", unfollowed := true, recurses := true, apart := false }
def AuthFullsSaid : Prop := authFullsRow.holds Try.pinned (OpenSpec.ofChange authFullsSpec)

/-- ITS FALSE NEIGHBOUR: 'it returns false'. Refute it at one input. -/
def authFullsWrong : ChangeSpec := { name := "authFulls", fn := fun _ => fun
  | [d1, d2] => { results := [.lit (.bool false)], args := [d1, d2] }
  | _ => none }
def AuthFullsWrongFalsely : Prop := authFullsRow.holds Try.pinned (OpenSpec.ofChange authFullsWrong)

/-- 'tagcachelaw48.AuthPlays': WHATEVER THE INPUT: true; the input reads as it did. -/
def authPlaysSpec : ChangeSpec := { name := "authPlays", fn := fun _ => fun
  | [d] => { results := [.lit (.bool true)], args := [d] }
  | _ => none }
def authPlaysRow : OpenClaim := { program := "yteghmoijhcdpeaa", sum := "b51273ffab7e688210007ec4dcd2ac4808a6e389afe1932da79fe1e3ce3905e0", func := "tagcache/tagcachelaw48.AuthPlays", spec := "authPlays", unfollowed := true, recurses := true, apart := false }
def AuthPlaysSaid : Prop := authPlaysRow.holds Try.pinned (OpenSpec.ofChange authPlaysSpec)

/-- ITS FALSE NEIGHBOUR: 'it returns false'. Refute it at one input. -/
def authPlaysWrong : ChangeSpec := { name := "authPlays", fn := fun _ => fun
  | [d] => { results := [.lit (.bool false)], args := [d] }
  | _ => none }
def AuthPlaysWrongFalsely : Prop := authPlaysRow.holds Try.pinned (OpenSpec.ofChange authPlaysWrong)

/-- 'tagcachelaw48.AuthNone': WHATEVER THE INPUT: true; the input reads as it did. -/
def authNoneSpec : ChangeSpec := { name := "authNone", fn := fun _ => fun
  | [d] => { results := [.lit (.bool true)], args := [d] }
  | _ => none }
def authNoneRow : OpenClaim := { program := "yteghmoijhcdpeaa", sum := "b51273ffab7e688210007ec4dcd2ac4808a6e389afe1932da79fe1e3ce3905e0", func := "tagcache/tagcachelaw48.AuthNone", spec := "authNone", unfollowed := true, recurses := true, apart := false }
def AuthNoneSaid : Prop := authNoneRow.holds Try.pinned (OpenSpec.ofChange authNoneSpec)

/-- ITS FALSE NEIGHBOUR: 'it returns false'. Refute it at one input. -/
def authNoneWrong : ChangeSpec := { name := "authNone", fn := fun _ => fun
  | [d] => { results := [.lit (.bool false)], args := [d] }
  | _ => none }
def AuthNoneWrongFalsely : Prop := authNoneRow.holds Try.pinned (OpenSpec.ofChange authNoneWrong)

/- THE SECOND FORM. 'bulk': how many values and letters a reading holds, each counted each time it is reached (what is shared counts as often as it is met; a slice's spare places count too). A statement '..UptoSaid' is the law's where the arguments, and the package variables that the reading takes, are together of bulk at most 1048576: NARROWER than '..Said'. Prove '..Said' where nothing that the law and all that it calls make is longer than what came in: it says more and counts as full. Else prove '..UptoSaid'. A law counts once. -/
mutual
def uptoBulk {H : Type} : DataW H → Nat
  | .lit (.string bytes) => bytes.length + 1
  | .lit _ => 1
  | .nil => 1
  | .ptr d => uptoBulk d + 1
  | .slice elems spare => uptoBulkAll elems + uptoBulkAll spare + 1
  | .agg parts => uptoBulkAll parts + 1
  | .iface _ d => uptoBulk d + 1
  | .map entries => uptoBulkEntries entries + 1
  | .held _ => 1
def uptoBulkAll {H : Type} : List (DataW H) → Nat
  | [] => 0
  | d :: r => uptoBulk d + uptoBulkAll r
def uptoBulkEntries {H : Type} : List (Lit × DataW H) → Nat
  | [] => 0
  | x :: r => uptoBulkEntry x + uptoBulkEntries r
def uptoBulkEntry {H : Type} : Lit × DataW H → Nat
  | (.string bytes, d) => bytes.length + uptoBulk d + 1
  | (_, d) => uptoBulk d + 1
 end
def uptoSmall : (H : Type) → List (DataW H) → Bool := fun _ ds => decide (uptoBulkAll ds ≤ 1048576)
def OpenSpec.upto (s : _root_.Go.ChangeSpec) : _root_.Go.OpenSpec := { _root_.Go.OpenSpec.ofChange s with cond := some uptoSmall }

/-- 'tagcachelaw48.AuthNames', WHERE WHAT IT READS IS OF BULK AT MOST 1048576: true; the input reads as it did. -/
def authNamesUptoRow : OpenClaim := { program := "yteghmoijhcdpeaa", sum := "b51273ffab7e688210007ec4dcd2ac4808a6e389afe1932da79fe1e3ce3905e0", func := "tagcache/tagcachelaw48.AuthNames", spec := "authNames", unfollowed := true, recurses := true, apart := false, narrowed := true }
def AuthNamesUptoSaid : Prop := authNamesUptoRow.holds Try.pinned (OpenSpec.upto authNamesSpec)

/-- 'tagcachelaw48.AuthHolds', WHERE WHAT IT READS IS OF BULK AT MOST 1048576: true; the input reads as it did. -/
def authHoldsUptoRow : OpenClaim := { program := "yteghmoijhcdpeaa", sum := "b51273ffab7e688210007ec4dcd2ac4808a6e389afe1932da79fe1e3ce3905e0", func := "tagcache/tagcachelaw48.AuthHolds", spec := "authHolds", unfollowed := true, recurses := true, apart := false, narrowed := true }
def AuthHoldsUptoSaid : Prop := authHoldsUptoRow.holds Try.pinned (OpenSpec.upto authHoldsSpec)

/-- 'tagcachelaw48.AuthFulls', WHERE WHAT IT READS IS OF BULK AT MOST 1048576: true; the input reads as it did. -/
def authFullsUptoRow : OpenClaim := { program := "yteghmoijhcdpeaa", sum := "b51273ffab7e688210007ec4dcd2ac4808a6e389afe1932da79fe1e3ce3905e0", func := "tagcache/tagcachelaw48.AuthFulls", spec := "authFulls", unfollowed := true, recurses := true, apart := false, narrowed := true }
def AuthFullsUptoSaid : Prop := authFullsUptoRow.holds Try.pinned (OpenSpec.upto authFullsSpec)

/-- 'tagcachelaw48.AuthPlays', WHERE WHAT IT READS IS OF BULK AT MOST 1048576: true; the input reads as it did. -/
def authPlaysUptoRow : OpenClaim := { program := "yteghmoijhcdpeaa", sum := "b51273ffab7e688210007ec4dcd2ac4808a6e389afe1932da79fe1e3ce3905e0", func := "tagcache/tagcachelaw48.AuthPlays", spec := "authPlays", unfollowed := true, recurses := true, apart := false, narrowed := true }
def AuthPlaysUptoSaid : Prop := authPlaysUptoRow.holds Try.pinned (OpenSpec.upto authPlaysSpec)

/-- 'tagcachelaw48.AuthNone', WHERE WHAT IT READS IS OF BULK AT MOST 1048576: true; the input reads as it did. -/
def authNoneUptoRow : OpenClaim := { program := "yteghmoijhcdpeaa", sum := "b51273ffab7e688210007ec4dcd2ac4808a6e389afe1932da79fe1e3ce3905e0", func := "tagcache/tagcachelaw48.AuthNone", spec := "authNone", unfollowed := true, recurses := true, apart := false, narrowed := true }
def AuthNoneUptoSaid : Prop := authNoneUptoRow.holds Try.pinned (OpenSpec.upto authNoneSpec)

end Rows
end Go.Proofs.Yteghmoijhcdpeaa
