/-
  No cell of these rows narrows 'for every input' (looked for: loops, veiled, ifaces, maps, wideKeys, modest, calm, conditions, laid).
  DERIVED. THE GIVEN ROWS OF THIS SEAT. 4 by the template 'for every input the law returns true; each argument reads behind the call as it read before'; 0 by the template 'total and deterministic' (their statements: YtlhbgpjimopjeaaGreatTotals.lean).
  GIVEN WITH THE SEED: the statements are not yours to turn. If you find one false, say at which input.
  Laid BY PROGRAM, IN A SANDBOX (cutbox-rows.mjs): the forced cells as the released guide's own fill.sh prints them over the translation 622aab8b0a73bd29… (all of the seat's roots in one cut). By AI agents, Wed Nov 11 2026. No macro, syntax, notation, axiom, sorry.
-/
import Derived.Test.YtlhbgpjimopjeaaGreatChecked
import GoSem.Claim
import GoSem.ClaimJoined
import GoSem.ClaimMapViews
import Derived.JoinedTies
import Derived.KernelRfl
namespace Go.Proofs.YtlhbgpjimopjeaaGreat
/- THE CELL 'sum', in the pinned program and in every row, IS THE sha256 OF THE DUMP (.gsa) THAT YtlhbgpjimopjeaaGreatProg.lean LOADS. Nothing in Lean hashes anything: it is a label: what it is worth is what the hold of that sum in a sandbox is worth. -/
noncomputable def Tryz.pinned : Pinned := { name := "ytlhbgpjimopjeaagreat", sum := "622aab8b0a73bd29d6c02423d14cc277276da5ae879d720b50265b06b79a63fc", checked := Tryz.checked }
namespace Rows
def none {H : Type} : Left H := { results := [], args := [] }

/-- 'juristlaw23.BuildWorlds': WHATEVER THE INPUT: true; the input reads as it did. -/
def buildWorldsSpec : ChangeSpec := { name := "buildWorlds", fn := fun _ => fun
  | [d1, d2, d3] => { results := [.lit (.bool true)], args := [d1, d2, d3] }
  | _ => none }
def buildWorldsRow : OpenClaim := { program := "ytlhbgpjimopjeaagreat", sum := "622aab8b0a73bd29d6c02423d14cc277276da5ae879d720b50265b06b79a63fc", func := "jurist/juristlaw23.BuildWorlds", spec := "buildWorlds", inPlace := ["math/bits.Add64"], unfollowed := true, recurses := true, plainKeys := false, apart := false }
def BuildWorldsSaid : Prop := buildWorldsRow.holds Tryz.pinned (OpenSpec.ofChange buildWorldsSpec)

/-- ITS FALSE NEIGHBOUR: 'it returns false'. Refute it at one input. -/
def buildWorldsWrong : ChangeSpec := { name := "buildWorlds", fn := fun _ => fun
  | [d1, d2, d3] => { results := [.lit (.bool false)], args := [d1, d2, d3] }
  | _ => none }
def BuildWorldsWrongFalsely : Prop := buildWorldsRow.holds Tryz.pinned (OpenSpec.ofChange buildWorldsWrong)

/-- 'juristlaw09.WorldMay': WHATEVER THE INPUT: true; the input reads as it did. -/
def worldMaySpec : ChangeSpec := { name := "worldMay", fn := fun _ => fun
  | [d1, d2, d3] => { results := [.lit (.bool true)], args := [d1, d2, d3] }
  | _ => none }
def worldMayRow : OpenClaim := { program := "ytlhbgpjimopjeaagreat", sum := "622aab8b0a73bd29d6c02423d14cc277276da5ae879d720b50265b06b79a63fc", func := "jurist/juristlaw09.WorldMay", spec := "worldMay", inPlace := ["math/bits.Add64"], unfollowed := true, recurses := true, plainKeys := false, apart := false }
def WorldMaySaid : Prop := worldMayRow.holds Tryz.pinned (OpenSpec.ofChange worldMaySpec)

/-- ITS FALSE NEIGHBOUR: 'it returns false'. Refute it at one input. -/
def worldMayWrong : ChangeSpec := { name := "worldMay", fn := fun _ => fun
  | [d1, d2, d3] => { results := [.lit (.bool false)], args := [d1, d2, d3] }
  | _ => none }
def WorldMayWrongFalsely : Prop := worldMayRow.holds Tryz.pinned (OpenSpec.ofChange worldMayWrong)

/-- 'juristlaw09.WorldNone': WHATEVER THE INPUT: true; the input reads as it did. -/
def worldNoneSpec : ChangeSpec := { name := "worldNone", fn := fun _ => fun
  | [d1, d2] => { results := [.lit (.bool true)], args := [d1, d2] }
  | _ => none }
def worldNoneRow : OpenClaim := { program := "ytlhbgpjimopjeaagreat", sum := "622aab8b0a73bd29d6c02423d14cc277276da5ae879d720b50265b06b79a63fc", func := "jurist/juristlaw09.WorldNone", spec := "worldNone", inPlace := ["math/bits.Add64"], unfollowed := true, recurses := true, plainKeys := false, apart := false }
def WorldNoneSaid : Prop := worldNoneRow.holds Tryz.pinned (OpenSpec.ofChange worldNoneSpec)

/-- ITS FALSE NEIGHBOUR: 'it returns false'. Refute it at one input. -/
def worldNoneWrong : ChangeSpec := { name := "worldNone", fn := fun _ => fun
  | [d1, d2] => { results := [.lit (.bool false)], args := [d1, d2] }
  | _ => none }
def WorldNoneWrongFalsely : Prop := worldNoneRow.holds Tryz.pinned (OpenSpec.ofChange worldNoneWrong)

/-- 'juristlaw09.WorldOrders': WHATEVER THE INPUT: true; the input reads as it did. -/
def worldOrdersSpec : ChangeSpec := { name := "worldOrders", fn := fun _ => fun
  | [d1, d2, d3] => { results := [.lit (.bool true)], args := [d1, d2, d3] }
  | _ => none }
def worldOrdersRow : OpenClaim := { program := "ytlhbgpjimopjeaagreat", sum := "622aab8b0a73bd29d6c02423d14cc277276da5ae879d720b50265b06b79a63fc", func := "jurist/juristlaw09.WorldOrders", spec := "worldOrders", inPlace := ["math/bits.Add64"], unfollowed := true, recurses := true, plainKeys := false, apart := false }
def WorldOrdersSaid : Prop := worldOrdersRow.holds Tryz.pinned (OpenSpec.ofChange worldOrdersSpec)

/-- ITS FALSE NEIGHBOUR: 'it returns false'. Refute it at one input. -/
def worldOrdersWrong : ChangeSpec := { name := "worldOrders", fn := fun _ => fun
  | [d1, d2, d3] => { results := [.lit (.bool false)], args := [d1, d2, d3] }
  | _ => none }
def WorldOrdersWrongFalsely : Prop := worldOrdersRow.holds Tryz.pinned (OpenSpec.ofChange worldOrdersWrong)

/- THE SECOND FORM. 'bulk': how many values and letters a reading holds, each counted each time it is reached (what is shared counts as often as it is met; a slice's spare places count too). A statement '..UptoSaid' is the law's where the arguments, and the package variables that the reading takes, are together of bulk at most 1048576: NARROWER than '..Said'. Prove '..Said' where nothing that the law and all that it calls make is longer than what came in: it says more and counts as full. Else prove '..UptoSaid'. A law counts once. -/
mutual
def uptoBulk {H : Type} : DataW H → Nat
  | .lit (.string bytes) => bytes.length + 1
  | .lit _ => 1
  | .nil => 1
  | .ptr d => uptoBulk d + 1
  | .slice elems spare => uptoBulkAll elems + uptoBulkAll spare + 1
  | .agg parts => uptoBulkAll parts + 1
  | .iface _ d => uptoBulk d + 1
  | .map entries => uptoBulkEntries entries + 1
  | .held _ => 1
def uptoBulkAll {H : Type} : List (DataW H) → Nat
  | [] => 0
  | d :: r => uptoBulk d + uptoBulkAll r
def uptoBulkEntries {H : Type} : List (Lit × DataW H) → Nat
  | [] => 0
  | x :: r => uptoBulkEntry x + uptoBulkEntries r
def uptoBulkEntry {H : Type} : Lit × DataW H → Nat
  | (.string bytes, d) => bytes.length + uptoBulk d + 1
  | (_, d) => uptoBulk d + 1
 end
def uptoSmall : (H : Type) → List (DataW H) → Bool := fun _ ds => decide (uptoBulkAll ds ≤ 1048576)
def OpenSpec.upto (s : _root_.Go.ChangeSpec) : _root_.Go.OpenSpec := { _root_.Go.OpenSpec.ofChange s with cond := some uptoSmall }

/-- 'juristlaw23.BuildWorlds', WHERE WHAT IT READS IS OF BULK AT MOST 1048576: true; the input reads as it did. -/
def buildWorldsUptoRow : OpenClaim := { program := "ytlhbgpjimopjeaagreat", sum := "622aab8b0a73bd29d6c02423d14cc277276da5ae879d720b50265b06b79a63fc", func := "jurist/juristlaw23.BuildWorlds", spec := "buildWorlds", inPlace := ["math/bits.Add64"], unfollowed := true, recurses := true, plainKeys := false, apart := false, narrowed := true }
def BuildWorldsUptoSaid : Prop := buildWorldsUptoRow.holds Tryz.pinned (OpenSpec.upto buildWorldsSpec)

/-- 'juristlaw09.WorldMay', WHERE WHAT IT READS IS OF BULK AT MOST 1048576: true; the input reads as it did. -/
def worldMayUptoRow : OpenClaim := { program := "ytlhbgpjimopjeaagreat", sum := "622aab8b0a73bd29d6c02423d14cc277276da5ae879d720b50265b06b79a63fc", func := "jurist/juristlaw09.WorldMay", spec := "worldMay", inPlace := ["math/bits.Add64"], unfollowed := true, recurses := true, plainKeys := false, apart := false, narrowed := true }
def WorldMayUptoSaid : Prop := worldMayUptoRow.holds Tryz.pinned (OpenSpec.upto worldMaySpec)

/-- 'juristlaw09.WorldNone', WHERE WHAT IT READS IS OF BULK AT MOST 1048576: true; the input reads as it did. -/
def worldNoneUptoRow : OpenClaim := { program := "ytlhbgpjimopjeaagreat", sum := "622aab8b0a73bd29d6c02423d14cc277276da5ae879d720b50265b06b79a63fc", func := "jurist/juristlaw09.WorldNone", spec := "worldNone", inPlace := ["math/bits.Add64"], unfollowed := true, recurses := true, plainKeys := false, apart := false, narrowed := true }
def WorldNoneUptoSaid : Prop := worldNoneUptoRow.holds Tryz.pinned (OpenSpec.upto worldNoneSpec)

/-- 'juristlaw09.WorldOrders', WHERE WHAT IT READS IS OF BULK AT MOST 1048576: true; the input reads as it did. -/
def worldOrdersUptoRow : OpenClaim := { program := "ytlhbgpjimopjeaagreat", sum := "622aab8b0a73bd29d6c02423d14cc277276da5ae879d720b50265b06b79a63fc", func := "jurist/juristlaw09.WorldOrders", spec := "worldOrders", inPlace := ["math/bits.Add64"], unfollowed := true, recurses := true, plainKeys := false, apart := false, narrowed := true }
def WorldOrdersUptoSaid : Prop := worldOrdersUptoRow.holds Tryz.pinned (OpenSpec.upto worldOrdersSpec)

end Rows
end Go.Proofs.YtlhbgpjimopjeaaGreat
