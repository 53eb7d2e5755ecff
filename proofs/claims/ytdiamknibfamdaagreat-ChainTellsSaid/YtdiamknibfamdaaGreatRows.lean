/-
  No cell of these rows narrows 'for every input' (looked for: loops, veiled, ifaces, maps, wideKeys, modest, calm, conditions, laid).
  DERIVED. THE GIVEN ROWS OF THIS SEAT. 10 by the template 'for every input the law returns true; each argument reads behind the call as it read before'; 0 by the template 'total and deterministic' (their statements: YtdiamknibfamdaaGreatTotals.lean).
  GIVEN WITH THE SEED: the statements are not yours to turn. If you find one false, say at which input.
  Laid BY PROGRAM, IN A SANDBOX (cutbox-rows.mjs): the forced cells as the released guide's own fill.sh prints them over the translation 9c936d699a84642e… (all of the seat's roots in one cut). By AI agents, Wed Nov 11 2026. No macro, syntax, notation, axiom, sorry.
-/
import Derived.Test.YtdiamknibfamdaaGreatChecked
import GoSem.Claim
import GoSem.ClaimJoined
import GoSem.ClaimMapViews
import Derived.JoinedTies
import Derived.KernelRfl
namespace Go.Proofs.YtdiamknibfamdaaGreat
/- THE CELL 'sum', in the pinned program and in every row, IS THE sha256 OF THE DUMP (.gsa) THAT YtdiamknibfamdaaGreatProg.lean LOADS. Nothing in Lean hashes anything: it is a label: what it is worth is what the hold of that sum in a sandbox is worth. -/
noncomputable def Tryz.pinned : Pinned := { name := "ytdiamknibfamdaagreat", sum := "9c936d699a84642e5ac7f538ff373b469e8b2e6edefdfe554a07bb49a11bd210", checked := Tryz.checked }
namespace Rows
def none {H : Type} : Left H := { results := [], args := [] }

/-- 'scrivenerlaw20.ChainBack': WHATEVER THE INPUT: true; the input reads as it did. -/
def chainBackSpec : ChangeSpec := { name := "chainBack", fn := fun _ => fun
  | [d1, d2, d3] => { results := [.lit (.bool true)], args := [d1, d2, d3] }
  | _ => none }
def chainBackRow : OpenClaim := { program := "ytdiamknibfamdaagreat", sum := "9c936d699a84642e5ac7f538ff373b469e8b2e6edefdfe554a07bb49a11bd210", func := "scrivener/scrivenerlaw20.ChainBack", spec := "chainBack", unfollowed := true, recurses := true, apart := false }
def ChainBackSaid : Prop := chainBackRow.holds Tryz.pinned (OpenSpec.ofChange chainBackSpec)

/-- ITS FALSE NEIGHBOUR: 'it returns false'. Refute it at one input. -/
def chainBackWrong : ChangeSpec := { name := "chainBack", fn := fun _ => fun
  | [d1, d2, d3] => { results := [.lit (.bool false)], args := [d1, d2, d3] }
  | _ => none }
def ChainBackWrongFalsely : Prop := chainBackRow.holds Tryz.pinned (OpenSpec.ofChange chainBackWrong)

/-- 'scrivenerlaw20.ChainSure': WHATEVER THE INPUT: true; the input reads as it did. -/
def chainSureSpec : ChangeSpec := { name := "chainSure", fn := fun _ => fun
  | [d1, d2, d3, d4] => { results := [.lit (.bool true)], args := [d1, d2, d3, d4] }
  | _ => none }
def chainSureRow : OpenClaim := { program := "ytdiamknibfamdaagreat", sum := "9c936d699a84642e5ac7f538ff373b469e8b2e6edefdfe554a07bb49a11bd210", func := "scrivener/scrivenerlaw20.ChainSure", spec := "chainSure", unfollowed := true, recurses := true, apart := false }
def ChainSureSaid : Prop := chainSureRow.holds Tryz.pinned (OpenSpec.ofChange chainSureSpec)

/-- ITS FALSE NEIGHBOUR: 'it returns false'. Refute it at one input. -/
def chainSureWrong : ChangeSpec := { name := "chainSure", fn := fun _ => fun
  | [d1, d2, d3, d4] => { results := [.lit (.bool false)], args := [d1, d2, d3, d4] }
  | _ => none }
def ChainSureWrongFalsely : Prop := chainSureRow.holds Tryz.pinned (OpenSpec.ofChange chainSureWrong)

/-- 'scrivenerlaw20.ChainTells': WHATEVER THE INPUT: true; the input reads as it did. -/
def chainTellsSpec : ChangeSpec := { name := "chainTells", fn := fun _ => fun
  | [d1, d2, d3, d4, d5, d6] => { results := [.lit (.bool true)], args := [d1, d2, d3, d4, d5, d6] }
  | _ => none }
def chainTellsRow : OpenClaim := { program := "ytdiamknibfamdaagreat", sum := "9c936d699a84642e5ac7f538ff373b469e8b2e6edefdfe554a07bb49a11bd210", func := "scrivener/scrivenerlaw20.ChainTells", spec := "chainTells", unfollowed := true, recurses := true, apart := false }
def ChainTellsSaid : Prop := chainTellsRow.holds Tryz.pinned (OpenSpec.ofChange chainTellsSpec)

/-- ITS FALSE NEIGHBOUR: 'it returns false'. Refute it at one input. -/
def chainTellsWrong : ChangeSpec := { name := "chainTells", fn := fun _ => fun
  | [d1, d2, d3, d4, d5, d6] => { results := [.lit (.bool false)], args := [d1, d2, d3, d4, d5, d6] }
  | _ => none }
def ChainTellsWrongFalsely : Prop := chainTellsRow.holds Tryz.pinned (OpenSpec.ofChange chainTellsWrong)

/-- 'scrivenerlaw08.OpsOn': WHATEVER THE INPUT: true; the input reads as it did. -/
def opsOnSpec : ChangeSpec := { name := "opsOn", fn := fun _ => fun
  | [d1, d2, d3] => { results := [.lit (.bool true)], args := [d1, d2, d3] }
  | _ => none }
def opsOnRow : OpenClaim := { program := "ytdiamknibfamdaagreat", sum := "9c936d699a84642e5ac7f538ff373b469e8b2e6edefdfe554a07bb49a11bd210", func := "scrivener/scrivenerlaw08.OpsOn", spec := "opsOn", unfollowed := true, recurses := true, apart := false }
def OpsOnSaid : Prop := opsOnRow.holds Tryz.pinned (OpenSpec.ofChange opsOnSpec)

/-- ITS FALSE NEIGHBOUR: 'it returns false'. Refute it at one input. -/
def opsOnWrong : ChangeSpec := { name := "opsOn", fn := fun _ => fun
  | [d1, d2, d3] => { results := [.lit (.bool false)], args := [d1, d2, d3] }
  | _ => none }
def OpsOnWrongFalsely : Prop := opsOnRow.holds Tryz.pinned (OpenSpec.ofChange opsOnWrong)

/-- 'scrivenerlaw08.OpsApart': WHATEVER THE INPUT: true; the input reads as it did. -/
def opsApartSpec : ChangeSpec := { name := "opsApart", fn := fun _ => fun
  | [d1, d2, d3, d4] => { results := [.lit (.bool true)], args := [d1, d2, d3, d4] }
  | _ => none }
def opsApartRow : OpenClaim := { program := "ytdiamknibfamdaagreat", sum := "9c936d699a84642e5ac7f538ff373b469e8b2e6edefdfe554a07bb49a11bd210", func := "scrivener/scrivenerlaw08.OpsApart", spec := "opsApart", unfollowed := true, recurses := true, apart := false }
def OpsApartSaid : Prop := opsApartRow.holds Tryz.pinned (OpenSpec.ofChange opsApartSpec)

/-- ITS FALSE NEIGHBOUR: 'it returns false'. Refute it at one input. -/
def opsApartWrong : ChangeSpec := { name := "opsApart", fn := fun _ => fun
  | [d1, d2, d3, d4] => { results := [.lit (.bool false)], args := [d1, d2, d3, d4] }
  | _ => none }
def OpsApartWrongFalsely : Prop := opsApartRow.holds Tryz.pinned (OpenSpec.ofChange opsApartWrong)

/-- 'scrivenerlaw08.OpsRefused': WHATEVER THE INPUT: true; the input reads as it did. -/
def opsRefusedSpec : ChangeSpec := { name := "opsRefused", fn := fun _ => fun
  | [d1, d2, d3] => { results := [.lit (.bool true)], args := [d1, d2, d3] }
  | _ => none }
def opsRefusedRow : OpenClaim := { program := "ytdiamknibfamdaagreat", sum := "9c936d699a84642e5ac7f538ff373b469e8b2e6edefdfe554a07bb49a11bd210", func := "scrivener/scrivenerlaw08.OpsRefused", spec := "opsRefused", unfollowed := true, recurses := true, apart := false }
def OpsRefusedSaid : Prop := opsRefusedRow.holds Tryz.pinned (OpenSpec.ofChange opsRefusedSpec)

/-- ITS FALSE NEIGHBOUR: 'it returns false'. Refute it at one input. -/
def opsRefusedWrong : ChangeSpec := { name := "opsRefused", fn := fun _ => fun
  | [d1, d2, d3] => { results := [.lit (.bool false)], args := [d1, d2, d3] }
  | _ => none }
def OpsRefusedWrongFalsely : Prop := opsRefusedRow.holds Tryz.pinned (OpenSpec.ofChange opsRefusedWrong)

/-- 'scrivenerlaw08.OpsOnce': WHATEVER THE INPUT: true; the input reads as it did. -/
def opsOnceSpec : ChangeSpec := { name := "opsOnce", fn := fun _ => fun
  | [d1, d2, d3, d4] => { results := [.lit (.bool true)], args := [d1, d2, d3, d4] }
  | _ => none }
def opsOnceRow : OpenClaim := { program := "ytdiamknibfamdaagreat", sum := "9c936d699a84642e5ac7f538ff373b469e8b2e6edefdfe554a07bb49a11bd210", func := "scrivener/scrivenerlaw08.OpsOnce", spec := "opsOnce", unfollowed := true, recurses := true, apart := false }
def OpsOnceSaid : Prop := opsOnceRow.holds Tryz.pinned (OpenSpec.ofChange opsOnceSpec)

/-- ITS FALSE NEIGHBOUR: 'it returns false'. Refute it at one input. -/
def opsOnceWrong : ChangeSpec := { name := "opsOnce", fn := fun _ => fun
  | [d1, d2, d3, d4] => { results := [.lit (.bool false)], args := [d1, d2, d3, d4] }
  | _ => none }
def OpsOnceWrongFalsely : Prop := opsOnceRow.holds Tryz.pinned (OpenSpec.ofChange opsOnceWrong)

/-- 'scrivenerlaw08.OpsOwners': WHATEVER THE INPUT: true; the input reads as it did. -/
def opsOwnersSpec : ChangeSpec := { name := "opsOwners", fn := fun _ => fun
  | [d1, d2, d3] => { results := [.lit (.bool true)], args := [d1, d2, d3] }
  | _ => none }
def opsOwnersRow : OpenClaim := { program := "ytdiamknibfamdaagreat", sum := "9c936d699a84642e5ac7f538ff373b469e8b2e6edefdfe554a07bb49a11bd210", func := "scrivener/scrivenerlaw08.OpsOwners", spec := "opsOwners", unfollowed := true, recurses := true, apart := false }
def OpsOwnersSaid : Prop := opsOwnersRow.holds Tryz.pinned (OpenSpec.ofChange opsOwnersSpec)

/-- ITS FALSE NEIGHBOUR: 'it returns false'. Refute it at one input. -/
def opsOwnersWrong : ChangeSpec := { name := "opsOwners", fn := fun _ => fun
  | [d1, d2, d3] => { results := [.lit (.bool false)], args := [d1, d2, d3] }
  | _ => none }
def OpsOwnersWrongFalsely : Prop := opsOwnersRow.holds Tryz.pinned (OpenSpec.ofChange opsOwnersWrong)

/-- 'scrivenerlaw20.ChainStays': WHATEVER THE INPUT: true; the input reads as it did. -/
def chainStaysSpec : ChangeSpec := { name := "chainStays", fn := fun _ => fun
  | [d1, d2, d3, d4, d5, d6] => { results := [.lit (.bool true)], args := [d1, d2, d3, d4, d5, d6] }
  | _ => none }
def chainStaysRow : OpenClaim := { program := "ytdiamknibfamdaagreat", sum := "9c936d699a84642e5ac7f538ff373b469e8b2e6edefdfe554a07bb49a11bd210", func := "scrivener/scrivenerlaw20.ChainStays", spec := "chainStays", unfollowed := true, recurses := true, apart := false }
def ChainStaysSaid : Prop := chainStaysRow.holds Tryz.pinned (OpenSpec.ofChange chainStaysSpec)

/-- ITS FALSE NEIGHBOUR: 'it returns false'. Refute it at one input. -/
def chainStaysWrong : ChangeSpec := { name := "chainStays", fn := fun _ => fun
  | [d1, d2, d3, d4, d5, d6] => { results := [.lit (.bool false)], args := [d1, d2, d3, d4, d5, d6] }
  | _ => none }
def ChainStaysWrongFalsely : Prop := chainStaysRow.holds Tryz.pinned (OpenSpec.ofChange chainStaysWrong)

/-- 'scrivenerlaw20.ChainGone': WHATEVER THE INPUT: true; the input reads as it did. -/
def chainGoneSpec : ChangeSpec := { name := "chainGone", fn := fun _ => fun
  | [d1, d2, d3, d4] => { results := [.lit (.bool true)], args := [d1, d2, d3, d4] }
  | _ => none }
def chainGoneRow : OpenClaim := { program := "ytdiamknibfamdaagreat", sum := "9c936d699a84642e5ac7f538ff373b469e8b2e6edefdfe554a07bb49a11bd210", func := "scrivener/scrivenerlaw20.ChainGone", spec := "chainGone", unfollowed := true, recurses := true, apart := false }
def ChainGoneSaid : Prop := chainGoneRow.holds Tryz.pinned (OpenSpec.ofChange chainGoneSpec)

/-- ITS FALSE NEIGHBOUR: 'it returns false'. Refute it at one input. -/
def chainGoneWrong : ChangeSpec := { name := "chainGone", fn := fun _ => fun
  | [d1, d2, d3, d4] => { results := [.lit (.bool false)], args := [d1, d2, d3, d4] }
  | _ => none }
def ChainGoneWrongFalsely : Prop := chainGoneRow.holds Tryz.pinned (OpenSpec.ofChange chainGoneWrong)

/- THE SECOND FORM. 'bulk': how many values and letters a reading holds, each counted each time it is reached (what is shared counts as often as it is met; a slice's spare places count too). A statement '..UptoSaid' is the law's where the arguments, and the package variables that the reading takes, are together of bulk at most 1048576: NARROWER than '..Said'. Prove '..Said' where nothing that the law and all that it calls make is longer than what came in: it says more and counts as full. Else prove '..UptoSaid'. A law counts once. -/
mutual
def uptoBulk {H : Type} : DataW H → Nat
  | .lit (.string bytes) => bytes.length + 1
  | .lit _ => 1
  | .nil => 1
  | .ptr d => uptoBulk d + 1
  | .slice elems spare => uptoBulkAll elems + uptoBulkAll spare + 1
  | .agg parts => uptoBulkAll parts + 1
  | .iface _ d => uptoBulk d + 1
  | .map entries => uptoBulkEntries entries + 1
  | .held _ => 1
def uptoBulkAll {H : Type} : List (DataW H) → Nat
  | [] => 0
  | d :: r => uptoBulk d + uptoBulkAll r
def uptoBulkEntries {H : Type} : List (Lit × DataW H) → Nat
  | [] => 0
  | x :: r => uptoBulkEntry x + uptoBulkEntries r
def uptoBulkEntry {H : Type} : Lit × DataW H → Nat
  | (.string bytes, d) => bytes.length + uptoBulk d + 1
  | (_, d) => uptoBulk d + 1
 end
def uptoSmall : (H : Type) → List (DataW H) → Bool := fun _ ds => decide (uptoBulkAll ds ≤ 1048576)
def OpenSpec.upto (s : _root_.Go.ChangeSpec) : _root_.Go.OpenSpec := { _root_.Go.OpenSpec.ofChange s with cond := some uptoSmall }

/-- 'scrivenerlaw20.ChainBack', WHERE WHAT IT READS IS OF BULK AT MOST 1048576: true; the input reads as it did. -/
def chainBackUptoRow : OpenClaim := { program := "ytdiamknibfamdaagreat", sum := "9c936d699a84642e5ac7f538ff373b469e8b2e6edefdfe554a07bb49a11bd210", func := "scrivener/scrivenerlaw20.ChainBack", spec := "chainBack", unfollowed := true, recurses := true, apart := false, narrowed := true }
def ChainBackUptoSaid : Prop := chainBackUptoRow.holds Tryz.pinned (OpenSpec.upto chainBackSpec)

/-- 'scrivenerlaw20.ChainSure', WHERE WHAT IT READS IS OF BULK AT MOST 1048576: true; the input reads as it did. -/
def chainSureUptoRow : OpenClaim := { program := "ytdiamknibfamdaagreat", sum := "9c936d699a84642e5ac7f538ff373b469e8b2e6edefdfe554a07bb49a11bd210", func := "scrivener/scrivenerlaw20.ChainSure", spec := "chainSure", unfollowed := true, recurses := true, apart := false, narrowed := true }
def ChainSureUptoSaid : Prop := chainSureUptoRow.holds Tryz.pinned (OpenSpec.upto chainSureSpec)

/-- 'scrivenerlaw20.ChainTells', WHERE WHAT IT READS IS OF BULK AT MOST 1048576: true; the input reads as it did. -/
def chainTellsUptoRow : OpenClaim := { program := "ytdiamknibfamdaagreat", sum := "9c936d699a84642e5ac7f538ff373b469e8b2e6edefdfe554a07bb49a11bd210", func := "scrivener/scrivenerlaw20.ChainTells", spec := "chainTells", unfollowed := true, recurses := true, apart := false, narrowed := true }
def ChainTellsUptoSaid : Prop := chainTellsUptoRow.holds Tryz.pinned (OpenSpec.upto chainTellsSpec)

/-- 'scrivenerlaw08.OpsOn', WHERE WHAT IT READS IS OF BULK AT MOST 1048576: true; the input reads as it did. -/
def opsOnUptoRow : OpenClaim := { program := "ytdiamknibfamdaagreat", sum := "9c936d699a84642e5ac7f538ff373b469e8b2e6edefdfe554a07bb49a11bd210", func := "scrivener/scrivenerlaw08.OpsOn", spec := "opsOn", unfollowed := true, recurses := true, apart := false, narrowed := true }
def OpsOnUptoSaid : Prop := opsOnUptoRow.holds Tryz.pinned (OpenSpec.upto opsOnSpec)

/-- 'scrivenerlaw08.OpsApart', WHERE WHAT IT READS IS OF BULK AT MOST 1048576: true; the input reads as it did. -/
def opsApartUptoRow : OpenClaim := { program := "ytdiamknibfamdaagreat", sum := "9c936d699a84642e5ac7f538ff373b469e8b2e6edefdfe554a07bb49a11bd210", func := "scrivener/scrivenerlaw08.OpsApart", spec := "opsApart", unfollowed := true, recurses := true, apart := false, narrowed := true }
def OpsApartUptoSaid : Prop := opsApartUptoRow.holds Tryz.pinned (OpenSpec.upto opsApartSpec)

/-- 'scrivenerlaw08.OpsRefused', WHERE WHAT IT READS IS OF BULK AT MOST 1048576: true; the input reads as it did. -/
def opsRefusedUptoRow : OpenClaim := { program := "ytdiamknibfamdaagreat", sum := "9c936d699a84642e5ac7f538ff373b469e8b2e6edefdfe554a07bb49a11bd210", func := "scrivener/scrivenerlaw08.OpsRefused", spec := "opsRefused", unfollowed := true, recurses := true, apart := false, narrowed := true }
def OpsRefusedUptoSaid : Prop := opsRefusedUptoRow.holds Tryz.pinned (OpenSpec.upto opsRefusedSpec)

/-- 'scrivenerlaw08.OpsOnce', WHERE WHAT IT READS IS OF BULK AT MOST 1048576: true; the input reads as it did. -/
def opsOnceUptoRow : OpenClaim := { program := "ytdiamknibfamdaagreat", sum := "9c936d699a84642e5ac7f538ff373b469e8b2e6edefdfe554a07bb49a11bd210", func := "scrivener/scrivenerlaw08.OpsOnce", spec := "opsOnce", unfollowed := true, recurses := true, apart := false, narrowed := true }
def OpsOnceUptoSaid : Prop := opsOnceUptoRow.holds Tryz.pinned (OpenSpec.upto opsOnceSpec)

/-- 'scrivenerlaw08.OpsOwners', WHERE WHAT IT READS IS OF BULK AT MOST 1048576: true; the input reads as it did. -/
def opsOwnersUptoRow : OpenClaim := { program := "ytdiamknibfamdaagreat", sum := "9c936d699a84642e5ac7f538ff373b469e8b2e6edefdfe554a07bb49a11bd210", func := "scrivener/scrivenerlaw08.OpsOwners", spec := "opsOwners", unfollowed := true, recurses := true, apart := false, narrowed := true }
def OpsOwnersUptoSaid : Prop := opsOwnersUptoRow.holds Tryz.pinned (OpenSpec.upto opsOwnersSpec)

/-- 'scrivenerlaw20.ChainStays', WHERE WHAT IT READS IS OF BULK AT MOST 1048576: true; the input reads as it did. -/
def chainStaysUptoRow : OpenClaim := { program := "ytdiamknibfamdaagreat", sum := "9c936d699a84642e5ac7f538ff373b469e8b2e6edefdfe554a07bb49a11bd210", func := "scrivener/scrivenerlaw20.ChainStays", spec := "chainStays", unfollowed := true, recurses := true, apart := false, narrowed := true }
def ChainStaysUptoSaid : Prop := chainStaysUptoRow.holds Tryz.pinned (OpenSpec.upto chainStaysSpec)

/-- 'scrivenerlaw20.ChainGone', WHERE WHAT IT READS IS OF BULK AT MOST 1048576: true; the input reads as it did. -/
def chainGoneUptoRow : OpenClaim := { program := "ytdiamknibfamdaagreat", sum := "9c936d699a84642e5ac7f538ff373b469e8b2e6edefdfe554a07bb49a11bd210", func := "scrivener/scrivenerlaw20.ChainGone", spec := "chainGone", unfollowed := true, recurses := true, apart := false, narrowed := true }
def ChainGoneUptoSaid : Prop := chainGoneUptoRow.holds Tryz.pinned (OpenSpec.upto chainGoneSpec)

end Rows
end Go.Proofs.YtdiamknibfamdaaGreat
