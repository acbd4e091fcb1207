/-
  No cell of these rows narrows 'for every input' (looked for: loops, veiled, ifaces, maps, wideKeys, modest, calm, conditions, laid).
  DERIVED. THE GIVEN ROWS OF THIS SEAT. 16 by the template 'for every input the law returns true; each argument reads behind the call as it read before'; 0 by the template 'total and deterministic' (their statements: YtpegefcpanijhaaTotals.lean).
  GIVEN WITH THE SEED: the statements are not yours to turn. If you find one false, say at which input.
  Laid BY PROGRAM, IN A SANDBOX (cutbox-rows.mjs): the forced cells as the released guide's own fill.sh prints them over the translation 5b494e9f0e524f0c… (all of the seat's roots in one cut). By AI agents, Wed Nov 11 2026. No macro, syntax, notation, axiom, sorry.
-/
import Derived.Test.YtpegefcpanijhaaChecked
import GoSem.Claim
import GoSem.ClaimJoined
import GoSem.ClaimMapViews
import Derived.JoinedTies
import Derived.KernelRfl
namespace Go.Proofs.Ytpegefcpanijhaa
/- THE CELL 'sum', in the pinned program and in every row, IS THE sha256 OF THE DUMP (.gsa) THAT YtpegefcpanijhaaProg.lean LOADS. Nothing in Lean hashes anything: it is a label: what it is worth is what the hold of that sum in a sandbox is worth. -/
noncomputable def Try.pinned : Pinned := { name := "ytpegefcpanijhaa", sum := "5b494e9f0e524f0c1d4a8bd8a05e940d95ee06e9ac27df51c6b1f3304ba09f4e", checked := Try.checked }
namespace Rows
def none {H : Type} : Left H := { results := [], args := [] }

/-- 'barquelaw03.MarksApart': WHATEVER THE INPUT: true; the input reads as it did. -/
def marksApartSpec : ChangeSpec := { name := "marksApart", fn := fun _ => fun
  | [d] => { results := [.lit (.bool true)], args := [d] }
  | _ => none }
def marksApartRow : OpenClaim := { program := "ytpegefcpanijhaa", sum := "5b494e9f0e524f0c1d4a8bd8a05e940d95ee06e9ac27df51c6b1f3304ba09f4e", func := "barque/barquelaw03.MarksApart", spec := "marksApart", apart := false }
def MarksApartSaid : Prop := marksApartRow.holds Try.pinned (OpenSpec.ofChange marksApartSpec)

/-- ITS FALSE NEIGHBOUR: 'it returns false'. Refute it at one input. -/
def marksApartWrong : ChangeSpec := { name := "marksApart", fn := fun _ => fun
  | [d] => { results := [.lit (.bool false)], args := [d] }
  | _ => none }
def MarksApartWrongFalsely : Prop := marksApartRow.holds Try.pinned (OpenSpec.ofChange marksApartWrong)

/-- 'barquelaw03.MarksHonest': WHATEVER THE INPUT: true; the input reads as it did. -/
def marksHonestSpec : ChangeSpec := { name := "marksHonest", fn := fun _ => fun
  | [d1, d2, d3] => { results := [.lit (.bool true)], args := [d1, d2, d3] }
  | _ => none }
def marksHonestRow : OpenClaim := { program := "ytpegefcpanijhaa", sum := "5b494e9f0e524f0c1d4a8bd8a05e940d95ee06e9ac27df51c6b1f3304ba09f4e", func := "barque/barquelaw03.MarksHonest", spec := "marksHonest", apart := false }
def MarksHonestSaid : Prop := marksHonestRow.holds Try.pinned (OpenSpec.ofChange marksHonestSpec)

/-- ITS FALSE NEIGHBOUR: 'it returns false'. Refute it at one input. -/
def marksHonestWrong : ChangeSpec := { name := "marksHonest", fn := fun _ => fun
  | [d1, d2, d3] => { results := [.lit (.bool false)], args := [d1, d2, d3] }
  | _ => none }
def MarksHonestWrongFalsely : Prop := marksHonestRow.holds Try.pinned (OpenSpec.ofChange marksHonestWrong)

/-- 'barquelaw03.MarksTwo': WHATEVER THE INPUT: true; the input reads as it did. -/
def marksTwoSpec : ChangeSpec := { name := "marksTwo", fn := fun _ => fun
  | [d1, d2] => { results := [.lit (.bool true)], args := [d1, d2] }
  | _ => none }
def marksTwoRow : OpenClaim := { program := "ytpegefcpanijhaa", sum := "5b494e9f0e524f0c1d4a8bd8a05e940d95ee06e9ac27df51c6b1f3304ba09f4e", func := "barque/barquelaw03.MarksTwo", spec := "marksTwo", apart := false }
def MarksTwoSaid : Prop := marksTwoRow.holds Try.pinned (OpenSpec.ofChange marksTwoSpec)

/-- ITS FALSE NEIGHBOUR: 'it returns false'. Refute it at one input. -/
def marksTwoWrong : ChangeSpec := { name := "marksTwo", fn := fun _ => fun
  | [d1, d2] => { results := [.lit (.bool false)], args := [d1, d2] }
  | _ => none }
def MarksTwoWrongFalsely : Prop := marksTwoRow.holds Try.pinned (OpenSpec.ofChange marksTwoWrong)

/-- 'barquelaw03.MarksAsks': WHATEVER THE INPUT: true; the input reads as it did. -/
def marksAsksSpec : ChangeSpec := { name := "marksAsks", fn := fun _ => fun
  | [d1, d2] => { results := [.lit (.bool true)], args := [d1, d2] }
  | _ => none }
def marksAsksRow : OpenClaim := { program := "ytpegefcpanijhaa", sum := "5b494e9f0e524f0c1d4a8bd8a05e940d95ee06e9ac27df51c6b1f3304ba09f4e", func := "barque/barquelaw03.MarksAsks", spec := "marksAsks", apart := false }
def MarksAsksSaid : Prop := marksAsksRow.holds Try.pinned (OpenSpec.ofChange marksAsksSpec)

/-- ITS FALSE NEIGHBOUR: 'it returns false'. Refute it at one input. -/
def marksAsksWrong : ChangeSpec := { name := "marksAsks", fn := fun _ => fun
  | [d1, d2] => { results := [.lit (.bool false)], args := [d1, d2] }
  | _ => none }
def MarksAsksWrongFalsely : Prop := marksAsksRow.holds Try.pinned (OpenSpec.ofChange marksAsksWrong)

/-- 'barquelaw17.MsgNobody': WHATEVER THE INPUT: true; the input reads as it did. -/
def msgNobodySpec : ChangeSpec := { name := "msgNobody", fn := fun _ => fun
  | [d1, d2] => { results := [.lit (.bool true)], args := [d1, d2] }
  | _ => none }
def msgNobodyRow : OpenClaim := { program := "ytpegefcpanijhaa", sum := "5b494e9f0e524f0c1d4a8bd8a05e940d95ee06e9ac27df51c6b1f3304ba09f4e", func := "barque/barquelaw17.MsgNobody", spec := "msgNobody", inPlace := ["internal/bytealg.IndexByteString", "internal/abi.NoEscape"], unfollowed := true, recurses := true, apart := false }
def MsgNobodySaid : Prop := msgNobodyRow.holds Try.pinned (OpenSpec.ofChange msgNobodySpec)

/-- ITS FALSE NEIGHBOUR: 'it returns false'. Refute it at one input. -/
def msgNobodyWrong : ChangeSpec := { name := "msgNobody", fn := fun _ => fun
  | [d1, d2] => { results := [.lit (.bool false)], args := [d1, d2] }
  | _ => none }
def MsgNobodyWrongFalsely : Prop := msgNobodyRow.holds Try.pinned (OpenSpec.ofChange msgNobodyWrong)

/-- 'barquelaw03.MarksIdeals': WHATEVER THE INPUT: true; the input reads as it did. -/
def marksIdealsSpec : ChangeSpec := { name := "marksIdeals", fn := fun _ => fun
  | [d] => { results := [.lit (.bool true)], args := [d] }
  | _ => none }
def marksIdealsRow : OpenClaim := { program := "ytpegefcpanijhaa", sum := "5b494e9f0e524f0c1d4a8bd8a05e940d95ee06e9ac27df51c6b1f3304ba09f4e", func := "barque/barquelaw03.MarksIdeals", spec := "marksIdeals", apart := false }
def MarksIdealsSaid : Prop := marksIdealsRow.holds Try.pinned (OpenSpec.ofChange marksIdealsSpec)

/-- ITS FALSE NEIGHBOUR: 'it returns false'. Refute it at one input. -/
def marksIdealsWrong : ChangeSpec := { name := "marksIdeals", fn := fun _ => fun
  | [d] => { results := [.lit (.bool false)], args := [d] }
  | _ => none }
def MarksIdealsWrongFalsely : Prop := marksIdealsRow.holds Try.pinned (OpenSpec.ofChange marksIdealsWrong)

/-- 'barquelaw17.MsgBack': WHATEVER THE INPUT: true; the input reads as it did. -/
def msgBackSpec : ChangeSpec := { name := "msgBack", fn := fun _ => fun
  | [d1, d2] => { results := [.lit (.bool true)], args := [d1, d2] }
  | _ => none }
def msgBackRow : OpenClaim := { program := "ytpegefcpanijhaa", sum := "5b494e9f0e524f0c1d4a8bd8a05e940d95ee06e9ac27df51c6b1f3304ba09f4e", func := "barque/barquelaw17.MsgBack", spec := "msgBack", inPlace := ["math/bits.Add64", "internal/bytealg.IndexByteString", "internal/abi.NoEscape"], unfollowed := true, recurses := true, apart := false }
def MsgBackSaid : Prop := msgBackRow.holds Try.pinned (OpenSpec.ofChange msgBackSpec)

/-- ITS FALSE NEIGHBOUR: 'it returns false'. Refute it at one input. -/
def msgBackWrong : ChangeSpec := { name := "msgBack", fn := fun _ => fun
  | [d1, d2] => { results := [.lit (.bool false)], args := [d1, d2] }
  | _ => none }
def MsgBackWrongFalsely : Prop := msgBackRow.holds Try.pinned (OpenSpec.ofChange msgBackWrong)

/-- 'barquelaw03.MarksNobody': WHATEVER THE INPUT: true; the input reads as it did. -/
def marksNobodySpec : ChangeSpec := { name := "marksNobody", fn := fun _ => fun
  | [d1, d2] => { results := [.lit (.bool true)], args := [d1, d2] }
  | _ => none }
def marksNobodyRow : OpenClaim := { program := "ytpegefcpanijhaa", sum := "5b494e9f0e524f0c1d4a8bd8a05e940d95ee06e9ac27df51c6b1f3304ba09f4e", func := "barque/barquelaw03.MarksNobody", spec := "marksNobody", apart := false }
def MarksNobodySaid : Prop := marksNobodyRow.holds Try.pinned (OpenSpec.ofChange marksNobodySpec)

/-- ITS FALSE NEIGHBOUR: 'it returns false'. Refute it at one input. -/
def marksNobodyWrong : ChangeSpec := { name := "marksNobody", fn := fun _ => fun
  | [d1, d2] => { results := [.lit (.bool false)], args := [d1, d2] }
  | _ => none }
def MarksNobodyWrongFalsely : Prop := marksNobodyRow.holds Try.pinned (OpenSpec.ofChange marksNobodyWrong)

/-- 'barquelaw03.MarksSums': WHATEVER THE INPUT: true; the input reads as it did. -/
def marksSumsSpec : ChangeSpec := { name := "marksSums", fn := fun _ => fun
  | [d] => { results := [.lit (.bool true)], args := [d] }
  | _ => none }
def marksSumsRow : OpenClaim := { program := "ytpegefcpanijhaa", sum := "5b494e9f0e524f0c1d4a8bd8a05e940d95ee06e9ac27df51c6b1f3304ba09f4e", func := "barque/barquelaw03.MarksSums", spec := "marksSums", inPlace := ["math/bits.Add64"], unfollowed := true, recurses := true, apart := false }
def MarksSumsSaid : Prop := marksSumsRow.holds Try.pinned (OpenSpec.ofChange marksSumsSpec)

/-- ITS FALSE NEIGHBOUR: 'it returns false'. Refute it at one input. -/
def marksSumsWrong : ChangeSpec := { name := "marksSums", fn := fun _ => fun
  | [d] => { results := [.lit (.bool false)], args := [d] }
  | _ => none }
def MarksSumsWrongFalsely : Prop := marksSumsRow.holds Try.pinned (OpenSpec.ofChange marksSumsWrong)

/-- 'barquelaw03.MarksReals': WHATEVER THE INPUT: true; the input reads as it did. -/
def marksRealsSpec : ChangeSpec := { name := "marksReals", fn := fun _ => fun
  | [d] => { results := [.lit (.bool true)], args := [d] }
  | _ => none }
def marksRealsRow : OpenClaim := { program := "ytpegefcpanijhaa", sum := "5b494e9f0e524f0c1d4a8bd8a05e940d95ee06e9ac27df51c6b1f3304ba09f4e", func := "barque/barquelaw03.MarksReals", spec := "marksReals", inPlace := ["math/bits.Add64"], unfollowed := true, recurses := true, apart := false }
def MarksRealsSaid : Prop := marksRealsRow.holds Try.pinned (OpenSpec.ofChange marksRealsSpec)

/-- ITS FALSE NEIGHBOUR: 'it returns false'. Refute it at one input. -/
def marksRealsWrong : ChangeSpec := { name := "marksReals", fn := fun _ => fun
  | [d] => { results := [.lit (.bool false)], args := [d] }
  | _ => none }
def MarksRealsWrongFalsely : Prop := marksRealsRow.holds Try.pinned (OpenSpec.ofChange marksRealsWrong)

/-- 'barquelaw17.MsgRights': WHATEVER THE INPUT: true; the input reads as it did. -/
def msgRightsSpec : ChangeSpec := { name := "msgRights", fn := fun _ => fun
  | [d] => { results := [.lit (.bool true)], args := [d] }
  | _ => none }
def msgRightsRow : OpenClaim := { program := "ytpegefcpanijhaa", sum := "5b494e9f0e524f0c1d4a8bd8a05e940d95ee06e9ac27df51c6b1f3304ba09f4e", func := "barque/barquelaw17.MsgRights", spec := "msgRights", inPlace := ["internal/bytealg.IndexByteString", "internal/abi.NoEscape"], unfollowed := true, recurses := true, apart := false }
def MsgRightsSaid : Prop := msgRightsRow.holds Try.pinned (OpenSpec.ofChange msgRightsSpec)

/-- ITS FALSE NEIGHBOUR: 'it returns false'. Refute it at one input. -/
def msgRightsWrong : ChangeSpec := { name := "msgRights", fn := fun _ => fun
  | [d] => { results := [.lit (.bool false)], args := [d] }
  | _ => none }
def MsgRightsWrongFalsely : Prop := msgRightsRow.holds Try.pinned (OpenSpec.ofChange msgRightsWrong)

/-- 'barquelaw17.MsgUnlike': WHATEVER THE INPUT: true; the input reads as it did. -/
def msgUnlikeSpec : ChangeSpec := { name := "msgUnlike", fn := fun _ => fun
  | [d1, d2] => { results := [.lit (.bool true)], args := [d1, d2] }
  | _ => none }
def msgUnlikeRow : OpenClaim := { program := "ytpegefcpanijhaa", sum := "5b494e9f0e524f0c1d4a8bd8a05e940d95ee06e9ac27df51c6b1f3304ba09f4e", func := "barque/barquelaw17.MsgUnlike", spec := "msgUnlike", inPlace := ["internal/bytealg.IndexByteString", "internal/abi.NoEscape"], unfollowed := true, recurses := true, apart := false }
def MsgUnlikeSaid : Prop := msgUnlikeRow.holds Try.pinned (OpenSpec.ofChange msgUnlikeSpec)

/-- ITS FALSE NEIGHBOUR: 'it returns false'. Refute it at one input. -/
def msgUnlikeWrong : ChangeSpec := { name := "msgUnlike", fn := fun _ => fun
  | [d1, d2] => { results := [.lit (.bool false)], args := [d1, d2] }
  | _ => none }
def MsgUnlikeWrongFalsely : Prop := msgUnlikeRow.holds Try.pinned (OpenSpec.ofChange msgUnlikeWrong)

/-- 'barquelaw17.MsgBytes': WHATEVER THE INPUT: true; the input reads as it did. -/
def msgBytesSpec : ChangeSpec := { name := "msgBytes", fn := fun _ => fun
  | [d] => { results := [.lit (.bool true)], args := [d] }
  | _ => none }
def msgBytesRow : OpenClaim := { program := "ytpegefcpanijhaa", sum := "5b494e9f0e524f0c1d4a8bd8a05e940d95ee06e9ac27df51c6b1f3304ba09f4e", func := "barque/barquelaw17.MsgBytes", spec := "msgBytes", inPlace := ["internal/bytealg.IndexByteString", "internal/abi.NoEscape"], unfollowed := true, recurses := true, apart := false }
def MsgBytesSaid : Prop := msgBytesRow.holds Try.pinned (OpenSpec.ofChange msgBytesSpec)

/-- ITS FALSE NEIGHBOUR: 'it returns false'. Refute it at one input. -/
def msgBytesWrong : ChangeSpec := { name := "msgBytes", fn := fun _ => fun
  | [d] => { results := [.lit (.bool false)], args := [d] }
  | _ => none }
def MsgBytesWrongFalsely : Prop := msgBytesRow.holds Try.pinned (OpenSpec.ofChange msgBytesWrong)

/-- 'barquelaw17.MsgCleans': WHATEVER THE INPUT: true; the input reads as it did. -/
def msgCleansSpec : ChangeSpec := { name := "msgCleans", fn := fun _ => fun
  | [d] => { results := [.lit (.bool true)], args := [d] }
  | _ => none }
def msgCleansRow : OpenClaim := { program := "ytpegefcpanijhaa", sum := "5b494e9f0e524f0c1d4a8bd8a05e940d95ee06e9ac27df51c6b1f3304ba09f4e", func := "barque/barquelaw17.MsgCleans", spec := "msgCleans", inPlace := ["internal/bytealg.IndexByteString", "internal/abi.NoEscape"], unfollowed := true, recurses := true, apart := false }
def MsgCleansSaid : Prop := msgCleansRow.holds Try.pinned (OpenSpec.ofChange msgCleansSpec)

/-- ITS FALSE NEIGHBOUR: 'it returns false'. Refute it at one input. -/
def msgCleansWrong : ChangeSpec := { name := "msgCleans", fn := fun _ => fun
  | [d] => { results := [.lit (.bool false)], args := [d] }
  | _ => none }
def MsgCleansWrongFalsely : Prop := msgCleansRow.holds Try.pinned (OpenSpec.ofChange msgCleansWrong)

/-- 'barquelaw17.MsgReads': WHATEVER THE INPUT: true; the input reads as it did. -/
def msgReadsSpec : ChangeSpec := { name := "msgReads", fn := fun _ => fun
  | [d] => { results := [.lit (.bool true)], args := [d] }
  | _ => none }
def msgReadsRow : OpenClaim := { program := "ytpegefcpanijhaa", sum := "5b494e9f0e524f0c1d4a8bd8a05e940d95ee06e9ac27df51c6b1f3304ba09f4e", func := "barque/barquelaw17.MsgReads", spec := "msgReads", inPlace := ["internal/bytealg.IndexByteString", "internal/abi.NoEscape"], unfollowed := true, recurses := true, apart := false }
def MsgReadsSaid : Prop := msgReadsRow.holds Try.pinned (OpenSpec.ofChange msgReadsSpec)

/-- ITS FALSE NEIGHBOUR: 'it returns false'. Refute it at one input. -/
def msgReadsWrong : ChangeSpec := { name := "msgReads", fn := fun _ => fun
  | [d] => { results := [.lit (.bool false)], args := [d] }
  | _ => none }
def MsgReadsWrongFalsely : Prop := msgReadsRow.holds Try.pinned (OpenSpec.ofChange msgReadsWrong)

/-- 'barquelaw17.MsgForged': WHATEVER THE INPUT: true; the input reads as it did. -/
def msgForgedSpec : ChangeSpec := { name := "msgForged", fn := fun _ => fun
  | [d1, d2, d3, d4, d5] => { results := [.lit (.bool true)], args := [d1, d2, d3, d4, d5] }
  | _ => none }
def msgForgedRow : OpenClaim := { program := "ytpegefcpanijhaa", sum := "5b494e9f0e524f0c1d4a8bd8a05e940d95ee06e9ac27df51c6b1f3304ba09f4e", func := "barque/barquelaw17.MsgForged", spec := "msgForged", inPlace := ["internal/bytealg.IndexByteString", "internal/abi.NoEscape"], unfollowed := true, recurses := true, apart := false }
def MsgForgedSaid : Prop := msgForgedRow.holds Try.pinned (OpenSpec.ofChange msgForgedSpec)

/-- ITS FALSE NEIGHBOUR: 'it returns false'. Refute it at one input. -/
def msgForgedWrong : ChangeSpec := { name := "msgForged", fn := fun _ => fun
  | [d1, d2, d3, d4, d5] => { results := [.lit (.bool false)], args := [d1, d2, d3, d4, d5] }
  | _ => none }
def MsgForgedWrongFalsely : Prop := msgForgedRow.holds Try.pinned (OpenSpec.ofChange msgForgedWrong)

/- THE SECOND FORM. 'bulk': how many values and letters a reading holds, each counted each time it is reached (what is shared counts as often as it is met; a slice's spare places count too). A statement '..UptoSaid' is the law's where the arguments, and the package variables that the reading takes, are together of bulk at most 1048576: NARROWER than '..Said'. Prove '..Said' where nothing that the law and all that it calls make is longer than what came in: it says more and counts as full. Else prove '..UptoSaid'. A law counts once. -/
mutual
def uptoBulk {H : Type} : DataW H → Nat
  | .lit (.string bytes) => bytes.length + 1
  | .lit _ => 1
  | .nil => 1
  | .ptr d => uptoBulk d + 1
  | .slice elems spare => uptoBulkAll elems + uptoBulkAll spare + 1
  | .agg parts => uptoBulkAll parts + 1
  | .iface _ d => uptoBulk d + 1
  | .map entries => uptoBulkEntries entries + 1
  | .held _ => 1
def uptoBulkAll {H : Type} : List (DataW H) → Nat
  | [] => 0
  | d :: r => uptoBulk d + uptoBulkAll r
def uptoBulkEntries {H : Type} : List (Lit × DataW H) → Nat
  | [] => 0
  | x :: r => uptoBulkEntry x + uptoBulkEntries r
def uptoBulkEntry {H : Type} : Lit × DataW H → Nat
  | (.string bytes, d) => bytes.length + uptoBulk d + 1
  | (_, d) => uptoBulk d + 1
 end
def uptoSmall : (H : Type) → List (DataW H) → Bool := fun _ ds => decide (uptoBulkAll ds ≤ 1048576)
def OpenSpec.upto (s : _root_.Go.ChangeSpec) : _root_.Go.OpenSpec := { _root_.Go.OpenSpec.ofChange s with cond := some uptoSmall }

/-- 'barquelaw03.MarksApart', WHERE WHAT IT READS IS OF BULK AT MOST 1048576: true; the input reads as it did. -/
def marksApartUptoRow : OpenClaim := { program := "ytpegefcpanijhaa", sum := "5b494e9f0e524f0c1d4a8bd8a05e940d95ee06e9ac27df51c6b1f3304ba09f4e", func := "barque/barquelaw03.MarksApart", spec := "marksApart", apart := false, narrowed := true }
def MarksApartUptoSaid : Prop := marksApartUptoRow.holds Try.pinned (OpenSpec.upto marksApartSpec)

/-- 'barquelaw03.MarksHonest', WHERE WHAT IT READS IS OF BULK AT MOST 1048576: true; the input reads as it did. -/
def marksHonestUptoRow : OpenClaim := { program := "ytpegefcpanijhaa", sum := "5b494e9f0e524f0c1d4a8bd8a05e940d95ee06e9ac27df51c6b1f3304ba09f4e", func := "barque/barquelaw03.MarksHonest", spec := "marksHonest", apart := false, narrowed := true }
def MarksHonestUptoSaid : Prop := marksHonestUptoRow.holds Try.pinned (OpenSpec.upto marksHonestSpec)

/-- 'barquelaw03.MarksTwo', WHERE WHAT IT READS IS OF BULK AT MOST 1048576: true; the input reads as it did. -/
def marksTwoUptoRow : OpenClaim := { program := "ytpegefcpanijhaa", sum := "5b494e9f0e524f0c1d4a8bd8a05e940d95ee06e9ac27df51c6b1f3304ba09f4e", func := "barque/barquelaw03.MarksTwo", spec := "marksTwo", apart := false, narrowed := true }
def MarksTwoUptoSaid : Prop := marksTwoUptoRow.holds Try.pinned (OpenSpec.upto marksTwoSpec)

/-- 'barquelaw03.MarksAsks', WHERE WHAT IT READS IS OF BULK AT MOST 1048576: true; the input reads as it did. -/
def marksAsksUptoRow : OpenClaim := { program := "ytpegefcpanijhaa", sum := "5b494e9f0e524f0c1d4a8bd8a05e940d95ee06e9ac27df51c6b1f3304ba09f4e", func := "barque/barquelaw03.MarksAsks", spec := "marksAsks", apart := false, narrowed := true }
def MarksAsksUptoSaid : Prop := marksAsksUptoRow.holds Try.pinned (OpenSpec.upto marksAsksSpec)

/-- 'barquelaw17.MsgNobody', WHERE WHAT IT READS IS OF BULK AT MOST 1048576: true; the input reads as it did. -/
def msgNobodyUptoRow : OpenClaim := { program := "ytpegefcpanijhaa", sum := "5b494e9f0e524f0c1d4a8bd8a05e940d95ee06e9ac27df51c6b1f3304ba09f4e", func := "barque/barquelaw17.MsgNobody", spec := "msgNobody", inPlace := ["internal/bytealg.IndexByteString", "internal/abi.NoEscape"], unfollowed := true, recurses := true, apart := false, narrowed := true }
def MsgNobodyUptoSaid : Prop := msgNobodyUptoRow.holds Try.pinned (OpenSpec.upto msgNobodySpec)

/-- 'barquelaw03.MarksIdeals', WHERE WHAT IT READS IS OF BULK AT MOST 1048576: true; the input reads as it did. -/
def marksIdealsUptoRow : OpenClaim := { program := "ytpegefcpanijhaa", sum := "5b494e9f0e524f0c1d4a8bd8a05e940d95ee06e9ac27df51c6b1f3304ba09f4e", func := "barque/barquelaw03.MarksIdeals", spec := "marksIdeals", apart := false, narrowed := true }
def MarksIdealsUptoSaid : Prop := marksIdealsUptoRow.holds Try.pinned (OpenSpec.upto marksIdealsSpec)

/-- 'barquelaw17.MsgBack', WHERE WHAT IT READS IS OF BULK AT MOST 1048576: true; the input reads as it did. -/
def msgBackUptoRow : OpenClaim := { program := "ytpegefcpanijhaa", sum := "5b494e9f0e524f0c1d4a8bd8a05e940d95ee06e9ac27df51c6b1f3304ba09f4e", func := "barque/barquelaw17.MsgBack", spec := "msgBack", inPlace := ["math/bits.Add64", "internal/bytealg.IndexByteString", "internal/abi.NoEscape"], unfollowed := true, recurses := true, apart := false, narrowed := true }
def MsgBackUptoSaid : Prop := msgBackUptoRow.holds Try.pinned (OpenSpec.upto msgBackSpec)

/-- 'barquelaw03.MarksNobody', WHERE WHAT IT READS IS OF BULK AT MOST 1048576: true; the input reads as it did. -/
def marksNobodyUptoRow : OpenClaim := { program := "ytpegefcpanijhaa", sum := "5b494e9f0e524f0c1d4a8bd8a05e940d95ee06e9ac27df51c6b1f3304ba09f4e", func := "barque/barquelaw03.MarksNobody", spec := "marksNobody", apart := false, narrowed := true }
def MarksNobodyUptoSaid : Prop := marksNobodyUptoRow.holds Try.pinned (OpenSpec.upto marksNobodySpec)

/-- 'barquelaw03.MarksSums', WHERE WHAT IT READS IS OF BULK AT MOST 1048576: true; the input reads as it did. -/
def marksSumsUptoRow : OpenClaim := { program := "ytpegefcpanijhaa", sum := "5b494e9f0e524f0c1d4a8bd8a05e940d95ee06e9ac27df51c6b1f3304ba09f4e", func := "barque/barquelaw03.MarksSums", spec := "marksSums", inPlace := ["math/bits.Add64"], unfollowed := true, recurses := true, apart := false, narrowed := true }
def MarksSumsUptoSaid : Prop := marksSumsUptoRow.holds Try.pinned (OpenSpec.upto marksSumsSpec)

/-- 'barquelaw03.MarksReals', WHERE WHAT IT READS IS OF BULK AT MOST 1048576: true; the input reads as it did. -/
def marksRealsUptoRow : OpenClaim := { program := "ytpegefcpanijhaa", sum := "5b494e9f0e524f0c1d4a8bd8a05e940d95ee06e9ac27df51c6b1f3304ba09f4e", func := "barque/barquelaw03.MarksReals", spec := "marksReals", inPlace := ["math/bits.Add64"], unfollowed := true, recurses := true, apart := false, narrowed := true }
def MarksRealsUptoSaid : Prop := marksRealsUptoRow.holds Try.pinned (OpenSpec.upto marksRealsSpec)

/-- 'barquelaw17.MsgRights', WHERE WHAT IT READS IS OF BULK AT MOST 1048576: true; the input reads as it did. -/
def msgRightsUptoRow : OpenClaim := { program := "ytpegefcpanijhaa", sum := "5b494e9f0e524f0c1d4a8bd8a05e940d95ee06e9ac27df51c6b1f3304ba09f4e", func := "barque/barquelaw17.MsgRights", spec := "msgRights", inPlace := ["internal/bytealg.IndexByteString", "internal/abi.NoEscape"], unfollowed := true, recurses := true, apart := false, narrowed := true }
def MsgRightsUptoSaid : Prop := msgRightsUptoRow.holds Try.pinned (OpenSpec.upto msgRightsSpec)

/-- 'barquelaw17.MsgUnlike', WHERE WHAT IT READS IS OF BULK AT MOST 1048576: true; the input reads as it did. -/
def msgUnlikeUptoRow : OpenClaim := { program := "ytpegefcpanijhaa", sum := "5b494e9f0e524f0c1d4a8bd8a05e940d95ee06e9ac27df51c6b1f3304ba09f4e", func := "barque/barquelaw17.MsgUnlike", spec := "msgUnlike", inPlace := ["internal/bytealg.IndexByteString", "internal/abi.NoEscape"], unfollowed := true, recurses := true, apart := false, narrowed := true }
def MsgUnlikeUptoSaid : Prop := msgUnlikeUptoRow.holds Try.pinned (OpenSpec.upto msgUnlikeSpec)

/-- 'barquelaw17.MsgBytes', WHERE WHAT IT READS IS OF BULK AT MOST 1048576: true; the input reads as it did. -/
def msgBytesUptoRow : OpenClaim := { program := "ytpegefcpanijhaa", sum := "5b494e9f0e524f0c1d4a8bd8a05e940d95ee06e9ac27df51c6b1f3304ba09f4e", func := "barque/barquelaw17.MsgBytes", spec := "msgBytes", inPlace := ["internal/bytealg.IndexByteString", "internal/abi.NoEscape"], unfollowed := true, recurses := true, apart := false, narrowed := true }
def MsgBytesUptoSaid : Prop := msgBytesUptoRow.holds Try.pinned (OpenSpec.upto msgBytesSpec)

/-- 'barquelaw17.MsgCleans', WHERE WHAT IT READS IS OF BULK AT MOST 1048576: true; the input reads as it did. -/
def msgCleansUptoRow : OpenClaim := { program := "ytpegefcpanijhaa", sum := "5b494e9f0e524f0c1d4a8bd8a05e940d95ee06e9ac27df51c6b1f3304ba09f4e", func := "barque/barquelaw17.MsgCleans", spec := "msgCleans", inPlace := ["internal/bytealg.IndexByteString", "internal/abi.NoEscape"], unfollowed := true, recurses := true, apart := false, narrowed := true }
def MsgCleansUptoSaid : Prop := msgCleansUptoRow.holds Try.pinned (OpenSpec.upto msgCleansSpec)

/-- 'barquelaw17.MsgReads', WHERE WHAT IT READS IS OF BULK AT MOST 1048576: true; the input reads as it did. -/
def msgReadsUptoRow : OpenClaim := { program := "ytpegefcpanijhaa", sum := "5b494e9f0e524f0c1d4a8bd8a05e940d95ee06e9ac27df51c6b1f3304ba09f4e", func := "barque/barquelaw17.MsgReads", spec := "msgReads", inPlace := ["internal/bytealg.IndexByteString", "internal/abi.NoEscape"], unfollowed := true, recurses := true, apart := false, narrowed := true }
def MsgReadsUptoSaid : Prop := msgReadsUptoRow.holds Try.pinned (OpenSpec.upto msgReadsSpec)

/-- 'barquelaw17.MsgForged', WHERE WHAT IT READS IS OF BULK AT MOST 1048576: true; the input reads as it did. -/
def msgForgedUptoRow : OpenClaim := { program := "ytpegefcpanijhaa", sum := "5b494e9f0e524f0c1d4a8bd8a05e940d95ee06e9ac27df51c6b1f3304ba09f4e", func := "barque/barquelaw17.MsgForged", spec := "msgForged", inPlace := ["internal/bytealg.IndexByteString", "internal/abi.NoEscape"], unfollowed := true, recurses := true, apart := false, narrowed := true }
def MsgForgedUptoSaid : Prop := msgForgedUptoRow.holds Try.pinned (OpenSpec.upto msgForgedSpec)

end Rows
end Go.Proofs.Ytpegefcpanijhaa
