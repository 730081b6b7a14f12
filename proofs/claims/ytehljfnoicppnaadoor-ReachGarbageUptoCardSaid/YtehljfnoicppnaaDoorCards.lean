/-
  DERIVED. GIVEN WITH THE SEED: THE CARDS: each row of YtehljfnoicppnaaDoorRows.lean that lists a variable, with what it lists TIED to the program's text (the seventh form; the later family's looks); each row that meets fmt, with fmt's text TOLD by the authors' own Lean function (tested against real Go, not proved from fmt's source: count such statements apart). THE CARD IS WHAT COUNTS. Prove the row's statement (the work); the ties are given (YtehljfnoicppnaaDoorTie.lean); close each card by the builder's one call (the guide's Derived/Test/ToyasCard.lean, 'card_holds'). Laid BY PROGRAM, IN A SANDBOX (cutbox-door.mjs). By AI agents, Wed Nov 11 2026. No macro, syntax, notation, axiom, sorry.
-/
import Derived.Test.YtehljfnoicppnaaDoorRows
import GoSem.ClaimSeven
namespace Go.Proofs.YtehljfnoicppnaaDoor
namespace Rows

/-- THE TIED CARD OF 'purlinlaw05.HeapOwn'. -/
def heapOwnCard : Claim7 := { stood := { row := heapOwnRow, standIns := [], harness := (true, "fb6b8832dcd33a04d61b400020f6856e98f03b6028d2a2d9cbfdf2adba4d3fc5"), looks := true }, kinds := [], alts := [], laidByText := true, laidKinds := [.widerDeep], laidTests := true, laidLooks := .later }
def HeapOwnCardSaid : Prop := Claim7.holds Tryd.pinned (.plain (OpenSpec.ofChange heapOwnSpec)) heapOwnCard

/-- THE TIED CARD OF 'purlinlaw05.HeapResolves'. -/
def heapResolvesCard : Claim7 := { stood := { row := heapResolvesRow, standIns := [], harness := (true, "fb6b8832dcd33a04d61b400020f6856e98f03b6028d2a2d9cbfdf2adba4d3fc5"), looks := true }, kinds := [], alts := [], laidByText := true, laidKinds := [.widerDeep], laidTests := true, laidLooks := .later }
def HeapResolvesCardSaid : Prop := Claim7.holds Tryd.pinned (.plain (OpenSpec.ofChange heapResolvesSpec)) heapResolvesCard

/-- THE TIED CARD OF 'purlinlaw05.HeapPlays'. -/
def heapPlaysCard : Claim7 := { stood := { row := heapPlaysRow, standIns := [], harness := (true, "fb6b8832dcd33a04d61b400020f6856e98f03b6028d2a2d9cbfdf2adba4d3fc5"), looks := true }, kinds := [], alts := [], laidByText := true, laidKinds := [.widerDeep], laidTests := true, laidLooks := .later }
def HeapPlaysCardSaid : Prop := Claim7.holds Tryd.pinned (.plain (OpenSpec.ofChange heapPlaysSpec)) heapPlaysCard

/-- THE TIED CARD OF 'purlinlaw05.HeapNone'. -/
def heapNoneCard : Claim7 := { stood := { row := heapNoneRow, standIns := [], harness := (true, "fb6b8832dcd33a04d61b400020f6856e98f03b6028d2a2d9cbfdf2adba4d3fc5"), looks := true }, kinds := [], alts := [], laidByText := true, laidKinds := [.widerDeep], laidTests := true, laidLooks := .later }
def HeapNoneCardSaid : Prop := Claim7.holds Tryd.pinned (.plain (OpenSpec.ofChange heapNoneSpec)) heapNoneCard

/-- THE TIED CARD OF 'purlinlaw18.ReachMore'. -/
def reachMoreCard : Claim7 := { stood := { row := reachMoreRow, standIns := [], harness := (true, "fb6b8832dcd33a04d61b400020f6856e98f03b6028d2a2d9cbfdf2adba4d3fc5"), looks := true }, kinds := [], alts := [], laidByText := true, laidKinds := [.widerDeep], laidTests := true, laidLooks := .later }
def ReachMoreCardSaid : Prop := Claim7.holds Tryd.pinned (.plain (OpenSpec.ofChange reachMoreSpec)) reachMoreCard

/-- THE TIED CARD OF 'purlinlaw18.ReachWays'. -/
def reachWaysCard : Claim7 := { stood := { row := reachWaysRow, standIns := [], harness := (true, "fb6b8832dcd33a04d61b400020f6856e98f03b6028d2a2d9cbfdf2adba4d3fc5"), looks := true }, kinds := [], alts := [], laidByText := true, laidKinds := [.widerDeep], laidTests := true, laidLooks := .later }
def ReachWaysCardSaid : Prop := Claim7.holds Tryd.pinned (.plain (OpenSpec.ofChange reachWaysSpec)) reachWaysCard

/-- THE TIED CARD OF 'purlinlaw18.ReachGarbage'. -/
def reachGarbageCard : Claim7 := { stood := { row := reachGarbageRow, standIns := [], harness := (true, "fb6b8832dcd33a04d61b400020f6856e98f03b6028d2a2d9cbfdf2adba4d3fc5"), looks := true }, kinds := [], alts := [], laidByText := true, laidKinds := [.widerDeep], laidTests := true, laidLooks := .later }
def ReachGarbageCardSaid : Prop := Claim7.holds Tryd.pinned (.plain (OpenSpec.ofChange reachGarbageSpec)) reachGarbageCard

/-- THE TIED CARD OF 'purlinlaw08.UnifyBinds'. -/
def unifyBindsCard : Claim7 := { stood := { row := unifyBindsRow, standIns := [], harness := (true, "fb6b8832dcd33a04d61b400020f6856e98f03b6028d2a2d9cbfdf2adba4d3fc5"), looks := true }, kinds := [], alts := [], laidByText := true, laidKinds := [.widerDeep], laidTests := true, laidLooks := .later }
def UnifyBindsCardSaid : Prop := Claim7.holds Tryd.pinned (.plain (OpenSpec.ofChange unifyBindsSpec)) unifyBindsCard

/-- THE SECOND FORM's CARD OF 'purlinlaw05.HeapOwn'. -/
def heapOwnUptoCard : Claim7 := { stood := { row := heapOwnUptoRow, standIns := [], harness := (true, "fb6b8832dcd33a04d61b400020f6856e98f03b6028d2a2d9cbfdf2adba4d3fc5"), looks := true }, kinds := [], alts := [], laidByText := true, laidKinds := [.widerDeep], laidTests := true, laidLooks := .later }
def HeapOwnUptoCardSaid : Prop := Claim7.holds Tryd.pinned (.plain (OpenSpec.upto heapOwnSpec)) heapOwnUptoCard

/-- THE SECOND FORM's CARD OF 'purlinlaw05.HeapResolves'. -/
def heapResolvesUptoCard : Claim7 := { stood := { row := heapResolvesUptoRow, standIns := [], harness := (true, "fb6b8832dcd33a04d61b400020f6856e98f03b6028d2a2d9cbfdf2adba4d3fc5"), looks := true }, kinds := [], alts := [], laidByText := true, laidKinds := [.widerDeep], laidTests := true, laidLooks := .later }
def HeapResolvesUptoCardSaid : Prop := Claim7.holds Tryd.pinned (.plain (OpenSpec.upto heapResolvesSpec)) heapResolvesUptoCard

/-- THE SECOND FORM's CARD OF 'purlinlaw05.HeapPlays'. -/
def heapPlaysUptoCard : Claim7 := { stood := { row := heapPlaysUptoRow, standIns := [], harness := (true, "fb6b8832dcd33a04d61b400020f6856e98f03b6028d2a2d9cbfdf2adba4d3fc5"), looks := true }, kinds := [], alts := [], laidByText := true, laidKinds := [.widerDeep], laidTests := true, laidLooks := .later }
def HeapPlaysUptoCardSaid : Prop := Claim7.holds Tryd.pinned (.plain (OpenSpec.upto heapPlaysSpec)) heapPlaysUptoCard

/-- THE SECOND FORM's CARD OF 'purlinlaw05.HeapNone'. -/
def heapNoneUptoCard : Claim7 := { stood := { row := heapNoneUptoRow, standIns := [], harness := (true, "fb6b8832dcd33a04d61b400020f6856e98f03b6028d2a2d9cbfdf2adba4d3fc5"), looks := true }, kinds := [], alts := [], laidByText := true, laidKinds := [.widerDeep], laidTests := true, laidLooks := .later }
def HeapNoneUptoCardSaid : Prop := Claim7.holds Tryd.pinned (.plain (OpenSpec.upto heapNoneSpec)) heapNoneUptoCard

/-- THE SECOND FORM's CARD OF 'purlinlaw18.ReachMore'. -/
def reachMoreUptoCard : Claim7 := { stood := { row := reachMoreUptoRow, standIns := [], harness := (true, "fb6b8832dcd33a04d61b400020f6856e98f03b6028d2a2d9cbfdf2adba4d3fc5"), looks := true }, kinds := [], alts := [], laidByText := true, laidKinds := [.widerDeep], laidTests := true, laidLooks := .later }
def ReachMoreUptoCardSaid : Prop := Claim7.holds Tryd.pinned (.plain (OpenSpec.upto reachMoreSpec)) reachMoreUptoCard

/-- THE SECOND FORM's CARD OF 'purlinlaw18.ReachWays'. -/
def reachWaysUptoCard : Claim7 := { stood := { row := reachWaysUptoRow, standIns := [], harness := (true, "fb6b8832dcd33a04d61b400020f6856e98f03b6028d2a2d9cbfdf2adba4d3fc5"), looks := true }, kinds := [], alts := [], laidByText := true, laidKinds := [.widerDeep], laidTests := true, laidLooks := .later }
def ReachWaysUptoCardSaid : Prop := Claim7.holds Tryd.pinned (.plain (OpenSpec.upto reachWaysSpec)) reachWaysUptoCard

/-- THE SECOND FORM's CARD OF 'purlinlaw18.ReachGarbage'. -/
def reachGarbageUptoCard : Claim7 := { stood := { row := reachGarbageUptoRow, standIns := [], harness := (true, "fb6b8832dcd33a04d61b400020f6856e98f03b6028d2a2d9cbfdf2adba4d3fc5"), looks := true }, kinds := [], alts := [], laidByText := true, laidKinds := [.widerDeep], laidTests := true, laidLooks := .later }
def ReachGarbageUptoCardSaid : Prop := Claim7.holds Tryd.pinned (.plain (OpenSpec.upto reachGarbageSpec)) reachGarbageUptoCard

/-- THE SECOND FORM's CARD OF 'purlinlaw08.UnifyBinds'. -/
def unifyBindsUptoCard : Claim7 := { stood := { row := unifyBindsUptoRow, standIns := [], harness := (true, "fb6b8832dcd33a04d61b400020f6856e98f03b6028d2a2d9cbfdf2adba4d3fc5"), looks := true }, kinds := [], alts := [], laidByText := true, laidKinds := [.widerDeep], laidTests := true, laidLooks := .later }
def UnifyBindsUptoCardSaid : Prop := Claim7.holds Tryd.pinned (.plain (OpenSpec.upto unifyBindsSpec)) unifyBindsUptoCard
end Rows
end Go.Proofs.YtehljfnoicppnaaDoor
