/-
  DERIVED. GIVEN WITH THE SEED: THE CARDS: each row of YtdikkjpmmbjclaaDoorRows.lean that lists a variable, with what it lists TIED to the program's text (the seventh form; the later family's looks); each row that meets fmt, with fmt's text TOLD by the authors' own Lean function (tested against real Go, not proved from fmt's source: count such statements apart). THE CARD IS WHAT COUNTS. Prove the row's statement (the work); the ties are given (YtdikkjpmmbjclaaDoorTie.lean); close each card by the builder's one call (the guide's Derived/Test/ToyasCard.lean, 'card_holds'). Laid BY PROGRAM, IN A SANDBOX (cutbox-door.mjs). By AI agents, Wed Nov 11 2026. No macro, syntax, notation, axiom, sorry.
-/
import Derived.Test.YtdikkjpmmbjclaaDoorRows
import GoSem.ClaimSeven
namespace Go.Proofs.YtdikkjpmmbjclaaDoor
namespace Rows

/-- THE TIED CARD OF 'laws.FnExactEncodeRecord'. -/
def fnExactEncodeRecordCard : Claim7 := { stood := { row := fnExactEncodeRecordRow, standIns := [], harness := (true, "f3a7b265927c7a1cc403ad7a07468cef0c9ac99e592cc605d074f470d5b257c0"), looks := false }, kinds := [], alts := [], laidByText := true, laidKinds := [.data, .data, .data], laidTests := true, laidLooks := .later }
def FnExactEncodeRecordCardSaid : Prop := Claim7.holds Tryd.pinned (.plain (OpenSpec.ofChange fnExactEncodeRecordSpec)) fnExactEncodeRecordCard

/-- THE TIED CARD OF 'laws.FnExactRecoverLog'. -/
def fnExactRecoverLogCard : Claim7 := { stood := { row := fnExactRecoverLogRow, standIns := [], harness := (true, "f3a7b265927c7a1cc403ad7a07468cef0c9ac99e592cc605d074f470d5b257c0"), looks := false }, kinds := [], alts := [], laidByText := true, laidKinds := [.data, .data, .data], laidTests := true, laidLooks := .later }
def FnExactRecoverLogCardSaid : Prop := Claim7.holds Tryd.pinned (.plain (OpenSpec.ofChange fnExactRecoverLogSpec)) fnExactRecoverLogCard

/-- THE TIED CARD OF 'laws.FnExactIsValidLog'. -/
def fnExactIsValidLogCard : Claim7 := { stood := { row := fnExactIsValidLogRow, standIns := [], harness := (true, "f3a7b265927c7a1cc403ad7a07468cef0c9ac99e592cc605d074f470d5b257c0"), looks := false }, kinds := [], alts := [], laidByText := true, laidKinds := [.data, .data, .data], laidTests := true, laidLooks := .later }
def FnExactIsValidLogCardSaid : Prop := Claim7.holds Tryd.pinned (.plain (OpenSpec.ofChange fnExactIsValidLogSpec)) fnExactIsValidLogCard

/-- THE TIED CARD OF 'laws.FnExactCrashLog'. -/
def fnExactCrashLogCard : Claim7 := { stood := { row := fnExactCrashLogRow, standIns := [], harness := (true, "f3a7b265927c7a1cc403ad7a07468cef0c9ac99e592cc605d074f470d5b257c0"), looks := false }, kinds := [], alts := [], laidByText := true, laidKinds := [.data, .data, .data], laidTests := true, laidLooks := .later }
def FnExactCrashLogCardSaid : Prop := Claim7.holds Tryd.pinned (.plain (OpenSpec.ofChange fnExactCrashLogSpec)) fnExactCrashLogCard

/-- THE TIED CARD OF 'laws.FnExactSyncLog'. -/
def fnExactSyncLogCard : Claim7 := { stood := { row := fnExactSyncLogRow, standIns := [], harness := (true, "f3a7b265927c7a1cc403ad7a07468cef0c9ac99e592cc605d074f470d5b257c0"), looks := false }, kinds := [], alts := [], laidByText := true, laidKinds := [.data, .data, .data], laidTests := true, laidLooks := .later }
def FnExactSyncLogCardSaid : Prop := Claim7.holds Tryd.pinned (.plain (OpenSpec.ofChange fnExactSyncLogSpec)) fnExactSyncLogCard

/-- THE TIED CARD OF 'laws.FnExactAppendRecord'. -/
def fnExactAppendRecordCard : Claim7 := { stood := { row := fnExactAppendRecordRow, standIns := [], harness := (true, "f3a7b265927c7a1cc403ad7a07468cef0c9ac99e592cc605d074f470d5b257c0"), looks := false }, kinds := [], alts := [], laidByText := true, laidKinds := [.data, .data, .data], laidTests := true, laidLooks := .later }
def FnExactAppendRecordCardSaid : Prop := Claim7.holds Tryd.pinned (.plain (OpenSpec.ofChange fnExactAppendRecordSpec)) fnExactAppendRecordCard

/-- THE TIED CARD OF 'laws.FnExactLogRecords'. -/
def fnExactLogRecordsCard : Claim7 := { stood := { row := fnExactLogRecordsRow, standIns := [], harness := (true, "f3a7b265927c7a1cc403ad7a07468cef0c9ac99e592cc605d074f470d5b257c0"), looks := false }, kinds := [], alts := [], laidByText := true, laidKinds := [.data, .data, .data], laidTests := true, laidLooks := .later }
def FnExactLogRecordsCardSaid : Prop := Claim7.holds Tryd.pinned (.plain (OpenSpec.ofChange fnExactLogRecordsSpec)) fnExactLogRecordsCard

/-- THE TIED CARD OF 'laws.FnLog'. -/
def fnLogCard : Claim7 := { stood := { row := fnLogRow, standIns := [], harness := (true, "f3a7b265927c7a1cc403ad7a07468cef0c9ac99e592cc605d074f470d5b257c0"), looks := false }, kinds := [], alts := [], laidByText := true, laidKinds := [.data, .data, .data], laidTests := true, laidLooks := .later }
def FnLogCardSaid : Prop := Claim7.holds Tryd.pinned (.plain (OpenSpec.ofChange fnLogSpec)) fnLogCard

/-- THE TIED CARD OF 'laws.FnLogLines'. -/
def fnLogLinesCard : Claim7 := { stood := { row := fnLogLinesRow, standIns := [], harness := (true, "f3a7b265927c7a1cc403ad7a07468cef0c9ac99e592cc605d074f470d5b257c0"), looks := false }, kinds := [], alts := [], laidByText := true, laidKinds := [.data, .data, .data], laidTests := true, laidLooks := .later }
def FnLogLinesCardSaid : Prop := Claim7.holds Tryd.pinned (.plain (OpenSpec.ofChange fnLogLinesSpec)) fnLogLinesCard

/-- THE TIED CARD OF 'laws.FnCrashRecovery'. -/
def fnCrashRecoveryCard : Claim7 := { stood := { row := fnCrashRecoveryRow, standIns := [], harness := (true, "f3a7b265927c7a1cc403ad7a07468cef0c9ac99e592cc605d074f470d5b257c0"), looks := false }, kinds := [], alts := [], laidByText := true, laidKinds := [.data, .data, .data], laidTests := true, laidLooks := .later }
def FnCrashRecoveryCardSaid : Prop := Claim7.holds Tryd.pinned (.plain (OpenSpec.ofChange fnCrashRecoverySpec)) fnCrashRecoveryCard

/-- THE SECOND FORM's CARD OF 'laws.FnExactEncodeRecord'. -/
def fnExactEncodeRecordUptoCard : Claim7 := { stood := { row := fnExactEncodeRecordUptoRow, standIns := [], harness := (true, "f3a7b265927c7a1cc403ad7a07468cef0c9ac99e592cc605d074f470d5b257c0"), looks := false }, kinds := [], alts := [], laidByText := true, laidKinds := [.data, .data, .data], laidTests := true, laidLooks := .later }
def FnExactEncodeRecordUptoCardSaid : Prop := Claim7.holds Tryd.pinned (.plain (OpenSpec.upto fnExactEncodeRecordSpec)) fnExactEncodeRecordUptoCard

/-- THE SECOND FORM's CARD OF 'laws.FnExactRecoverLog'. -/
def fnExactRecoverLogUptoCard : Claim7 := { stood := { row := fnExactRecoverLogUptoRow, standIns := [], harness := (true, "f3a7b265927c7a1cc403ad7a07468cef0c9ac99e592cc605d074f470d5b257c0"), looks := false }, kinds := [], alts := [], laidByText := true, laidKinds := [.data, .data, .data], laidTests := true, laidLooks := .later }
def FnExactRecoverLogUptoCardSaid : Prop := Claim7.holds Tryd.pinned (.plain (OpenSpec.upto fnExactRecoverLogSpec)) fnExactRecoverLogUptoCard

/-- THE SECOND FORM's CARD OF 'laws.FnExactIsValidLog'. -/
def fnExactIsValidLogUptoCard : Claim7 := { stood := { row := fnExactIsValidLogUptoRow, standIns := [], harness := (true, "f3a7b265927c7a1cc403ad7a07468cef0c9ac99e592cc605d074f470d5b257c0"), looks := false }, kinds := [], alts := [], laidByText := true, laidKinds := [.data, .data, .data], laidTests := true, laidLooks := .later }
def FnExactIsValidLogUptoCardSaid : Prop := Claim7.holds Tryd.pinned (.plain (OpenSpec.upto fnExactIsValidLogSpec)) fnExactIsValidLogUptoCard

/-- THE SECOND FORM's CARD OF 'laws.FnExactCrashLog'. -/
def fnExactCrashLogUptoCard : Claim7 := { stood := { row := fnExactCrashLogUptoRow, standIns := [], harness := (true, "f3a7b265927c7a1cc403ad7a07468cef0c9ac99e592cc605d074f470d5b257c0"), looks := false }, kinds := [], alts := [], laidByText := true, laidKinds := [.data, .data, .data], laidTests := true, laidLooks := .later }
def FnExactCrashLogUptoCardSaid : Prop := Claim7.holds Tryd.pinned (.plain (OpenSpec.upto fnExactCrashLogSpec)) fnExactCrashLogUptoCard

/-- THE SECOND FORM's CARD OF 'laws.FnExactSyncLog'. -/
def fnExactSyncLogUptoCard : Claim7 := { stood := { row := fnExactSyncLogUptoRow, standIns := [], harness := (true, "f3a7b265927c7a1cc403ad7a07468cef0c9ac99e592cc605d074f470d5b257c0"), looks := false }, kinds := [], alts := [], laidByText := true, laidKinds := [.data, .data, .data], laidTests := true, laidLooks := .later }
def FnExactSyncLogUptoCardSaid : Prop := Claim7.holds Tryd.pinned (.plain (OpenSpec.upto fnExactSyncLogSpec)) fnExactSyncLogUptoCard

/-- THE SECOND FORM's CARD OF 'laws.FnExactAppendRecord'. -/
def fnExactAppendRecordUptoCard : Claim7 := { stood := { row := fnExactAppendRecordUptoRow, standIns := [], harness := (true, "f3a7b265927c7a1cc403ad7a07468cef0c9ac99e592cc605d074f470d5b257c0"), looks := false }, kinds := [], alts := [], laidByText := true, laidKinds := [.data, .data, .data], laidTests := true, laidLooks := .later }
def FnExactAppendRecordUptoCardSaid : Prop := Claim7.holds Tryd.pinned (.plain (OpenSpec.upto fnExactAppendRecordSpec)) fnExactAppendRecordUptoCard

/-- THE SECOND FORM's CARD OF 'laws.FnExactLogRecords'. -/
def fnExactLogRecordsUptoCard : Claim7 := { stood := { row := fnExactLogRecordsUptoRow, standIns := [], harness := (true, "f3a7b265927c7a1cc403ad7a07468cef0c9ac99e592cc605d074f470d5b257c0"), looks := false }, kinds := [], alts := [], laidByText := true, laidKinds := [.data, .data, .data], laidTests := true, laidLooks := .later }
def FnExactLogRecordsUptoCardSaid : Prop := Claim7.holds Tryd.pinned (.plain (OpenSpec.upto fnExactLogRecordsSpec)) fnExactLogRecordsUptoCard

/-- THE SECOND FORM's CARD OF 'laws.FnLog'. -/
def fnLogUptoCard : Claim7 := { stood := { row := fnLogUptoRow, standIns := [], harness := (true, "f3a7b265927c7a1cc403ad7a07468cef0c9ac99e592cc605d074f470d5b257c0"), looks := false }, kinds := [], alts := [], laidByText := true, laidKinds := [.data, .data, .data], laidTests := true, laidLooks := .later }
def FnLogUptoCardSaid : Prop := Claim7.holds Tryd.pinned (.plain (OpenSpec.upto fnLogSpec)) fnLogUptoCard

/-- THE SECOND FORM's CARD OF 'laws.FnLogLines'. -/
def fnLogLinesUptoCard : Claim7 := { stood := { row := fnLogLinesUptoRow, standIns := [], harness := (true, "f3a7b265927c7a1cc403ad7a07468cef0c9ac99e592cc605d074f470d5b257c0"), looks := false }, kinds := [], alts := [], laidByText := true, laidKinds := [.data, .data, .data], laidTests := true, laidLooks := .later }
def FnLogLinesUptoCardSaid : Prop := Claim7.holds Tryd.pinned (.plain (OpenSpec.upto fnLogLinesSpec)) fnLogLinesUptoCard

/-- THE SECOND FORM's CARD OF 'laws.FnCrashRecovery'. -/
def fnCrashRecoveryUptoCard : Claim7 := { stood := { row := fnCrashRecoveryUptoRow, standIns := [], harness := (true, "f3a7b265927c7a1cc403ad7a07468cef0c9ac99e592cc605d074f470d5b257c0"), looks := false }, kinds := [], alts := [], laidByText := true, laidKinds := [.data, .data, .data], laidTests := true, laidLooks := .later }
def FnCrashRecoveryUptoCardSaid : Prop := Claim7.holds Tryd.pinned (.plain (OpenSpec.upto fnCrashRecoverySpec)) fnCrashRecoveryUptoCard
end Rows
end Go.Proofs.YtdikkjpmmbjclaaDoor
