/-
  The table of this program's types and functions, as the conditions look at it.
  Conditions: none.
-/
import Derived.Test.YtadjhkehfklmnaaDoorV7
import Derived.Test.YtadjhkehfklmnaaDoorProg
namespace Go.Proofs.YtadjhkehfklmnaaDoor
set_option linter.unusedSimpArgs false
set_option linter.unusedVariables false
open Go.RowKit
def placesOf (P : Program) (d : TypeDesc) : Option (List (Nat × Nat)) :=
  match d with
  | .struct fs => fs.toList.mapM fun f => (P.info? f.type).map fun i => (f.offset, i.size)
  | _ => some []
def OkTI (P : Program) (t : Nat) (ti : TI) : Prop :=
  P.underlying t = some ti.desc ∧ (P.info? t).map (fun i => (i.size, i.bytes, i.zero.map (·.cells))) = some (ti.size, ti.bytes, some ti.zero.toArray) ∧ ti.zero.length = ti.size ∧ placesOf P ti.desc = some ti.places
def AllTI (P : Program) : List (Nat × TI) → Prop
  | [] => True
  | x :: r => OkTI P x.1 x.2 ∧ AllTI P r
def look : List (Nat × TI) → Nat → Option TI
  | [], _ => none
  | (k, ti) :: r, t => match Nat.beq k t with
    | true => some ti
    | false => look r t
theorem look_ok {P : Program} {t : Nat} {ti : TI} : ∀ (l : List (Nat × TI)), AllTI P l → look l t = some ti → OkTI P t ti
  | [], _, h => by cases h
  | (k, ti') :: r, hl, h => by
    unfold look at h
    split at h
    · rename_i hk
      have := Nat.eq_of_beq_eq_true hk
      subst this
      cases h
      exact hl.1
    · exact look_ok r hl.2 h
def inL : List Nat → Nat → Bool
  | [], _ => false
  | k :: r, f => match Nat.beq k f with
    | true => true
    | false => inL r f
def fnGood (P : Program) : List Nat → Bool
  | [] => true
  | f :: r => (match P.funcs[f]? with
    | some fn => !fn.body.isNone && !(fn.name == "runtime.NumGoroutine")
    | none => false) && fnGood P r
theorem inL_ok {P : Program} {f : Nat} : ∀ (l : List Nat), fnGood P l = true → inL l f = true → ∃ fn, P.funcs[f]? = some fn ∧ fn.body.isNone = false ∧ (fn.name == "runtime.NumGoroutine") = false
  | [], _, h => by cases h
  | k :: r, hl, h => by
    unfold inL at h
    simp only [fnGood, Bool.and_eq_true] at hl
    split at h
    · rename_i hk
      have := Nat.eq_of_beq_eq_true hk
      subst this
      have h1 := hl.1
      split at h1
      · rename_i fn hfn
        simp only [Bool.and_eq_true, Bool.not_eq_true'] at h1
        exact ⟨fn, hfn, h1.1, h1.2⟩
      · cases h1
    · exact inL_ok r hl.2 h
def tyRows : List (Nat × TI) := [
  (2, TI.mk (.int .i64) 1 8 [.int .i64 0] []),
  (3, TI.mk (.int .i64) 1 8 [.int .i64 0] []),
  (4, TI.mk (.bool) 1 1 [.bool false] []),
  (5, TI.mk (.int .u8) 1 1 [.int .u8 0] []),
  (9, TI.mk (.string) 1 16 [.string .empty] []),
  (12, TI.mk (.int .u64) 1 8 [.int .u64 0] []),
  (20, TI.mk (.interface #[]) 1 16 [.nilIface] []),
  (21, TI.mk (.int .i32) 1 4 [.int .i32 0] []),
  (22, TI.mk (.struct #[(Field.mk "Lower" 3 0 false "" "" 0), (Field.mk "Upper" 3 1 false "" "" 8), (Field.mk "Level" 3 2 false "" "" 16), (Field.mk "LowGate" 4 3 false "" "" 24), (Field.mk "HighGate" 4 4 false "" "" 25), (Field.mk "LowPaddle" 4 5 false "" "" 26), (Field.mk "HighPaddle" 4 6 false "" "" 27)]) 7 32 [.int .i64 0, .int .i64 0, .int .i64 0, .bool false, .bool false, .bool false, .bool false] [(0, 1), (1, 1), (2, 1), (3, 1), (4, 1), (5, 1), (6, 1)]),
  (23, TI.mk (.struct #[(Field.mk "Lower" 3 0 false "" "" 0), (Field.mk "Upper" 3 1 false "" "" 8), (Field.mk "Level" 3 2 false "" "" 16), (Field.mk "LowGate" 4 3 false "" "" 24), (Field.mk "HighGate" 4 4 false "" "" 25), (Field.mk "LowPaddle" 4 5 false "" "" 26), (Field.mk "HighPaddle" 4 6 false "" "" 27)]) 7 32 [.int .i64 0, .int .i64 0, .int .i64 0, .bool false, .bool false, .bool false, .bool false] [(0, 1), (1, 1), (2, 1), (3, 1), (4, 1), (5, 1), (6, 1)]),
  (24, TI.mk (.slice 67) 1 24 [.slice none 0 0] []),
  (25, TI.mk (.slice 69) 1 24 [.slice none 0 0] []),
  (26, TI.mk (.struct #[(Field.mk "Durable" 9 0 false "" "" 0), (Field.mk "Pending" 9 1 false "" "" 16), (Field.mk "Count" 3 2 false "" "" 32)]) 3 40 [.string .empty, .string .empty, .int .i64 0] [(0, 1), (1, 1), (2, 1)]),
  (27, TI.mk (.struct #[(Field.mk "Durable" 9 0 false "" "" 0), (Field.mk "Pending" 9 1 false "" "" 16), (Field.mk "Count" 3 2 false "" "" 32)]) 3 40 [.string .empty, .string .empty, .int .i64 0] [(0, 1), (1, 1), (2, 1)]),
  (28, TI.mk (.struct #[(Field.mk "Lock" 23 0 false "" "" 0), (Field.mk "Basins" 24 7 false "" "" 32), (Field.mk "Waiting" 25 8 false "" "" 56), (Field.mk "Log" 27 9 false "" "" 80)]) 12 120 [.int .i64 0, .int .i64 0, .int .i64 0, .bool false, .bool false, .bool false, .bool false, .slice none 0 0, .slice none 0 0, .string .empty, .string .empty, .int .i64 0] [(0, 7), (7, 1), (8, 1), (9, 3)]),
  (29, TI.mk (.struct #[(Field.mk "Lock" 23 0 false "" "" 0), (Field.mk "Basins" 24 7 false "" "" 32), (Field.mk "Waiting" 25 8 false "" "" 56), (Field.mk "Log" 27 9 false "" "" 80)]) 12 120 [.int .i64 0, .int .i64 0, .int .i64 0, .bool false, .bool false, .bool false, .bool false, .slice none 0 0, .slice none 0 0, .string .empty, .string .empty, .int .i64 0] [(0, 7), (7, 1), (8, 1), (9, 3)]),
  (32, TI.mk (.struct #[(Field.mk "Lower" 3 0 false "" "" 0), (Field.mk "Upper" 3 1 false "" "" 8), (Field.mk "Level" 3 2 false "" "" 16), (Field.mk "LowGate" 4 3 false "" "" 24), (Field.mk "HighGate" 4 4 false "" "" 25), (Field.mk "LowPaddle" 4 5 false "" "" 26), (Field.mk "HighPaddle" 4 6 false "" "" 27)]) 7 32 [.int .i64 0, .int .i64 0, .int .i64 0, .bool false, .bool false, .bool false, .bool false] [(0, 1), (1, 1), (2, 1), (3, 1), (4, 1), (5, 1), (6, 1)]),
  (33, TI.mk (.slice 60) 1 24 [.slice none 0 0] []),
  (34, TI.mk (.slice 63) 1 24 [.slice none 0 0] []),
  (35, TI.mk (.struct #[(Field.mk "Durable" 9 0 false "" "" 0), (Field.mk "Pending" 9 1 false "" "" 16), (Field.mk "Count" 3 2 false "" "" 32)]) 3 40 [.string .empty, .string .empty, .int .i64 0] [(0, 1), (1, 1), (2, 1)]),
  (36, TI.mk (.struct #[(Field.mk "Lock" 32 0 false "" "" 0), (Field.mk "Basins" 33 7 false "" "" 32), (Field.mk "Waiting" 34 8 false "" "" 56), (Field.mk "Log" 35 9 false "" "" 80)]) 12 120 [.int .i64 0, .int .i64 0, .int .i64 0, .bool false, .bool false, .bool false, .bool false, .slice none 0 0, .slice none 0 0, .string .empty, .string .empty, .int .i64 0] [(0, 7), (7, 1), (8, 1), (9, 3)]),
  (37, TI.mk (.struct #[(Field.mk "Lock" 32 0 false "" "" 0), (Field.mk "Basins" 33 7 false "" "" 32), (Field.mk "Waiting" 34 8 false "" "" 56), (Field.mk "Log" 35 9 false "" "" 80)]) 12 120 [.int .i64 0, .int .i64 0, .int .i64 0, .bool false, .bool false, .bool false, .bool false, .slice none 0 0, .slice none 0 0, .string .empty, .string .empty, .int .i64 0] [(0, 7), (7, 1), (8, 1), (9, 3)]),
  (59, TI.mk (.struct #[(Field.mk "Volume" 3 0 false "" "" 0), (Field.mk "Least" 3 1 false "" "" 8), (Field.mk "Most" 3 2 false "" "" 16)]) 3 24 [.int .i64 0, .int .i64 0, .int .i64 0] [(0, 1), (1, 1), (2, 1)]),
  (60, TI.mk (.struct #[(Field.mk "Volume" 3 0 false "" "" 0), (Field.mk "Least" 3 1 false "" "" 8), (Field.mk "Most" 3 2 false "" "" 16)]) 3 24 [.int .i64 0, .int .i64 0, .int .i64 0] [(0, 1), (1, 1), (2, 1)]),
  (62, TI.mk (.struct #[(Field.mk "Id" 3 0 false "" "" 0), (Field.mk "Up" 4 1 false "" "" 8), (Field.mk "Minute" 3 2 false "" "" 16), (Field.mk "Weight" 3 3 false "" "" 24)]) 4 32 [.int .i64 0, .bool false, .int .i64 0, .int .i64 0] [(0, 1), (1, 1), (2, 1), (3, 1)]),
  (63, TI.mk (.struct #[(Field.mk "Id" 3 0 false "" "" 0), (Field.mk "Up" 4 1 false "" "" 8), (Field.mk "Minute" 3 2 false "" "" 16), (Field.mk "Weight" 3 3 false "" "" 24)]) 4 32 [.int .i64 0, .bool false, .int .i64 0, .int .i64 0] [(0, 1), (1, 1), (2, 1), (3, 1)]),
  (64, TI.mk (.slice 9) 1 24 [.slice none 0 0] []),
  (65, TI.mk (.slice 4) 1 24 [.slice none 0 0] []),
  (67, TI.mk (.struct #[(Field.mk "Volume" 3 0 false "" "" 0), (Field.mk "Least" 3 1 false "" "" 8), (Field.mk "Most" 3 2 false "" "" 16)]) 3 24 [.int .i64 0, .int .i64 0, .int .i64 0] [(0, 1), (1, 1), (2, 1)]),
  (69, TI.mk (.struct #[(Field.mk "Id" 3 0 false "" "" 0), (Field.mk "Up" 4 1 false "" "" 8), (Field.mk "Minute" 3 2 false "" "" 16), (Field.mk "Weight" 3 3 false "" "" 24)]) 4 32 [.int .i64 0, .bool false, .int .i64 0, .int .i64 0] [(0, 1), (1, 1), (2, 1), (3, 1)]),
  (74, TI.mk (.slice 84) 1 24 [.slice none 0 0] []),
  (75, TI.mk (.slice 3) 1 24 [.slice none 0 0] []),
  (83, TI.mk (.struct #[(Field.mk "Command" 9 0 false "" "" 0), (Field.mk "Reply" 9 1 false "" "" 16)]) 2 32 [.string .empty, .string .empty] [(0, 1), (1, 1)]),
  (84, TI.mk (.struct #[(Field.mk "Command" 9 0 false "" "" 0), (Field.mk "Reply" 9 1 false "" "" 16)]) 2 32 [.string .empty, .string .empty] [(0, 1), (1, 1)]),
  (95, TI.mk (.array 24 5) 24 24 [.int .u8 0, .int .u8 0, .int .u8 0, .int .u8 0, .int .u8 0, .int .u8 0, .int .u8 0, .int .u8 0, .int .u8 0, .int .u8 0, .int .u8 0, .int .u8 0, .int .u8 0, .int .u8 0, .int .u8 0, .int .u8 0, .int .u8 0, .int .u8 0, .int .u8 0, .int .u8 0, .int .u8 0, .int .u8 0, .int .u8 0, .int .u8 0] []),
  (96, TI.mk (.int .u64) 1 8 [.int .u64 0] []),
  (99, TI.mk (.slice 5) 1 24 [.slice none 0 0] []),
  (107, TI.mk (.array 20 96) 20 160 [.int .u64 0, .int .u64 0, .int .u64 0, .int .u64 0, .int .u64 0, .int .u64 0, .int .u64 0, .int .u64 0, .int .u64 0, .int .u64 0, .int .u64 0, .int .u64 0, .int .u64 0, .int .u64 0, .int .u64 0, .int .u64 0, .int .u64 0, .int .u64 0, .int .u64 0, .int .u64 0] []),
  (108, TI.mk (.int .u32) 1 4 [.int .u32 0] []),
  (109, TI.mk (.array 65 5) 65 65 [.int .u8 0, .int .u8 0, .int .u8 0, .int .u8 0, .int .u8 0, .int .u8 0, .int .u8 0, .int .u8 0, .int .u8 0, .int .u8 0, .int .u8 0, .int .u8 0, .int .u8 0, .int .u8 0, .int .u8 0, .int .u8 0, .int .u8 0, .int .u8 0, .int .u8 0, .int .u8 0, .int .u8 0, .int .u8 0, .int .u8 0, .int .u8 0, .int .u8 0, .int .u8 0, .int .u8 0, .int .u8 0, .int .u8 0, .int .u8 0, .int .u8 0, .int .u8 0, .int .u8 0, .int .u8 0, .int .u8 0, .int .u8 0, .int .u8 0, .int .u8 0, .int .u8 0, .int .u8 0, .int .u8 0, .int .u8 0, .int .u8 0, .int .u8 0, .int .u8 0, .int .u8 0, .int .u8 0, .int .u8 0, .int .u8 0, .int .u8 0, .int .u8 0, .int .u8 0, .int .u8 0, .int .u8 0, .int .u8 0, .int .u8 0, .int .u8 0, .int .u8 0, .int .u8 0, .int .u8 0, .int .u8 0, .int .u8 0, .int .u8 0, .int .u8 0, .int .u8 0] []),
  (110, TI.mk (.int .u64) 1 8 [.int .u64 0] []),
  (119, TI.mk (.array 32 5) 32 32 [.int .u8 0, .int .u8 0, .int .u8 0, .int .u8 0, .int .u8 0, .int .u8 0, .int .u8 0, .int .u8 0, .int .u8 0, .int .u8 0, .int .u8 0, .int .u8 0, .int .u8 0, .int .u8 0, .int .u8 0, .int .u8 0, .int .u8 0, .int .u8 0, .int .u8 0, .int .u8 0, .int .u8 0, .int .u8 0, .int .u8 0, .int .u8 0, .int .u8 0, .int .u8 0, .int .u8 0, .int .u8 0, .int .u8 0, .int .u8 0, .int .u8 0, .int .u8 0] []),
  (120, TI.mk (.array 64 5) 64 64 [.int .u8 0, .int .u8 0, .int .u8 0, .int .u8 0, .int .u8 0, .int .u8 0, .int .u8 0, .int .u8 0, .int .u8 0, .int .u8 0, .int .u8 0, .int .u8 0, .int .u8 0, .int .u8 0, .int .u8 0, .int .u8 0, .int .u8 0, .int .u8 0, .int .u8 0, .int .u8 0, .int .u8 0, .int .u8 0, .int .u8 0, .int .u8 0, .int .u8 0, .int .u8 0, .int .u8 0, .int .u8 0, .int .u8 0, .int .u8 0, .int .u8 0, .int .u8 0, .int .u8 0, .int .u8 0, .int .u8 0, .int .u8 0, .int .u8 0, .int .u8 0, .int .u8 0, .int .u8 0, .int .u8 0, .int .u8 0, .int .u8 0, .int .u8 0, .int .u8 0, .int .u8 0, .int .u8 0, .int .u8 0, .int .u8 0, .int .u8 0, .int .u8 0, .int .u8 0, .int .u8 0, .int .u8 0, .int .u8 0, .int .u8 0, .int .u8 0, .int .u8 0, .int .u8 0, .int .u8 0, .int .u8 0, .int .u8 0, .int .u8 0, .int .u8 0] []),
  (133, TI.mk (.pointer 5) 1 8 [.pointer none] [])]
def fnRows : List Nat := [2, 3, 4, 5, 6, 7, 8, 9, 10, 11, 12, 13, 14, 15, 16, 17, 18, 19, 20, 21, 22, 23, 24, 25, 26, 27, 28, 29, 30, 31, 32, 33, 34, 35, 36, 37, 38, 39, 40, 41, 42, 43, 44, 45, 46, 47, 48, 49, 50, 51, 52, 53, 54, 55, 56, 57, 58, 59, 60, 61, 62, 63, 64, 65, 66, 67, 68, 69, 70, 71, 72, 73, 74, 75, 76, 77, 78, 79, 80, 81, 83, 84, 86, 108]
def eqRows : List Nat := [22, 23, 26, 27, 32, 35, 59, 60, 62, 63, 67, 69, 83, 84]
theorem tyRows_ok : AllTI Tryd.prog tyRows := ⟨⟨by kernel_rfl, by kernel_rfl, by kernel_rfl, by kernel_rfl⟩, ⟨⟨by kernel_rfl, by kernel_rfl, by kernel_rfl, by kernel_rfl⟩, ⟨⟨by kernel_rfl, by kernel_rfl, by kernel_rfl, by kernel_rfl⟩, ⟨⟨by kernel_rfl, by kernel_rfl, by kernel_rfl, by kernel_rfl⟩, ⟨⟨by kernel_rfl, by kernel_rfl, by kernel_rfl, by kernel_rfl⟩, ⟨⟨by kernel_rfl, by kernel_rfl, by kernel_rfl, by kernel_rfl⟩, ⟨⟨by kernel_rfl, by kernel_rfl, by kernel_rfl, by kernel_rfl⟩, ⟨⟨by kernel_rfl, by kernel_rfl, by kernel_rfl, by kernel_rfl⟩, ⟨⟨by kernel_rfl, by kernel_rfl, by kernel_rfl, by kernel_rfl⟩, ⟨⟨by kernel_rfl, by kernel_rfl, by kernel_rfl, by kernel_rfl⟩, ⟨⟨by kernel_rfl, by kernel_rfl, by kernel_rfl, by kernel_rfl⟩, ⟨⟨by kernel_rfl, by kernel_rfl, by kernel_rfl, by kernel_rfl⟩, ⟨⟨by kernel_rfl, by kernel_rfl, by kernel_rfl, by kernel_rfl⟩, ⟨⟨by kernel_rfl, by kernel_rfl, by kernel_rfl, by kernel_rfl⟩, ⟨⟨by kernel_rfl, by kernel_rfl, by kernel_rfl, by kernel_rfl⟩, ⟨⟨by kernel_rfl, by kernel_rfl, by kernel_rfl, by kernel_rfl⟩, ⟨⟨by kernel_rfl, by kernel_rfl, by kernel_rfl, by kernel_rfl⟩, ⟨⟨by kernel_rfl, by kernel_rfl, by kernel_rfl, by kernel_rfl⟩, ⟨⟨by kernel_rfl, by kernel_rfl, by kernel_rfl, by kernel_rfl⟩, ⟨⟨by kernel_rfl, by kernel_rfl, by kernel_rfl, by kernel_rfl⟩, ⟨⟨by kernel_rfl, by kernel_rfl, by kernel_rfl, by kernel_rfl⟩, ⟨⟨by kernel_rfl, by kernel_rfl, by kernel_rfl, by kernel_rfl⟩, ⟨⟨by kernel_rfl, by kernel_rfl, by kernel_rfl, by kernel_rfl⟩, ⟨⟨by kernel_rfl, by kernel_rfl, by kernel_rfl, by kernel_rfl⟩, ⟨⟨by kernel_rfl, by kernel_rfl, by kernel_rfl, by kernel_rfl⟩, ⟨⟨by kernel_rfl, by kernel_rfl, by kernel_rfl, by kernel_rfl⟩, ⟨⟨by kernel_rfl, by kernel_rfl, by kernel_rfl, by kernel_rfl⟩, ⟨⟨by kernel_rfl, by kernel_rfl, by kernel_rfl, by kernel_rfl⟩, ⟨⟨by kernel_rfl, by kernel_rfl, by kernel_rfl, by kernel_rfl⟩, ⟨⟨by kernel_rfl, by kernel_rfl, by kernel_rfl, by kernel_rfl⟩, ⟨⟨by kernel_rfl, by kernel_rfl, by kernel_rfl, by kernel_rfl⟩, ⟨⟨by kernel_rfl, by kernel_rfl, by kernel_rfl, by kernel_rfl⟩, ⟨⟨by kernel_rfl, by kernel_rfl, by kernel_rfl, by kernel_rfl⟩, ⟨⟨by kernel_rfl, by kernel_rfl, by kernel_rfl, by kernel_rfl⟩, ⟨⟨by kernel_rfl, by kernel_rfl, by kernel_rfl, by kernel_rfl⟩, ⟨⟨by kernel_rfl, by kernel_rfl, by kernel_rfl, by kernel_rfl⟩, ⟨⟨by kernel_rfl, by kernel_rfl, by kernel_rfl, by kernel_rfl⟩, ⟨⟨by kernel_rfl, by kernel_rfl, by kernel_rfl, by kernel_rfl⟩, ⟨⟨by kernel_rfl, by kernel_rfl, by kernel_rfl, by kernel_rfl⟩, ⟨⟨by kernel_rfl, by kernel_rfl, by kernel_rfl, by kernel_rfl⟩, ⟨⟨by kernel_rfl, by kernel_rfl, by kernel_rfl, by kernel_rfl⟩, ⟨⟨by kernel_rfl, by kernel_rfl, by kernel_rfl, by kernel_rfl⟩, ⟨⟨by kernel_rfl, by kernel_rfl, by kernel_rfl, by kernel_rfl⟩, ⟨⟨by kernel_rfl, by kernel_rfl, by kernel_rfl, by kernel_rfl⟩,  trivial⟩⟩⟩⟩⟩⟩⟩⟩⟩⟩⟩⟩⟩⟩⟩⟩⟩⟩⟩⟩⟩⟩⟩⟩⟩⟩⟩⟩⟩⟩⟩⟩⟩⟩⟩⟩⟩⟩⟩⟩⟩⟩⟩⟩
theorem fnRows_ok : fnGood Tryd.prog fnRows = true := by kernel_rfl
def eqGood (P : Program) : List Nat → Bool
  | [] => true
  | t :: r => !(P.eqGuardType P.depth t) && !(P.stoodInHeld t) && ((P.fieldsOf t).toList.all fun f => f.name != "_") && eqGood P r
theorem eqL_ok {P : Program} {t : Nat} : ∀ (l : List Nat), eqGood P l = true → inL l t = true → P.eqGuardType P.depth t = false ∧ P.stoodInHeld t = false ∧ ((P.fieldsOf t).toList.all fun f => f.name != "_") = true
  | [], _, h => by cases h
  | k :: r, hl, h => by
    unfold inL at h
    simp only [eqGood, Bool.and_eq_true] at hl
    split at h
    · rename_i hk
      have := Nat.eq_of_beq_eq_true hk
      subst this
      obtain ⟨⟨⟨h1, h2⟩, h3⟩, _⟩ := hl
      exact ⟨by simpa using h1, by simpa using h2, h3⟩
    · exact eqL_ok r hl.2 h
theorem eqRows_ok : eqGood Tryd.prog eqRows = true := by kernel_rfl
def tb : Tab := ⟨look tyRows, inL fnRows, inL eqRows⟩
theorem tb_ok : TabOk Tryd.prog tb where
  und := fun t ti h => (look_ok tyRows tyRows_ok h).1
  info := fun t ti h => by
    have h2 := (look_ok tyRows tyRows_ok h).2.1
    cases hi : Tryd.prog.info? t with
    | none => rw [hi] at h2; cases h2
    | some i =>
      rw [hi] at h2
      simp only [Option.map_some, Option.some.injEq, Prod.mk.injEq] at h2
      cases hz : i.zero with
      | none => rw [hz] at h2; exact absurd h2.2.2 (by simp)
      | some z =>
        rw [hz] at h2
        simp only [Option.map_some, Option.some.injEq] at h2
        exact ⟨i, z, rfl, h2.1, h2.2.1, hz, h2.2.2⟩
  zl := fun t ti h => (look_ok tyRows tyRows_ok h).2.2.1
  places := fun t ti fs h hd => by
    have h4 := (look_ok tyRows tyRows_ok h).2.2.2
    rw [hd] at h4
    exact h4
  fns := fun f h => inL_ok fnRows fnRows_ok h
  mixed := by kernel_rfl
  eqs := fun t h => eqL_ok eqRows eqRows_ok h
end Go.Proofs.YtadjhkehfklmnaaDoor
