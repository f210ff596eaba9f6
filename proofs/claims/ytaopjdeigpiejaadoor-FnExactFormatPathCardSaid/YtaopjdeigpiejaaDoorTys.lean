/-
  The table of the types that the code names.
-/
import Derived.Test.YtaopjdeigpiejaaDoorVA
namespace Go.Proofs.YtaopjdeigpiejaaDoor
set_option linter.unusedVariables false

def tys : List (Nat × TyI) := [
  (3, ⟨false, 1, 8, (AV.cons (AV.int .i64 0) AV.nil), [], 0, some .i64, none, false⟩),
  (4, ⟨false, 1, 1, (AV.cons (AV.ff) AV.nil), [], 0, none, none, true⟩),
  (22, ⟨false, 1, 24, (AV.cons (AV.nl) AV.nil), [], 3, none, none, false⟩),
  (27, ⟨true, 1, 24, (AV.cons (AV.nl) AV.nil), [(0, 1)], 0, none, none, false⟩),
  (2, ⟨false, 1, 8, (AV.cons (AV.int .i64 0) AV.nil), [], 0, some .i64, none, false⟩),
  (5, ⟨false, 1, 1, (AV.cons (AV.int .u8 0) AV.nil), [], 0, some .u8, none, false⟩),
  (6, ⟨false, 1, 1, (AV.cons (AV.int .u8 0) AV.nil), [], 0, some .u8, none, false⟩),
  (7, ⟨true, 4, 24, (AV.cons (AV.int .i64 0) (AV.cons (AV.int .i64 0) (AV.cons (AV.ff) (AV.cons (AV.int .u8 0) AV.nil)))), [(0, 1), (1, 1), (2, 1), (3, 1)], 0, none, none, false⟩),
  (8, ⟨true, 4, 24, (AV.cons (AV.int .i64 0) (AV.cons (AV.int .i64 0) (AV.cons (AV.ff) (AV.cons (AV.int .u8 0) AV.nil)))), [(0, 1), (1, 1), (2, 1), (3, 1)], 0, none, none, false⟩),
  (9, ⟨false, 1, 16, (AV.cons (AV.s ByteArray.empty) AV.nil), [], 0, none, none, false⟩),
  (10, ⟨false, 1, 16, (AV.cons (AV.s ByteArray.empty) AV.nil), [], 0, none, none, false⟩),
  (11, ⟨false, 1, 16, (AV.cons (AV.s ByteArray.empty) AV.nil), [], 0, none, none, false⟩),
  (12, ⟨false, 1, 8, (AV.cons (AV.int .u64 0) AV.nil), [], 0, some .u64, none, false⟩),
  (13, ⟨true, 2, 24, (AV.cons (AV.s ByteArray.empty) (AV.cons (AV.int .u64 0) AV.nil)), [(0, 1), (1, 1)], 0, none, none, false⟩),
  (14, ⟨true, 2, 24, (AV.cons (AV.s ByteArray.empty) (AV.cons (AV.int .u64 0) AV.nil)), [(0, 1), (1, 1)], 0, none, none, false⟩),
  (15, ⟨false, 1, 8, (AV.cons (AV.c (.pointer none)) AV.nil), [], 0, none, none, false⟩),
  (16, ⟨false, 1, 8, (AV.cons (AV.c (.pointer none)) AV.nil), [], 0, none, none, false⟩),
  (17, ⟨false, 1, 8, (AV.cons (AV.c (.pointer none)) AV.nil), [], 0, none, none, false⟩),
  (18, ⟨true, 1, 8, (AV.cons (AV.c (.pointer none)) AV.nil), [(0, 1)], 0, none, none, false⟩),
  (19, ⟨true, 1, 8, (AV.cons (AV.c (.pointer none)) AV.nil), [(0, 1)], 0, none, none, false⟩),
  (21, ⟨false, 1, 4, (AV.cons (AV.int .i32 0) AV.nil), [], 0, some .i32, none, false⟩),
  (23, ⟨true, 1, 24, (AV.cons (AV.nl) AV.nil), [(0, 1)], 0, none, none, false⟩),
  (24, ⟨true, 1, 24, (AV.cons (AV.nl) AV.nil), [(0, 1)], 0, none, none, false⟩),
  (36, ⟨false, 1, 24, (AV.cons (AV.nl) AV.nil), [], 5, none, none, false⟩),
  (37, ⟨false, 1, 24, (AV.cons (AV.nl) AV.nil), [], 9, none, none, false⟩),
  (39, ⟨false, 1, 8, (AV.cons (AV.c (.pointer none)) AV.nil), [], 0, none, none, false⟩),
  (40, ⟨true, 2, 32, (AV.cons (AV.c (.pointer none)) (AV.cons (AV.nl) AV.nil)), [(0, 1), (1, 1)], 0, none, none, false⟩),
  (41, ⟨true, 2, 32, (AV.cons (AV.c (.pointer none)) (AV.cons (AV.nl) AV.nil)), [(0, 1), (1, 1)], 0, none, none, false⟩),
  (48, ⟨false, 1, 8, (AV.cons (AV.c (.pointer none)) AV.nil), [], 0, none, none, false⟩),
  (54, ⟨false, 1, 8, (AV.cons (AV.int .u64 0) AV.nil), [], 0, some .u64, none, false⟩),
  (62, ⟨false, 1, 4, (AV.cons (AV.int .u32 0) AV.nil), [], 0, some .u32, none, false⟩),
  (65, ⟨false, 1, 8, (AV.cons (AV.int .u64 0) AV.nil), [], 0, some .u64, none, false⟩),
  (70, ⟨true, 4, 40, (AV.cons (AV.c (.pointer none)) (AV.cons (AV.c (.pointer none)) (AV.cons (AV.c (.pointer none)) (AV.cons (AV.s ByteArray.empty) AV.nil)))), [(0, 1), (1, 1), (2, 1), (3, 1)], 0, none, none, false⟩),
  (71, ⟨true, 4, 40, (AV.cons (AV.c (.pointer none)) (AV.cons (AV.c (.pointer none)) (AV.cons (AV.c (.pointer none)) (AV.cons (AV.s ByteArray.empty) AV.nil)))), [(0, 1), (1, 1), (2, 1), (3, 1)], 0, none, none, false⟩),
  (76, ⟨false, 1, 1, (AV.cons (AV.int .u8 0) AV.nil), [], 0, some .u8, none, false⟩),
  (77, ⟨false, 1, 1, (AV.cons (AV.int .u8 0) AV.nil), [], 0, some .u8, none, false⟩),
  (79, ⟨false, 1, 4, (AV.cons (AV.int .i32 0) AV.nil), [], 0, some .i32, none, false⟩),
  (80, ⟨false, 1, 4, (AV.cons (AV.int .i32 0) AV.nil), [], 0, some .i32, none, false⟩)]
set_option maxRecDepth 100000 in
theorem tysOk : TyOk Tryd.prog tys := TyOk.of (by kernel_rfl)
end Go.Proofs.YtaopjdeigpiejaaDoor
