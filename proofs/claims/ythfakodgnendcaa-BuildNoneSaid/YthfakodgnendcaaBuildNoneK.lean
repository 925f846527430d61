import Derived.Test.YthfakodgnendcaaOpen
import Derived.Test.YthfakodgnendcaaI24
open Go Go.Proofs
set_option linter.unusedVariables false
set_option linter.unusedSimpArgs false
def G0 : Go.Code := Go.Code.region 0
  #[{ dst := some 4, op := Go.Op.assign (Go.Operand.const (Go.Value.bool false)), type := 4, pos := "law.go:35", after := #[], guard := none }] false
def G1 : Go.Code := Go.Code.region 1
  #[{ dst := some 9, op := Go.Op.move (Go.Operand.tmp 1), type := 22, pos := "law.go:36", after := #[], guard := none }, { dst := some 10, op := Go.Op.call { callee := Go.Callee.builtin Go.Builtin.len, args := #[Go.Operand.tmp 9], argTypes := #[22] }, type := 3, pos := "law.go:36", after := #[{ on := 0, ground := Go.Ground.data }], guard := none }, { dst := some 11, op := Go.Op.move (Go.Operand.const (Go.Value.int Go.IntKind.i64 0)), type := 3, pos := "law.go:36", after := #[], guard := none }] false
def G2 : Go.Code := Go.Code.region 2
  #[{ dst := some 12, op := Go.Op.binOp Go.BinOp.lss 3 (Go.Operand.tmp 11) (Go.Operand.tmp 10) 3, type := 0, pos := "law.go:36", after := #[], guard := none }] false
def G3 : Go.Code := Go.Code.region 3
  #[{ dst := some 13, op := Go.Op.indexAddr 22 (Go.Operand.tmp 9) (Go.Operand.tmp 11), type := 0, pos := "law.go:36", after := #[], guard := none }, { dst := some 14, op := Go.Op.load 33 (Go.Operand.tmp 13), type := 33, pos := "law.go:36", after := #[{ on := 0, ground := Go.Ground.data }], guard := none }, { dst := some 6, op := Go.Op.alloc 33, type := 0, pos := "law.go:36", after := #[], guard := none }, { dst := none, op := Go.Op.store 33 (Go.Operand.tmp 6) (Go.Operand.tmp 14), type := 0, pos := "law.go:36", after := #[{ on := 2, ground := Go.Ground.data }, { on := 1, ground := Go.Ground.data }, { on := 0, ground := Go.Ground.phase }, { on := 1, ground := Go.Ground.phase }, { on := 2, ground := Go.Ground.phase }], guard := none }] false
def G4 : Go.Code := Go.Code.region 4
  #[{ dst := some 15, op := Go.Op.fieldAddr 33 (Go.Operand.tmp 6) 2, type := 0, pos := "law.go:37", after := #[], guard := none }, { dst := some 16, op := Go.Op.load 31 (Go.Operand.tmp 15), type := 31, pos := "law.go:37", after := #[{ on := 0, ground := Go.Ground.data }], guard := none }, { dst := some 17, op := Go.Op.call { callee := Go.Callee.builtin Go.Builtin.len, args := #[Go.Operand.tmp 16], argTypes := #[31] }, type := 3, pos := "law.go:37", after := #[{ on := 1, ground := Go.Ground.data }], guard := none }, { dst := some 18, op := Go.Op.move (Go.Operand.const (Go.Value.int Go.IntKind.i64 0)), type := 3, pos := "law.go:37", after := #[], guard := none }] false
def G5 : Go.Code := Go.Code.region 5
  #[{ dst := some 19, op := Go.Op.binOp Go.BinOp.lss 3 (Go.Operand.tmp 18) (Go.Operand.tmp 17) 3, type := 0, pos := "law.go:37", after := #[], guard := none }] false
def G6 : Go.Code := Go.Code.region 6
  #[{ dst := some 20, op := Go.Op.indexAddr 31 (Go.Operand.tmp 16) (Go.Operand.tmp 18), type := 0, pos := "law.go:37", after := #[], guard := none }, { dst := some 21, op := Go.Op.load 39 (Go.Operand.tmp 20), type := 39, pos := "law.go:37", after := #[{ on := 0, ground := Go.Ground.data }], guard := none }, { dst := some 8, op := Go.Op.alloc 39, type := 0, pos := "law.go:37", after := #[], guard := none }, { dst := none, op := Go.Op.store 39 (Go.Operand.tmp 8) (Go.Operand.tmp 21), type := 0, pos := "law.go:37", after := #[{ on := 2, ground := Go.Ground.data }, { on := 1, ground := Go.Ground.data }, { on := 0, ground := Go.Ground.phase }, { on := 1, ground := Go.Ground.phase }, { on := 2, ground := Go.Ground.phase }], guard := none }] false
def G7 : Go.Code := Go.Code.region 7
  #[{ dst := some 22, op := Go.Op.fieldAddr 39 (Go.Operand.tmp 8) 0, type := 0, pos := "law.go:38", after := #[], guard := none }, { dst := some 23, op := Go.Op.load 9 (Go.Operand.tmp 22), type := 9, pos := "law.go:38", after := #[{ on := 0, ground := Go.Ground.data }], guard := none }, { dst := some 24, op := Go.Op.call { callee := Go.Callee.builtin Go.Builtin.len, args := #[Go.Operand.tmp 23], argTypes := #[9] }, type := 3, pos := "law.go:38", after := #[{ on := 1, ground := Go.Ground.data }], guard := none }, { dst := some 25, op := Go.Op.binOp Go.BinOp.gtr 3 (Go.Operand.tmp 24) (Go.Operand.const (Go.Value.int Go.IntKind.i64 40)) 3, type := 4, pos := "law.go:38", after := #[{ on := 2, ground := Go.Ground.data }], guard := none }] false
def G8 : Go.Code := Go.Code.region 8
  #[{ dst := some 4, op := Go.Op.assign (Go.Operand.const (Go.Value.bool true)), type := 4, pos := "law.go:39", after := #[], guard := none }] false
def G9 : Go.Code := Go.Code.region 9
  #[{ dst := some 26, op := Go.Op.binOp Go.BinOp.add 3 (Go.Operand.tmp 18) (Go.Operand.const (Go.Value.int Go.IntKind.i64 1)) 3, type := 3, pos := "law.go:37", after := #[], guard := none }, { dst := some 18, op := Go.Op.move (Go.Operand.tmp 26), type := 3, pos := "law.go:37", after := #[{ on := 0, ground := Go.Ground.data }], guard := none }] false
def G10 : Go.Code := Go.Code.region 10
  #[{ dst := some 27, op := Go.Op.fieldAddr 33 (Go.Operand.tmp 6) 2, type := 0, pos := "law.go:42", after := #[], guard := none }, { dst := some 28, op := Go.Op.load 31 (Go.Operand.tmp 27), type := 31, pos := "law.go:42", after := #[{ on := 0, ground := Go.Ground.data }], guard := none }, { dst := some 29, op := Go.Op.call { callee := Go.Callee.builtin Go.Builtin.len, args := #[Go.Operand.tmp 28], argTypes := #[31] }, type := 3, pos := "law.go:42", after := #[{ on := 1, ground := Go.Ground.data }], guard := none }, { dst := some 30, op := Go.Op.binOp Go.BinOp.gtr 3 (Go.Operand.tmp 29) (Go.Operand.const (Go.Value.int Go.IntKind.i64 30)) 3, type := 4, pos := "law.go:42", after := #[{ on := 2, ground := Go.Ground.data }], guard := none }] false
def G11 : Go.Code := Go.Code.region 11
  #[{ dst := some 4, op := Go.Op.assign (Go.Operand.const (Go.Value.bool true)), type := 4, pos := "law.go:43", after := #[], guard := none }] false
def G12 : Go.Code := Go.Code.region 12
  #[{ dst := some 31, op := Go.Op.binOp Go.BinOp.add 3 (Go.Operand.tmp 11) (Go.Operand.const (Go.Value.int Go.IntKind.i64 1)) 3, type := 3, pos := "law.go:36", after := #[], guard := none }, { dst := some 11, op := Go.Op.move (Go.Operand.tmp 31), type := 3, pos := "law.go:36", after := #[{ on := 0, ground := Go.Ground.data }], guard := none }] false
def G13 : Go.Code := Go.Code.region 13
  #[{ dst := some 32, op := Go.Op.move (Go.Operand.tmp 1), type := 22, pos := "law.go:46", after := #[], guard := none }, { dst := some 33, op := Go.Op.call { callee := Go.Callee.builtin Go.Builtin.len, args := #[Go.Operand.tmp 32], argTypes := #[22] }, type := 3, pos := "law.go:46", after := #[{ on := 0, ground := Go.Ground.data }], guard := none }, { dst := some 34, op := Go.Op.binOp Go.BinOp.gtr 3 (Go.Operand.tmp 33) (Go.Operand.const (Go.Value.int Go.IntKind.i64 16)) 3, type := 4, pos := "law.go:46", after := #[{ on := 1, ground := Go.Ground.data }], guard := none }, { dst := some 35, op := Go.Op.move (Go.Operand.tmp 34), type := 4, pos := "law.go:46", after := #[{ on := 2, ground := Go.Ground.data }], guard := none }, { dst := some 36, op := Go.Op.move (Go.Operand.tmp 0), type := 3, pos := "law.go:46", after := #[{ on := 3, ground := Go.Ground.guard }], guard := some (3, false) }, { dst := some 37, op := Go.Op.binOp Go.BinOp.gtr 3 (Go.Operand.tmp 36) (Go.Operand.const (Go.Value.int Go.IntKind.i64 300)) 3, type := 4, pos := "law.go:46", after := #[{ on := 4, ground := Go.Ground.data }, { on := 3, ground := Go.Ground.guard }], guard := some (3, false) }, { dst := some 38, op := Go.Op.pick (Go.Operand.tmp 35) (Go.Operand.const (Go.Value.bool true)) (Go.Operand.tmp 37), type := 4, pos := "law.go:46", after := #[{ on := 3, ground := Go.Ground.data }, { on := 5, ground := Go.Ground.data }], guard := none }, { dst := some 4, op := Go.Op.assign (Go.Operand.tmp 38), type := 4, pos := "law.go:46", after := #[{ on := 6, ground := Go.Ground.data }, { on := 3, ground := Go.Ground.chain }, { on := 0, ground := Go.Ground.phase }, { on := 1, ground := Go.Ground.phase }, { on := 2, ground := Go.Ground.phase }, { on := 3, ground := Go.Ground.phase }, { on := 4, ground := Go.Ground.phase }, { on := 5, ground := Go.Ground.phase }, { on := 6, ground := Go.Ground.phase }], guard := none }] false
def K0 : Go.Code := Go.Code.region 0
  #[{ dst := some 4, op := Go.Op.assign (Go.Operand.const (Go.Value.bool false)), type := 4, pos := "law.go:193", after := #[], guard := none }] false
def K1 : Go.Code := Go.Code.region 1
  #[{ dst := some 12, op := Go.Op.move (Go.Operand.tmp 0), type := 31, pos := "law.go:194", after := #[], guard := none }, { dst := some 13, op := Go.Op.build 33 #[(2, Go.Operand.tmp 12)], type := 33, pos := "law.go:194", after := #[{ on := 0, ground := Go.Ground.data }], guard := none }, { dst := some 14, op := Go.Op.buildSlice 22 1 #[(0, Go.Operand.tmp 13)], type := 22, pos := "law.go:194", after := #[{ on := 1, ground := Go.Ground.data }], guard := none }, { dst := some 15, op := Go.Op.call { callee := Go.Callee.value (Go.Operand.func 6), args := #[Go.Operand.const (Go.Value.int Go.IntKind.i64 7), Go.Operand.tmp 14], argTypes := #[3, 22] }, type := 4, pos := "law.go:194", after := #[{ on := 2, ground := Go.Ground.data }], guard := none }] false
def K2 : Go.Code := Go.Code.region 2
  #[{ dst := some 16, op := Go.Op.call { callee := Go.Callee.value (Go.Operand.func 7), args := #[], argTypes := #[] }, type := 4, pos := "law.go:195", after := #[], guard := none }, { dst := some 4, op := Go.Op.assign (Go.Operand.tmp 16), type := 4, pos := "law.go:195", after := #[{ on := 0, ground := Go.Ground.data }, { on := 0, ground := Go.Ground.chain }, { on := 0, ground := Go.Ground.phase }], guard := none }] false
def K3 : Go.Code := Go.Code.region 3
  #[{ dst := some 5, op := Go.Op.alloc 45, type := 0, pos := "law.go:197", after := #[], guard := none }] false
def K4 : Go.Code := Go.Code.region 4
  #[{ dst := some 17, op := Go.Op.buildSlice 46 2 #[(0, Go.Operand.const (Go.Value.pointer none)), (1, Go.Operand.tmp 5)], type := 46, pos := "law.go:198", after := #[], guard := none }, { dst := some 18, op := Go.Op.call { callee := Go.Callee.builtin Go.Builtin.len, args := #[Go.Operand.tmp 17], argTypes := #[46] }, type := 3, pos := "law.go:198", after := #[{ on := 0, ground := Go.Ground.data }], guard := none }, { dst := some 19, op := Go.Op.move (Go.Operand.const (Go.Value.int Go.IntKind.i64 0)), type := 3, pos := "law.go:198", after := #[], guard := none }] false
def K5 : Go.Code := Go.Code.region 5
  #[{ dst := some 20, op := Go.Op.binOp Go.BinOp.lss 3 (Go.Operand.tmp 19) (Go.Operand.tmp 18) 3, type := 0, pos := "law.go:198", after := #[], guard := none }] false
def K6 : Go.Code := Go.Code.region 6
  #[{ dst := some 21, op := Go.Op.indexAddr 46 (Go.Operand.tmp 17) (Go.Operand.tmp 19), type := 0, pos := "law.go:198", after := #[], guard := none }, { dst := some 22, op := Go.Op.load 25 (Go.Operand.tmp 21), type := 25, pos := "law.go:198", after := #[{ on := 0, ground := Go.Ground.data }], guard := none }, { dst := some 7, op := Go.Op.assign (Go.Operand.tmp 22), type := 25, pos := "law.go:198", after := #[{ on := 1, ground := Go.Ground.data }, { on := 0, ground := Go.Ground.phase }, { on := 1, ground := Go.Ground.phase }], guard := none }] false
def K7 : Go.Code := Go.Code.region 7
  #[{ dst := some 23, op := Go.Op.move (Go.Operand.tmp 7), type := 25, pos := "law.go:199", after := #[], guard := none }, { dst := some 24, op := Go.Op.call { callee := Go.Callee.value (Go.Operand.func 10), args := #[Go.Operand.tmp 23], argTypes := #[25] }, type := 0, pos := "law.go:199", after := #[{ on := 0, ground := Go.Ground.data }], guard := none }] false
def K8 : Go.Code := Go.Code.region 8
  #[{ dst := some 26, op := Go.Op.move (Go.Operand.tmp 7), type := 25, pos := "law.go:200", after := #[], guard := none }, { dst := some 27, op := Go.Op.move (Go.Operand.tmp 0), type := 31, pos := "law.go:200", after := #[], guard := none }, { dst := some 28, op := Go.Op.call { callee := Go.Callee.value (Go.Operand.func 11), args := #[Go.Operand.tmp 26, Go.Operand.tmp 27, Go.Operand.const (Go.Value.int Go.IntKind.i64 5)], argTypes := #[25, 31, 3] }, type := 34, pos := "law.go:200", after := #[{ on := 0, ground := Go.Ground.data }, { on := 1, ground := Go.Ground.data }], guard := none }, { dst := some 25, op := Go.Op.move (Go.Operand.tmp 28), type := 34, pos := "law.go:200", after := #[{ on := 2, ground := Go.Ground.data }], guard := none }, { dst := some 29, op := Go.Op.extract (Go.Operand.tmp 25) 0, type := 4, pos := "law.go:200", after := #[{ on := 3, ground := Go.Ground.data }], guard := none }, { dst := some 30, op := Go.Op.extract (Go.Operand.tmp 25) 1, type := 26, pos := "law.go:200", after := #[{ on := 3, ground := Go.Ground.data }, { on := 6, ground := Go.Ground.gcOnly Go.Departure.lateStores }], guard := none }, { dst := some 8, op := Go.Op.assign (Go.Operand.tmp 29), type := 4, pos := "law.go:200", after := #[{ on := 4, ground := Go.Ground.data }, { on := 2, ground := Go.Ground.chain }, { on := 0, ground := Go.Ground.phase }, { on := 1, ground := Go.Ground.phase }, { on := 2, ground := Go.Ground.phase }, { on := 3, ground := Go.Ground.phase }, { on := 4, ground := Go.Ground.phase }, { on := 5, ground := Go.Ground.textOnly Go.Departure.lateStores }], guard := none }, { dst := some 9, op := Go.Op.assign (Go.Operand.tmp 30), type := 26, pos := "law.go:200", after := #[{ on := 5, ground := Go.Ground.data }, { on := 6, ground := Go.Ground.chain }, { on := 0, ground := Go.Ground.phase }, { on := 1, ground := Go.Ground.phase }, { on := 2, ground := Go.Ground.phase }, { on := 3, ground := Go.Ground.phase }, { on := 4, ground := Go.Ground.phase }, { on := 5, ground := Go.Ground.phase }, { on := 6, ground := Go.Ground.phase }], guard := none }] false
def K9 : Go.Code := Go.Code.region 9
  #[{ dst := some 32, op := Go.Op.move (Go.Operand.tmp 7), type := 25, pos := "law.go:201", after := #[], guard := none }, { dst := some 33, op := Go.Op.move (Go.Operand.tmp 1), type := 3, pos := "law.go:201", after := #[], guard := none }, { dst := some 34, op := Go.Op.call { callee := Go.Callee.value (Go.Operand.func 16), args := #[Go.Operand.tmp 32, Go.Operand.tmp 33], argTypes := #[25, 3] }, type := 47, pos := "law.go:201", after := #[{ on := 0, ground := Go.Ground.data }, { on := 1, ground := Go.Ground.data }], guard := none }, { dst := some 31, op := Go.Op.move (Go.Operand.tmp 34), type := 47, pos := "law.go:201", after := #[{ on := 2, ground := Go.Ground.data }], guard := none }, { dst := some 35, op := Go.Op.extract (Go.Operand.tmp 31) 0, type := 39, pos := "law.go:201", after := #[{ on := 3, ground := Go.Ground.data }], guard := none }, { dst := some 36, op := Go.Op.extract (Go.Operand.tmp 31) 1, type := 4, pos := "law.go:201", after := #[{ on := 3, ground := Go.Ground.data }, { on := 7, ground := Go.Ground.gcOnly Go.Departure.lateStores }], guard := none }, { dst := some 10, op := Go.Op.alloc 39, type := 0, pos := "law.go:201", after := #[], guard := none }, { dst := none, op := Go.Op.store 39 (Go.Operand.tmp 10) (Go.Operand.tmp 35), type := 0, pos := "law.go:201", after := #[{ on := 6, ground := Go.Ground.data }, { on := 4, ground := Go.Ground.data }, { on := 2, ground := Go.Ground.chain }, { on := 0, ground := Go.Ground.phase }, { on := 1, ground := Go.Ground.phase }, { on := 2, ground := Go.Ground.phase }, { on := 3, ground := Go.Ground.phase }, { on := 4, ground := Go.Ground.phase }, { on := 5, ground := Go.Ground.textOnly Go.Departure.lateStores }, { on := 6, ground := Go.Ground.phase }], guard := none }, { dst := some 11, op := Go.Op.assign (Go.Operand.tmp 36), type := 4, pos := "law.go:201", after := #[{ on := 5, ground := Go.Ground.data }, { on := 7, ground := Go.Ground.chain }, { on := 0, ground := Go.Ground.phase }, { on := 1, ground := Go.Ground.phase }, { on := 2, ground := Go.Ground.phase }, { on := 3, ground := Go.Ground.phase }, { on := 4, ground := Go.Ground.phase }, { on := 5, ground := Go.Ground.phase }, { on := 6, ground := Go.Ground.phase }, { on := 7, ground := Go.Ground.phase }], guard := none }] false
def K10 : Go.Code := Go.Code.region 10
  #[{ dst := some 37, op := Go.Op.move (Go.Operand.tmp 7), type := 25, pos := "law.go:202", after := #[], guard := none }, { dst := some 38, op := Go.Op.call { callee := Go.Callee.value (Go.Operand.func 17), args := #[Go.Operand.tmp 37], argTypes := #[25] }, type := 50, pos := "law.go:202", after := #[{ on := 0, ground := Go.Ground.data }], guard := none }, { dst := some 39, op := Go.Op.binOp Go.BinOp.eql 50 (Go.Operand.tmp 38) (Go.Operand.const Go.Value.nilFunc) 50, type := 4, pos := "law.go:202", after := #[{ on := 1, ground := Go.Ground.data }], guard := none }, { dst := some 40, op := Go.Op.move (Go.Operand.tmp 39), type := 4, pos := "law.go:202", after := #[{ on := 2, ground := Go.Ground.data }, { on := 1, ground := Go.Ground.chain }], guard := none }, { dst := some 41, op := Go.Op.move (Go.Operand.tmp 7), type := 25, pos := "law.go:202", after := #[{ on := 3, ground := Go.Ground.guard }], guard := some (3, false) }, { dst := some 42, op := Go.Op.call { callee := Go.Callee.value (Go.Operand.func 18), args := #[Go.Operand.tmp 41], argTypes := #[25] }, type := 4, pos := "law.go:202", after := #[{ on := 4, ground := Go.Ground.data }, { on := 3, ground := Go.Ground.chain }, { on := 3, ground := Go.Ground.guard }], guard := some (3, false) }, { dst := some 43, op := Go.Op.pick (Go.Operand.tmp 40) (Go.Operand.const (Go.Value.bool true)) (Go.Operand.tmp 42), type := 4, pos := "law.go:202", after := #[{ on := 3, ground := Go.Ground.data }, { on := 5, ground := Go.Ground.data }], guard := none }] false
def K11 : Go.Code := Go.Code.region 11
  #[{ dst := some 4, op := Go.Op.assign (Go.Operand.const (Go.Value.bool false)), type := 4, pos := "law.go:203", after := #[], guard := none }] false
def K12 : Go.Code := Go.Code.region 12
  #[{ dst := some 44, op := Go.Op.move (Go.Operand.tmp 8), type := 4, pos := "law.go:205", after := #[], guard := none }, { dst := some 45, op := Go.Op.move (Go.Operand.tmp 44), type := 4, pos := "law.go:205", after := #[{ on := 0, ground := Go.Ground.data }], guard := none }, { dst := some 46, op := Go.Op.move (Go.Operand.tmp 9), type := 26, pos := "law.go:205", after := #[{ on := 1, ground := Go.Ground.guard }], guard := some (1, false) }, { dst := some 47, op := Go.Op.binOp Go.BinOp.neq 26 (Go.Operand.tmp 46) (Go.Operand.const (Go.Value.int Go.IntKind.i64 1)) 26, type := 4, pos := "law.go:205", after := #[{ on := 2, ground := Go.Ground.data }, { on := 1, ground := Go.Ground.guard }], guard := some (1, false) }, { dst := some 48, op := Go.Op.pick (Go.Operand.tmp 45) (Go.Operand.const (Go.Value.bool true)) (Go.Operand.tmp 47), type := 4, pos := "law.go:205", after := #[{ on := 1, ground := Go.Ground.data }, { on := 3, ground := Go.Ground.data }], guard := none }, { dst := some 49, op := Go.Op.move (Go.Operand.tmp 48), type := 4, pos := "law.go:205", after := #[{ on := 4, ground := Go.Ground.data }, { on := 1, ground := Go.Ground.chain }], guard := none }, { dst := some 50, op := Go.Op.move (Go.Operand.tmp 11), type := 4, pos := "law.go:205", after := #[{ on := 5, ground := Go.Ground.guard }], guard := some (5, false) }, { dst := some 51, op := Go.Op.pick (Go.Operand.tmp 49) (Go.Operand.const (Go.Value.bool true)) (Go.Operand.tmp 50), type := 4, pos := "law.go:205", after := #[{ on := 5, ground := Go.Ground.data }, { on := 6, ground := Go.Ground.data }], guard := none }, { dst := some 52, op := Go.Op.move (Go.Operand.tmp 51), type := 4, pos := "law.go:205", after := #[{ on := 7, ground := Go.Ground.data }, { on := 5, ground := Go.Ground.chain }], guard := none }, { dst := some 53, op := Go.Op.move (Go.Operand.tmp 7), type := 25, pos := "law.go:205", after := #[{ on := 8, ground := Go.Ground.guard }], guard := some (8, false) }, { dst := some 54, op := Go.Op.call { callee := Go.Callee.value (Go.Operand.func 13), args := #[Go.Operand.tmp 53], argTypes := #[25] }, type := 4, pos := "law.go:205", after := #[{ on := 9, ground := Go.Ground.data }, { on := 8, ground := Go.Ground.chain }, { on := 8, ground := Go.Ground.guard }], guard := some (8, false) }, { dst := some 55, op := Go.Op.pick (Go.Operand.tmp 52) (Go.Operand.const (Go.Value.bool true)) (Go.Operand.tmp 54), type := 4, pos := "law.go:205", after := #[{ on := 8, ground := Go.Ground.data }, { on := 10, ground := Go.Ground.data }], guard := none }, { dst := some 56, op := Go.Op.move (Go.Operand.tmp 55), type := 4, pos := "law.go:205", after := #[{ on := 11, ground := Go.Ground.data }, { on := 10, ground := Go.Ground.chain }], guard := none }, { dst := some 57, op := Go.Op.move (Go.Operand.tmp 7), type := 25, pos := "law.go:205", after := #[{ on := 12, ground := Go.Ground.guard }], guard := some (12, false) }, { dst := some 58, op := Go.Op.call { callee := Go.Callee.value (Go.Operand.func 12), args := #[Go.Operand.tmp 57], argTypes := #[25] }, type := 4, pos := "law.go:205", after := #[{ on := 13, ground := Go.Ground.data }, { on := 12, ground := Go.Ground.chain }, { on := 12, ground := Go.Ground.guard }], guard := some (12, false) }, { dst := some 59, op := Go.Op.pick (Go.Operand.tmp 56) (Go.Operand.const (Go.Value.bool true)) (Go.Operand.tmp 58), type := 4, pos := "law.go:205", after := #[{ on := 12, ground := Go.Ground.data }, { on := 14, ground := Go.Ground.data }], guard := none }, { dst := some 60, op := Go.Op.move (Go.Operand.tmp 59), type := 4, pos := "law.go:205", after := #[{ on := 15, ground := Go.Ground.data }, { on := 14, ground := Go.Ground.chain }], guard := none }, { dst := some 61, op := Go.Op.move (Go.Operand.tmp 7), type := 25, pos := "law.go:205", after := #[{ on := 16, ground := Go.Ground.guard }], guard := some (16, false) }, { dst := some 62, op := Go.Op.call { callee := Go.Callee.value (Go.Operand.func 19), args := #[Go.Operand.tmp 61], argTypes := #[25] }, type := 37, pos := "law.go:205", after := #[{ on := 17, ground := Go.Ground.data }, { on := 16, ground := Go.Ground.chain }, { on := 16, ground := Go.Ground.guard }], guard := some (16, false) }, { dst := some 63, op := Go.Op.binOp Go.BinOp.neq 37 (Go.Operand.tmp 62) (Go.Operand.const (Go.Value.int Go.IntKind.u64 0)) 37, type := 4, pos := "law.go:205", after := #[{ on := 18, ground := Go.Ground.data }, { on := 16, ground := Go.Ground.guard }], guard := some (16, false) }, { dst := some 64, op := Go.Op.pick (Go.Operand.tmp 60) (Go.Operand.const (Go.Value.bool true)) (Go.Operand.tmp 63), type := 4, pos := "law.go:205", after := #[{ on := 16, ground := Go.Ground.data }, { on := 19, ground := Go.Ground.data }], guard := none }, { dst := some 65, op := Go.Op.move (Go.Operand.tmp 64), type := 4, pos := "law.go:205", after := #[{ on := 20, ground := Go.Ground.data }, { on := 18, ground := Go.Ground.chain }], guard := none }, { dst := some 66, op := Go.Op.move (Go.Operand.tmp 7), type := 25, pos := "law.go:205", after := #[{ on := 21, ground := Go.Ground.guard }], guard := some (21, false) }, { dst := some 67, op := Go.Op.call { callee := Go.Callee.value (Go.Operand.func 15), args := #[Go.Operand.tmp 66], argTypes := #[25] }, type := 31, pos := "law.go:205", after := #[{ on := 22, ground := Go.Ground.data }, { on := 21, ground := Go.Ground.chain }, { on := 21, ground := Go.Ground.guard }], guard := some (21, false) }, { dst := some 68, op := Go.Op.call { callee := Go.Callee.builtin Go.Builtin.len, args := #[Go.Operand.tmp 67], argTypes := #[31] }, type := 3, pos := "law.go:205", after := #[{ on := 23, ground := Go.Ground.data }, { on := 21, ground := Go.Ground.guard }], guard := some (21, false) }, { dst := some 69, op := Go.Op.binOp Go.BinOp.neq 3 (Go.Operand.tmp 68) (Go.Operand.const (Go.Value.int Go.IntKind.i64 0)) 3, type := 4, pos := "law.go:205", after := #[{ on := 24, ground := Go.Ground.data }, { on := 21, ground := Go.Ground.guard }], guard := some (21, false) }, { dst := some 70, op := Go.Op.pick (Go.Operand.tmp 65) (Go.Operand.const (Go.Value.bool true)) (Go.Operand.tmp 69), type := 4, pos := "law.go:205", after := #[{ on := 21, ground := Go.Ground.data }, { on := 25, ground := Go.Ground.data }], guard := none }, { dst := some 71, op := Go.Op.move (Go.Operand.tmp 70), type := 4, pos := "law.go:205", after := #[{ on := 26, ground := Go.Ground.data }, { on := 23, ground := Go.Ground.chain }], guard := none }, { dst := some 72, op := Go.Op.move (Go.Operand.tmp 7), type := 25, pos := "law.go:205", after := #[{ on := 27, ground := Go.Ground.guard }], guard := some (27, false) }, { dst := some 73, op := Go.Op.call { callee := Go.Callee.value (Go.Operand.func 20), args := #[Go.Operand.tmp 72], argTypes := #[25] }, type := 25, pos := "law.go:205", after := #[{ on := 28, ground := Go.Ground.data }, { on := 27, ground := Go.Ground.chain }, { on := 27, ground := Go.Ground.guard }], guard := some (27, false) }, { dst := some 74, op := Go.Op.binOp Go.BinOp.neq 25 (Go.Operand.tmp 73) (Go.Operand.const (Go.Value.pointer none)) 25, type := 4, pos := "law.go:205", after := #[{ on := 29, ground := Go.Ground.data }, { on := 27, ground := Go.Ground.guard }], guard := some (27, false) }, { dst := some 75, op := Go.Op.pick (Go.Operand.tmp 71) (Go.Operand.const (Go.Value.bool true)) (Go.Operand.tmp 74), type := 4, pos := "law.go:205", after := #[{ on := 27, ground := Go.Ground.data }, { on := 30, ground := Go.Ground.data }], guard := none }] false
def K13 : Go.Code := Go.Code.region 13
  #[{ dst := some 4, op := Go.Op.assign (Go.Operand.const (Go.Value.bool false)), type := 4, pos := "law.go:206", after := #[], guard := none }] false
def K14 : Go.Code := Go.Code.region 14
  #[{ dst := some 76, op := Go.Op.binOp Go.BinOp.add 3 (Go.Operand.tmp 19) (Go.Operand.const (Go.Value.int Go.IntKind.i64 1)) 3, type := 3, pos := "law.go:198", after := #[], guard := none }, { dst := some 19, op := Go.Op.move (Go.Operand.tmp 76), type := 3, pos := "law.go:198", after := #[{ on := 0, ground := Go.Ground.data }], guard := none }] false
def K15 : Go.Code := Go.Code.region 15
  #[{ dst := some 77, op := Go.Op.call { callee := Go.Callee.value (Go.Operand.func 7), args := #[], argTypes := #[] }, type := 4, pos := "law.go:209", after := #[], guard := none }, { dst := some 4, op := Go.Op.assign (Go.Operand.tmp 77), type := 4, pos := "law.go:209", after := #[{ on := 0, ground := Go.Ground.data }, { on := 0, ground := Go.Ground.chain }, { on := 0, ground := Go.Ground.phase }], guard := none }] false
namespace Go.Proofs.Ythfakodgnendcaa.BuildNoneK
open Go.RowKit Go.Proofs.Ythfakodgnendcaa Go.Proofs.Ythfakodgnendcaa.Ideal
section
variable {okf : FuncId → Bool} {cf : FuncId → Array Value → IHeap → Option (Value × IHeap)} {rf : Nat → Array Value → IHeap → Option (Value × IHeap)} {n : Nat} {rd : Option Nat}
theorem xput_get (e : XEnv) (d : Nat) (v : Value) (t : Nat) : (e.put (some d) v).get t = if t < e.n then (if d = t then v else e.get t) else undef := by
  rw [XEnv.get_def, XEnv.get_def]
  unfold XEnv.put
  dsimp only
  rw [Trie.get_set _ _ _ _ _ _ _ (Nat.le_refl _) (Nat.le_refl _)]
  by_cases h : t < e.n
  · simp only [if_pos h]
  · simp only [if_neg h]
theorem put_n (e : XEnv) (d : Nat) (v : Value) : (e.put (some d) v).n = e.n := rfl
theorem put_none (e : XEnv) (v : Value) : e.put none v = e := rfl
theorem r5 (e : XEnv) (h : IHeap) (hn : e.n = 39) (j len : Nat) (h18 : e.get 18 = .int .i64 j) (h17 : e.get 17 = .int .i64 len) : xcode Try.prog okf cf rf n rd G5 e h = some (.normal, e.put (some 19) (.bool (decide ((j:Int) < len))), h) := by
  simp [G5, xcode, xops, wantedE, xop, callee1, iop, ipure, ibin, XEnv.ev, h18, h17, forceV_eq, putK_eq, quietK, kindOf]
theorem l39 (cs : List Value) (q : Nat) : loadOf Try.prog 39 cs q = (slots cs q 3).map fun vs => .agg vs.toArray := by kernel_rfl
theorem s31 : slcOf Try.prog 31 = some (39, 3) := by kernel_rfl
theorem t39 : tsize Try.prog 39 = some 3 := by kernel_rfl
theorem z39 : zeroOf Try.prog 39 = some #[.string ⟨#[]⟩, .int .i64 0, .int .u64 0] := by kernel_rfl
theorem f39 : fieldOff Try.prog 39 0 = some 0 := by kernel_rfl
theorem l9 (cs : List Value) (q : Nat) : loadOf Try.prog 9 cs q = cs[q]? := by kernel_rfl
theorem put_dfr (e : XEnv) (d : Option Nat) (v : Value) : (e.put d v).dfr = e.dfr := by cases d <;> rfl
theorem r6 (e : XEnv) (h : IHeap) (hn : e.n = 39) (j len cap : Nat) (s : ByteArray) (a b : Int) (cs : List Value) (h16 : e.get 16 = .slice (some ⟨0, 0, none⟩) len cap) (h18 : e.get 18 = .int .i64 j) (hj : j < len) (hrow : h.get 0 = some (.row true 0 cs))
    (hsl : slots cs (j * 3) 3 = some [.string s, .int .i64 a, .int .u64 b]) : ∃ e' h', xcode Try.prog okf cf rf n rd G6 e h = some (.normal, e', h') ∧ e'.n = 39 ∧ e'.dfr = e.dfr ∧ (∀ t, t < 39 → t ≠ 20 → t ≠ 21 → t ≠ 8 → e'.get t = e.get t) ∧ e'.get 8 = .pointer (some ⟨h.size, 0, none⟩) ∧ h'.size = h.size + 1 ∧ (∀ i, i < h.size → h'.get i = h.get i) ∧ h'.get h.size = some (.row false 0 [.string s, .int .i64 a, .int .u64 b]) := by
  have hsz := IHeap.get_lt hrow
  refine ⟨((e.put (some 20) (.pointer (some ⟨0, j * 3, none⟩))).put (some 21) (.agg #[.string s, .int .i64 a, .int .u64 b])).put (some 8) (.pointer (some ⟨h.size, 0, none⟩)), (h.push (.row false 0 [.string ⟨#[]⟩, .int .i64 0, .int .u64 0])).set h.size (.row false 0 [.string s, .int .i64 a, .int .u64 b]), ?_, ?_, ?_, ?_, ?_, ?_, ?_, ?_⟩
  · simp [xcode, xops, wantedE, xop, callee1, iop, icall, ipure, ibin, XEnv.ev, iload, ialloc, istore, xput_get, put_n, put_none, forceV_eq, putK_eq, pushH_eq, setH_eq, forceL_eq, quietK, kindOf, IHeap.get_push, IHeap.get_set, Value.cells, -Array.all_toList, Value.oneCell', splice, G6, h16, h18, hj, s31, hrow, l39, hsl, z39, t39, hn]
  · exact hn
  · rfl
  · intro t h0 h1 h2 h3
    simp [xput_get, put_n, hn, h0, Ne.symm h1, Ne.symm h2, Ne.symm h3]
  · simp [xput_get, put_n, hn]
  · simp
  · intro i hi
    rw [IHeap.get_set _ _ _ _ (by simp), if_neg (by omega), IHeap.get_push, if_neg (by omega)]
  · rw [IHeap.get_set _ _ _ _ (by simp), if_pos rfl]
theorem pv_pure {α : Type} (P : Program) (a : α) : pureVal P (pure a : Sem α) = some a := rfl
theorem pv_under {P : Program} {t : TypeId} {d : TypeDesc} (h : P.underlying t = some d) : pureVal P (underlying t) = some d := by
  show pureVal P (match P.underlying t with | some d => Sem.pure d | none => stuck "no such type") = some d
  rw [h]
  rfl
theorem iplain_lenS {P : Program} {ev : Operand → Value} {o : Oper} {x : Operand} {t : TypeId} {s : ByteArray} (ho : o.op = .call { callee := .builtin .len, args := #[x], argTypes := #[t] }) (hv : ev x = .string s) (ht : P.underlying t = some .string) : iplain P ev o = some (.int .i64 s.size) := by
  have h1 : pureVal P (execOp ev o) = some (.value (.int .i64 s.size)) := by
    simp only [execOp, ho, resolve, invoke, builtin, Builtin.len_, pureVal_bind, pv_pure, Option.bind_some, List.map_toArray, List.map_cons, List.map_nil, hv, goInt]
    have g0 : (#[t] : Array TypeId)[0]? = some t := rfl
    have g1 : (#[.string s] : Array Value)[0]? = some (.string s) := rfl
    simp only [g0, g1, pureVal_bind, pv_pure, Option.bind_some, pv_under ht]
    first | rfl | skip
  unfold iplain
  rw [ho] at *
  simp [Op.operands, Call.operands, hv, plainV, scal, h1]
theorem u9 : Try.prog.underlying 9 = some .string := by kernel_rfl
theorem r7 (e : XEnv) (h : IHeap) (hn : e.n = 39) (i : Nat) (s : ByteArray) (a b : Int) (h8 : e.get 8 = .pointer (some ⟨i, 0, none⟩)) (hrow : h.get i = some (.row false 0 [.string s, .int .i64 a, .int .u64 b])) :
    ∃ e', xcode Try.prog okf cf rf n rd G7 e h = some (.normal, e', h) ∧ e'.n = 39 ∧ e'.dfr = e.dfr ∧ (∀ t, t < 39 → t ≠ 22 → t ≠ 23 → t ≠ 24 → t ≠ 25 → e'.get t = e.get t) ∧ ∃ q, e'.get 25 = .bool q := by
  refine ⟨(((e.put (some 22) (.pointer (some ⟨i, 0, none⟩))).put (some 23) (.string s)).put (some 24) (.int .i64 s.size)).put (some 25) (.bool (decide ((40 : Int) < s.size))), ?_, ?_, ?_, ?_, ?_⟩
  · have hl := iplain_lenS (P := Try.prog) (ev := ((e.put (some 22) (.pointer (some ⟨i, 0, none⟩))).put (some 23) (.string s)).ev) (o := { dst := some 24, op := Op.call { callee := Callee.builtin Builtin.len, args := #[Operand.tmp 23], argTypes := #[9] }, type := 3, pos := "law.go:38", after := #[{ on := 1, ground := Ground.data }], guard := none }) (s := s) rfl (by simp [XEnv.ev, xput_get, put_n, hn]) u9
    simp [xcode, xops, wantedE, xop, callee1, iop, icall, ipure, ibin, XEnv.ev, iload, ialloc, istore, xput_get, put_n, put_none, forceV_eq, putK_eq, pushH_eq, setH_eq, forceL_eq, quietK, kindOf, IHeap.get_push, IHeap.get_set, Value.cells, -Array.all_toList, Value.oneCell', splice, G7, h8, f39, hrow, l9, hn, hl, u9]
    done
  · exact hn
  · rfl
  · intro t h0 h1 h2 h3 h4
    simp [xput_get, put_n, hn, h0, Ne.symm h1, Ne.symm h2, Ne.symm h3, Ne.symm h4]
  · exact ⟨_, by simp [xput_get, put_n, hn]; rfl⟩

def IB : Code := .seq G5 (.seq (.cond (.tmp 19) .skip (.exit 2)) (.seq (.block 3 (.seq G6 (.seq G7 (.cond (.tmp 25) (.seq G8 .ret) .skip)))) G9))
def IL : Code := .block 2 (.loop IB)
def OB : Code := .seq G2 (.seq (.cond (.tmp 12) .skip (.exit 0)) (.seq (.block 1 (.seq G3 (.seq (.seq G4 IL) (.seq G10 (.cond (.tmp 30) (.seq G11 .ret) .skip))))) G12))
def C6 : Code := .seq G0 (.seq (.seq G1 (.block 0 (.loop OB))) (.seq G13 .ret))
theorem shape6 : Try.f6.body = some C6 := by kernel_rfl
theorem r8 (e : XEnv) (h : IHeap) : xcode Try.prog okf cf rf n rd G8 e h = some (.normal, e.put (some 4) (.bool true), h) := by simp [xcode, xops, wantedE, xop, callee1, iop, icall, ipure, ibin, XEnv.ev, iload, ialloc, istore, xput_get, put_n, put_none, forceV_eq, putK_eq, pushH_eq, setH_eq, forceL_eq, quietK, kindOf, IHeap.get_push, IHeap.get_set, Value.cells, -Array.all_toList, Value.oneCell', splice, G8]
theorem r9 (e : XEnv) (h : IHeap) (hn : e.n = 39) (j : Nat) (hj : j + 1 < 9223372036854775808) (h18 : e.get 18 = .int .i64 j) : xcode Try.prog okf cf rf n rd G9 e h = some (.normal, (e.put (some 26) (.int .i64 (j + 1 : Nat))).put (some 18) (.int .i64 (j + 1 : Nat)), h) := by
  have hw : IntKind.i64.wrap ((j : Int) + 1) = ((j + 1 : Nat) : Int) := by rw [wrap_in _ (by omega) (by omega)]; rfl
  simp [xcode, xops, wantedE, xop, callee1, iop, icall, ipure, ibin, XEnv.ev, iload, ialloc, istore, xput_get, put_n, put_none, forceV_eq, putK_eq, pushH_eq, setH_eq, forceL_eq, quietK, kindOf, IHeap.get_push, IHeap.get_set, Value.cells, -Array.all_toList, Value.oneCell', splice, G9, h18, hw, hn]
/-- What the loop keeps. -/
structure GInv (cs : List Value) (len cap : Nat) (e : XEnv) (h : IHeap) (j : Nat) (h0 : IHeap) : Prop where
  n : e.n = 39
  dfr : e.dfr = []
  t16 : e.get 16 = .slice (some ⟨0, 0, none⟩) len cap
  t17 : e.get 17 = .int .i64 len
  t18 : e.get 18 = .int .i64 j
  sz : h0.size ≤ h.size
  old : ∀ i, i < h0.size → h.get i = h0.get i
theorem inner {cs : List Value} {len cap : Nat} {h0 : IHeap} (hrow : h0.get 0 = some (.row true 0 cs)) (hlen : len < 9223372036854775808) (hsl : ∀ j, j < len → ∃ (s : ByteArray) (a b : Int), slots cs (j * 3) 3 = some [.string s, .int .i64 a, .int .u64 b]) :
    ∀ (k j : Nat) (e : XEnv) (h : IHeap), j + k = len → GInv cs len cap e h j h0 → ∀ m, k < m → ∃ x e' h', xloop (fun e h => xcode Try.prog okf cf rf n rd IB e h) m e h = some (x, e', h') ∧ ((x = .ret ∧ e'.get 4 = .bool true) ∨ (x = .exit 2 ∧ (∀ t, t < 39 → t ≠ 18 → t ≠ 19 → t ≠ 20 → t ≠ 21 → t ≠ 8 → t ≠ 22 → t ≠ 23 → t ≠ 24 → t ≠ 25 → t ≠ 26 → e'.get t = e.get t))) ∧ e'.n = 39 ∧ e'.dfr = [] ∧ h0.size ≤ h'.size ∧ ∀ i, i < h0.size → h'.get i = h0.get i := by
  have hz := IHeap.get_lt hrow
  intro k
  induction k with
  | zero =>
    intro j e h hj iv m hm
    obtain ⟨m, rfl⟩ : ∃ q, m = q + 1 := ⟨m - 1, by omega⟩
    have hj : j = len := by omega
    subst hj
    refine ⟨.exit 2, e.put (some 19) (.bool false), h, ?_, .inr ⟨rfl, ?_⟩, iv.n, iv.dfr, iv.sz, iv.old⟩
    · simp [xloop, IB, xcode, r5 e h iv.n j j iv.t18 iv.t17, XEnv.ev, xput_get, iv.n]
    · intro t ht a1 a2 _ _ _ _ _ _ _ _
      simp [xput_get, iv.n, ht, Ne.symm a2]
  | succ k ih =>
    intro j e h hj iv m hm
    obtain ⟨m, rfl⟩ : ∃ q, m = q + 1 := ⟨m - 1, by omega⟩
    have hjl : j < len := by omega
    obtain ⟨s, a, b, hs⟩ := hsl j hjl
    have e5 := r5 (okf := okf) (cf := cf) (rf := rf) (n := n) (rd := rd) e h iv.n j len iv.t18 iv.t17
    rw [show decide ((j : Int) < len) = true from decide_eq_true (by omega)] at e5
    have hrow1 : h.get 0 = some (.row true 0 cs) := by rw [iv.old 0 hz]; exact hrow
    obtain ⟨e6, h6, g1, g2, g3, g4, g5, g6, g7, g8⟩ := r6 (okf := okf) (cf := cf) (rf := rf) (n := n) (rd := rd) (e.put (some 19) (.bool true)) h iv.n j len cap s a b cs (by simp [xput_get, iv.n, iv.t16]) (by simp [xput_get, iv.n, iv.t18]) hjl hrow1 hs
    obtain ⟨e7, k1, k2, k3, k4, q, k5⟩ := r7 (okf := okf) (cf := cf) (rf := rf) (n := n) (rd := rd) e6 h6 g2 h.size s a b g5 g8
    have old6 : ∀ i, i < h0.size → h6.get i = h0.get i := fun i hi => by rw [g7 i (by have := iv.sz; omega)]; exact iv.old i hi
    cases q with
    | true =>
      refine ⟨.ret, e7.put (some 4) (.bool true), h6, ?_, .inl ⟨rfl, by simp [xput_get, k2]⟩, k2, by rw [put_dfr, k3, g3, put_dfr]; exact iv.dfr, by have := iv.sz; omega, old6⟩
      simp [xloop, IB, xcode, e5, XEnv.ev, xput_get, iv.n, g1, k1, k5, r8, outOf]
    | false =>
      have t18 : e7.get 18 = .int .i64 j := by
        rw [k4 18 (by omega) (by omega) (by omega) (by omega) (by omega), g4 18 (by omega) (by omega) (by omega) (by omega)]
        simp [xput_get, iv.n, iv.t18]
      have e9 := r9 (okf := okf) (cf := cf) (rf := rf) (n := n) (rd := rd) e7 h6 k2 j (by omega) t18
      have keep : ∀ t, t < 39 → t ≠ 18 → t ≠ 19 → t ≠ 20 → t ≠ 21 → t ≠ 8 → t ≠ 22 → t ≠ 23 → t ≠ 24 → t ≠ 25 → t ≠ 26 → ((e7.put (some 26) (.int .i64 (j + 1 : Nat))).put (some 18) (.int .i64 (j + 1 : Nat))).get t = e.get t := by
        intro t ht a1 a2 a3 a4 a5 a6 a7 a8 a9 a10
        simp only [xput_get, put_n, k2, if_pos ht, if_neg (Ne.symm a1), if_neg (Ne.symm a10)]
        rw [k4 t ht a6 a7 a8 a9, g4 t ht a3 a4 a5]
        simp [xput_get, iv.n, ht, Ne.symm a2]
      obtain ⟨x, e', h', c1, c2, c3, c4, c5, c6⟩ := ih (j + 1) ((e7.put (some 26) (.int .i64 (j + 1 : Nat))).put (some 18) (.int .i64 (j + 1 : Nat))) h6 (by omega) ⟨k2, by rw [put_dfr, put_dfr, k3, g3, put_dfr]; exact iv.dfr, by rw [keep 16 (by omega) (by omega) (by omega) (by omega) (by omega) (by omega) (by omega) (by omega) (by omega) (by omega) (by omega)]; exact iv.t16, by rw [keep 17 (by omega) (by omega) (by omega) (by omega) (by omega) (by omega) (by omega) (by omega) (by omega) (by omega) (by omega)]; exact iv.t17, by simp [xput_get, put_n, k2], by have := iv.sz; omega, old6⟩ m (by omega)
      refine ⟨x, e', h', ?_, ?_, c3, c4, c5, c6⟩
      · rw [← c1]
        conv => lhs; unfold xloop
        simp [IB, xcode, e5, XEnv.ev, xput_get, iv.n, g1, k1, k5, outOf, e9]
      · rcases c2 with c2 | ⟨c2, c2'⟩
        · exact .inl c2
        · exact .inr ⟨c2, fun t ht a1 a2 a3 a4 a5 a6 a7 a8 a9 a10 => by rw [c2' t ht a1 a2 a3 a4 a5 a6 a7 a8 a9 a10, keep t ht a1 a2 a3 a4 a5 a6 a7 a8 a9 a10]⟩

theorem u22 : Try.prog.underlying 22 = some (.slice 33) := by kernel_rfl
theorem u31 : Try.prog.underlying 31 = some (.slice 39) := by kernel_rfl
theorem s22 : slcOf Try.prog 22 = some (33, 3) := by kernel_rfl
theorem m22 : mapOf Try.prog 22 = none := by kernel_rfl
theorem m31 : mapOf Try.prog 31 = none := by kernel_rfl
theorem l33 (cs : List Value) (q : Nat) : loadOf Try.prog 33 cs q = (slots cs q 3).map fun vs => .agg vs.toArray := by kernel_rfl
theorem l31 (cs : List Value) (q : Nat) : loadOf Try.prog 31 cs q = cs[q]? := by kernel_rfl
theorem z33 : zeroOf Try.prog 33 = some #[.int .i64 0, .int .i64 0, .slice none 0 0] := by kernel_rfl
theorem t33 : tsize Try.prog 33 = some 3 := by kernel_rfl
theorem f33 : fieldOff Try.prog 33 2 = some 2 := by kernel_rfl
theorem g0 (e : XEnv) (h : IHeap) : xcode Try.prog okf cf rf n rd G0 e h = some (.normal, e.put (some 4) (.bool false), h) := by simp [xcode, xops, wantedE, xop, callee1, iop, icall, ipure, ibin, XEnv.ev, iload, ialloc, istore, xput_get, put_n, put_none, forceV_eq, putK_eq, pushH_eq, setH_eq, forceL_eq, quietK, kindOf, IHeap.get_push, IHeap.get_set, Value.cells, -Array.all_toList, Value.oneCell', splice, G0]
theorem g1 (e : XEnv) (h : IHeap) (hn : e.n = 39) (h1 : e.get 1 = .slice (some ⟨1, 0, none⟩) 1 1) : xcode Try.prog okf cf rf n rd G1 e h = some (.normal, ((e.put (some 9) (.slice (some ⟨1, 0, none⟩) 1 1)).put (some 10) (.int .i64 1)).put (some 11) (.int .i64 0), h) := by
  simp [xcode, xops, wantedE, xop, callee1, iop, icall, ipure, ibin, XEnv.ev, iload, ialloc, istore, xput_get, put_n, put_none, forceV_eq, putK_eq, pushH_eq, setH_eq, forceL_eq, quietK, kindOf, IHeap.get_push, IHeap.get_set, Value.cells, -Array.all_toList, Value.oneCell', splice, G1, h1, hn, u22, m22]
theorem g2 (e : XEnv) (h : IHeap) (hn : e.n = 39) (a b : Int) (h11 : e.get 11 = .int .i64 a) (h10 : e.get 10 = .int .i64 b) : xcode Try.prog okf cf rf n rd G2 e h = some (.normal, e.put (some 12) (.bool (decide (a < b))), h) := by
  simp [xcode, xops, wantedE, xop, callee1, iop, icall, ipure, ibin, XEnv.ev, iload, ialloc, istore, xput_get, put_n, put_none, forceV_eq, putK_eq, pushH_eq, setH_eq, forceL_eq, quietK, kindOf, IHeap.get_push, IHeap.get_set, Value.cells, -Array.all_toList, Value.oneCell', splice, G2, h11, h10, hn]
def RW (len cap : Nat) : List Value := [.int .i64 0, .int .i64 0, .slice (some ⟨0, 0, none⟩) len cap]
theorem slots3 (a b c : Value) : slots [a, b, c] 0 3 = some [a, b, c] := by simp [slots]
theorem g3 (e : XEnv) (h : IHeap) (hn : e.n = 39) (len cap : Nat) (h9 : e.get 9 = .slice (some ⟨1, 0, none⟩) 1 1) (h11 : e.get 11 = .int .i64 0) (hrow : h.get 1 = some (.row true 3 (RW len cap))) :
    xcode Try.prog okf cf rf n rd G3 e h = some (.normal, ((e.put (some 13) (.pointer (some ⟨1, 0, none⟩))).put (some 14) (.agg (RW len cap).toArray)).put (some 6) (.pointer (some ⟨h.size, 0, none⟩)), (h.push (.row false 0 [.int .i64 0, .int .i64 0, .slice none 0 0])).set h.size (.row false 0 (RW len cap))) := by
  unfold RW at hrow ⊢
  simp [xcode, xops, wantedE, xop, callee1, iop, icall, ipure, ibin, XEnv.ev, iload, ialloc, istore, xput_get, put_n, put_none, forceV_eq, putK_eq, pushH_eq, setH_eq, forceL_eq, quietK, kindOf, IHeap.get_push, IHeap.get_set, Value.cells, -Array.all_toList, Value.oneCell', splice, G3, h9, h11, s22, hrow, l33, slots3, z33, t33, hn]
theorem g4 (e : XEnv) (h : IHeap) (hn : e.n = 39) (len cap i : Nat) (h6 : e.get 6 = .pointer (some ⟨i, 0, none⟩)) (hrow : h.get i = some (.row false 0 (RW len cap))) :
    xcode Try.prog okf cf rf n rd G4 e h = some (.normal, (((e.put (some 15) (.pointer (some ⟨i, 2, none⟩))).put (some 16) (.slice (some ⟨0, 0, none⟩) len cap)).put (some 17) (.int .i64 len)).put (some 18) (.int .i64 0), h) := by
  unfold RW at hrow
  simp [xcode, xops, wantedE, xop, callee1, iop, icall, ipure, ibin, XEnv.ev, iload, ialloc, istore, xput_get, put_n, put_none, forceV_eq, putK_eq, pushH_eq, setH_eq, forceL_eq, quietK, kindOf, IHeap.get_push, IHeap.get_set, Value.cells, -Array.all_toList, Value.oneCell', splice, G4, h6, f33, hrow, l31, u31, m31, hn]
theorem g10 (e : XEnv) (h : IHeap) (hn : e.n = 39) (len cap i : Nat) (h6 : e.get 6 = .pointer (some ⟨i, 0, none⟩)) (hrow : h.get i = some (.row false 0 (RW len cap))) :
    xcode Try.prog okf cf rf n rd G10 e h = some (.normal, (((e.put (some 27) (.pointer (some ⟨i, 2, none⟩))).put (some 28) (.slice (some ⟨0, 0, none⟩) len cap)).put (some 29) (.int .i64 len)).put (some 30) (.bool (decide ((30 : Int) < len))), h) := by
  unfold RW at hrow
  simp [xcode, xops, wantedE, xop, callee1, iop, icall, ipure, ibin, XEnv.ev, iload, ialloc, istore, xput_get, put_n, put_none, forceV_eq, putK_eq, pushH_eq, setH_eq, forceL_eq, quietK, kindOf, IHeap.get_push, IHeap.get_set, Value.cells, -Array.all_toList, Value.oneCell', splice, G10, h6, f33, hrow, l31, u31, m31, hn]
theorem g11 (e : XEnv) (h : IHeap) : xcode Try.prog okf cf rf n rd G11 e h = some (.normal, e.put (some 4) (.bool true), h) := by simp [xcode, xops, wantedE, xop, callee1, iop, icall, ipure, ibin, XEnv.ev, iload, ialloc, istore, xput_get, put_n, put_none, forceV_eq, putK_eq, pushH_eq, setH_eq, forceL_eq, quietK, kindOf, IHeap.get_push, IHeap.get_set, Value.cells, -Array.all_toList, Value.oneCell', splice, G11]
theorem g12 (e : XEnv) (h : IHeap) (hn : e.n = 39) (h11 : e.get 11 = .int .i64 0) : xcode Try.prog okf cf rf n rd G12 e h = some (.normal, (e.put (some 31) (.int .i64 1)).put (some 11) (.int .i64 1), h) := by
  have hw : IntKind.i64.wrap 1 = 1 := by decide
  simp [xcode, xops, wantedE, xop, callee1, iop, icall, ipure, ibin, XEnv.ev, iload, ialloc, istore, xput_get, put_n, put_none, forceV_eq, putK_eq, pushH_eq, setH_eq, forceL_eq, quietK, kindOf, IHeap.get_push, IHeap.get_set, Value.cells, -Array.all_toList, Value.oneCell', splice, G12, h11, hn, hw]
theorem g13 (e : XEnv) (h : IHeap) (hn : e.n = 39) (h1 : e.get 1 = .slice (some ⟨1, 0, none⟩) 1 1) (h0 : e.get 0 = .int .i64 7) : ∃ e', xcode Try.prog okf cf rf n rd G13 e h = some (.normal, e', h) ∧ e'.n = 39 ∧ e'.dfr = e.dfr ∧ e'.get 4 = .bool false := by
  simp [xcode, xops, wantedE, xop, callee1, iop, icall, ipure, ibin, XEnv.ev, iload, ialloc, istore, xput_get, put_n, put_none, forceV_eq, putK_eq, pushH_eq, setH_eq, forceL_eq, quietK, kindOf, IHeap.get_push, IHeap.get_set, Value.cells, -Array.all_toList, Value.oneCell', splice, G13, h1, h0, hn, u22, m22]
  rfl

/-- The first heap: the list's rows, the one operation. -/
def H2 (cs : List Value) (len cap : Nat) : IHeap := { size := 2, t := .node (.node .leaf (.row true 3 (RW len cap)) .leaf) (.row true 0 cs) .leaf }
theorem H2_0 (cs : List Value) (len cap : Nat) : (H2 cs len cap).get 0 = some (.row true 0 cs) := rfl
theorem H2_1 (cs : List Value) (len cap : Nat) : (H2 cs len cap).get 1 = some (.row true 3 (RW len cap)) := rfl
def A6 : Array Value := #[.int .i64 7, .slice (some ⟨1, 0, none⟩) 1 1]
theorem e0_get0 : (startE Try.f6 A6).get 0 = .int .i64 7 := rfl
theorem e0_get1 : (startE Try.f6 A6).get 1 = .slice (some ⟨1, 0, none⟩) 1 1 := rfl
theorem e0_n : (startE Try.f6 A6).n = 39 := by kernel_rfl
theorem e0_dfr : (startE Try.f6 A6).dfr = [] := rfl
theorem fin6 {e : XEnv} {h : IHeap} {x : Exit} {b : Bool} (hx : x = .normal ∨ x = .ret) (hd : e.dfr = []) (h4 : e.get 4 = .bool b) : finX Try.prog Try.f6 (some (x, e, h)) = some (.bool b, h) := by
  have hr : Try.f6.results.toList = [.tmp 4] := by kernel_rfl
  rcases hx with rfl | rfl <;> simp [finX, hd, marksOf, closeMarks, iresultsE, hr, ires1E, h4]
theorem great_ex {cs : List Value} {len cap : Nat} (hlen : len < 9223372036854775808) (hsl : ∀ j, j < len → ∃ (s : ByteArray) (a b : Int), slots cs (j * 3) 3 = some [.string s, .int .i64 a, .int .u64 b]) (m : Nat) (hm : len + 2 < m) :
    ∃ b h', finX Try.prog Try.f6 (xcode Try.prog okf cf rf m none C6 (startE Try.f6 A6) (H2 cs len cap)) = some (.bool b, h') := by
  have E0 := e0_n
  generalize he0 : startE Try.f6 A6 = e0 at E0
  have q0 : e0.get 0 = .int .i64 7 := by rw [← he0]; exact e0_get0
  have q1 : e0.get 1 = .slice (some ⟨1, 0, none⟩) 1 1 := by rw [← he0]; exact e0_get1
  have qd : e0.dfr = [] := by rw [← he0]; exact e0_dfr
  clear he0
  -- what stands ahead of the loop
  obtain ⟨e1, p1, p2, p3, p4, p5, p6, p7, p8, p9⟩ : ∃ e1 : XEnv, e1 = (((e0.put (some 4) (.bool false)).put (some 9) (.slice (some ⟨1, 0, none⟩) 1 1)).put (some 10) (.int .i64 1)).put (some 11) (.int .i64 0) ∧ e1.n = 39 ∧ e1.dfr = [] ∧ e1.get 0 = .int .i64 7 ∧ e1.get 1 = .slice (some ⟨1, 0, none⟩) 1 1 ∧ e1.get 9 = .slice (some ⟨1, 0, none⟩) 1 1 ∧ e1.get 10 = .int .i64 1 ∧ e1.get 11 = .int .i64 0 ∧ e1.get 4 = .bool false :=
    ⟨_, rfl, E0, by simp only [put_dfr]; exact qd, by simp [xput_get, put_n, E0, q0], by simp [xput_get, put_n, E0, q1], by simp [xput_get, put_n, E0], by simp [xput_get, put_n, E0], by simp [xput_get, put_n, E0], by simp [xput_get, put_n, E0]⟩
  have c0 := g0 (okf := okf) (cf := cf) (rf := rf) (n := m) (rd := none) e0 (H2 cs len cap)
  have c1 := g1 (okf := okf) (cf := cf) (rf := rf) (n := m) (rd := none) (e0.put (some 4) (.bool false)) (H2 cs len cap) E0 (by simp [xput_get, E0, q1])
  rw [← p1] at c1
  -- the round
  have c2 := g2 (okf := okf) (cf := cf) (rf := rf) (n := m) (rd := none) e1 (H2 cs len cap) p2 0 1 p8 p7
  rw [show decide ((0 : Int) < 1) = true from rfl] at c2
  have c3 := g3 (okf := okf) (cf := cf) (rf := rf) (n := m) (rd := none) (e1.put (some 12) (.bool true)) (H2 cs len cap) p2 len cap (by simp [xput_get, p2, p6]) (by simp [xput_get, p2, p8]) (H2_1 cs len cap)
  obtain ⟨h3, hh3, s3, o0, o2⟩ : ∃ h3 : IHeap, h3 = ((H2 cs len cap).push (.row false 0 [.int .i64 0, .int .i64 0, .slice none 0 0])).set (H2 cs len cap).size (.row false 0 (RW len cap)) ∧ h3.size = 3 ∧ h3.get 0 = some (.row true 0 cs) ∧ h3.get 2 = some (.row false 0 (RW len cap)) := by
    refine ⟨_, rfl, rfl, ?_, ?_⟩
    · rw [IHeap.get_set _ _ _ _ (by simp), if_neg (by show ¬ 2 = 0; omega), IHeap.get_push, if_neg (by show ¬ 0 = 2; omega)]; rfl
    · rw [IHeap.get_set _ _ _ _ (by simp), if_pos (show (H2 cs len cap).size = 2 from rfl)]
  rw [← hh3, show (H2 cs len cap).size = 2 from rfl] at c3
  obtain ⟨e3, r1, r2, r3, r4, r5', r6'⟩ : ∃ e3 : XEnv, e3 = (((e1.put (some 12) (.bool true)).put (some 13) (.pointer (some ⟨1, 0, none⟩))).put (some 14) (.agg (RW len cap).toArray)).put (some 6) (.pointer (some ⟨2, 0, none⟩)) ∧ e3.n = 39 ∧ e3.dfr = [] ∧ e3.get 6 = .pointer (some ⟨2, 0, none⟩) ∧ (∀ t, t = 0 ∨ t = 1 ∨ t = 9 ∨ t = 10 ∨ t = 11 ∨ t = 4 → e3.get t = e1.get t) ∧ True :=
    ⟨_, rfl, p2, by simp only [put_dfr]; exact p3, by simp [xput_get, put_n, p2], by rintro t (rfl | rfl | rfl | rfl | rfl | rfl) <;> simp [xput_get, put_n, p2], trivial⟩
  rw [← r1] at c3
  have c4 := g4 (okf := okf) (cf := cf) (rf := rf) (n := m) (rd := none) e3 h3 r2 len cap 2 r4 o2
  obtain ⟨e4, w1, w2, w3, w4, w5⟩ : ∃ e4 : XEnv, e4 = (((e3.put (some 15) (.pointer (some ⟨2, 2, none⟩))).put (some 16) (.slice (some ⟨0, 0, none⟩) len cap)).put (some 17) (.int .i64 len)).put (some 18) (.int .i64 0) ∧ e4.n = 39 ∧ e4.dfr = [] ∧ GInv cs len cap e4 h3 0 h3 ∧ (∀ t, t = 0 ∨ t = 1 ∨ t = 9 ∨ t = 10 ∨ t = 11 ∨ t = 4 ∨ t = 6 → e4.get t = e3.get t) :=
    ⟨_, rfl, r2, by simp only [put_dfr]; exact r3, ⟨r2, by simp only [put_dfr]; exact r3, by simp [xput_get, put_n, r2], by simp [xput_get, put_n, r2], by simp [xput_get, put_n, r2], Nat.le_refl _, fun _ _ => rfl⟩, by rintro t (rfl | rfl | rfl | rfl | rfl | rfl | rfl) <;> simp [xput_get, put_n, r2]⟩
  rw [← w1] at c4
  obtain ⟨x, e5, h5, d1, d2, d3, d4, d5, d6⟩ := inner (okf := okf) (cf := cf) (rf := rf) (n := m) (rd := none) o0 hlen hsl len 0 e4 h3 (by omega) w4 m (by omega)
  have hin : xcode Try.prog okf cf rf m none IL e4 h3 = some (outOf 2 x, e5, h5) := by simp [IL, xcode, d1]
  clear d1
  obtain ⟨m, rfl⟩ : ∃ q, m = q + 1 + 1 := ⟨m - 2, by omega⟩
  rcases d2 with ⟨rfl, d4'⟩ | ⟨rfl, dk⟩
  · refine ⟨true, h5, ?_⟩
    have : xcode Try.prog okf cf rf (m + 1 + 1) none C6 e0 (H2 cs len cap) = some (.ret, e5, h5) := by
      simp [C6, OB, xcode, c0, c1, xloop, c2, XEnv.ev, xput_get, p2, c3, c4, hin, outOf]
    rw [this]
    exact fin6 (.inr rfl) d4 d4'
  · have k6 : e5.get 6 = .pointer (some ⟨2, 0, none⟩) := by rw [dk 6 (by omega) (by omega) (by omega) (by omega) (by omega) (by omega) (by omega) (by omega) (by omega) (by omega) (by omega), w5 6 (by simp), r4]
    have kk : ∀ t, t = 0 ∨ t = 1 ∨ t = 9 ∨ t = 10 ∨ t = 11 ∨ t = 4 → e5.get t = e1.get t := by
      intro t ht
      have hb : t < 39 ∧ t ≠ 18 ∧ t ≠ 19 ∧ t ≠ 20 ∧ t ≠ 21 ∧ t ≠ 8 ∧ t ≠ 22 ∧ t ≠ 23 ∧ t ≠ 24 ∧ t ≠ 25 ∧ t ≠ 26 := by omega
      obtain ⟨a0, a1, a2, a3, a4, a5, a6, a7, a8, a9, a10⟩ := hb
      rw [dk t a0 a1 a2 a3 a4 a5 a6 a7 a8 a9 a10, w5 t (by omega), r5' t ht]
    have o5 : h5.get 2 = some (.row false 0 (RW len cap)) := by rw [d6 2 (by omega)]; exact o2
    have c10 := g10 (okf := okf) (cf := cf) (rf := rf) (n := m + 1 + 1) (rd := none) e5 h5 d3 len cap 2 k6 o5
    by_cases hb : (30 : Int) < len
    · rw [decide_eq_true hb] at c10
      refine ⟨true, h5, ?_⟩
      have : xcode Try.prog okf cf rf (m + 1 + 1) none C6 e0 (H2 cs len cap) = some (.ret, ((((e5.put (some 27) (.pointer (some ⟨2, 2, none⟩))).put (some 28) (.slice (some ⟨0, 0, none⟩) len cap)).put (some 29) (.int .i64 len)).put (some 30) (.bool true)).put (some 4) (.bool true), h5) := by
        simp [C6, OB, xcode, c0, c1, xloop, c2, XEnv.ev, xput_get, put_n, p2, c3, c4, hin, d3, outOf, c10, g11]
      rw [this]
      exact fin6 (.inr rfl) (by simp only [put_dfr]; exact d4) (by simp [xput_get, put_n, d3])
    · rw [decide_eq_false hb] at c10
      generalize hE : (((e5.put (some 27) (.pointer (some ⟨2, 2, none⟩))).put (some 28) (.slice (some ⟨0, 0, none⟩) len cap)).put (some 29) (.int .i64 len)).put (some 30) (.bool false) = e6 at c10
      have f1 : e6.n = 39 := by rw [← hE]; exact d3
      have f2 : e6.dfr = [] := by rw [← hE]; simp only [put_dfr]; exact d4
      have f3 : ∀ t, t = 0 ∨ t = 1 ∨ t = 9 ∨ t = 10 ∨ t = 11 ∨ t = 4 → e6.get t = e1.get t := by
        rintro t ht
        rw [← kk t ht, ← hE]
        rcases ht with rfl | rfl | rfl | rfl | rfl | rfl <;> simp [xput_get, put_n, d3]
      have f30 : e6.get 30 = .bool false := by rw [← hE]; simp [xput_get, put_n, d3]
      have c12 := g12 (okf := okf) (cf := cf) (rf := rf) (n := m + 1 + 1) (rd := none) e6 h5 f1 (by rw [f3 11 (by simp), p8])
      have c2' := g2 (okf := okf) (cf := cf) (rf := rf) (n := m + 1 + 1) (rd := none) ((e6.put (some 31) (.int .i64 1)).put (some 11) (.int .i64 1)) h5 f1 1 1 (by simp [xput_get, put_n, f1]) (by simp [xput_get, put_n, f1]; rw [f3 10 (by simp), p7])
      rw [show decide ((1 : Int) < 1) = false from rfl] at c2'
      obtain ⟨e7, t1, t2, t3, t4⟩ := g13 (okf := okf) (cf := cf) (rf := rf) (n := m + 1 + 1) (rd := none) (((e6.put (some 31) (.int .i64 1)).put (some 11) (.int .i64 1)).put (some 12) (.bool false)) h5 f1 (by simp [xput_get, put_n, f1]; rw [f3 1 (by simp), p5]) (by simp [xput_get, put_n, f1]; rw [f3 0 (by simp), p4])
      refine ⟨false, h5, ?_⟩
      have : xcode Try.prog okf cf rf (m + 1 + 1) none C6 e0 (H2 cs len cap) = some (.ret, e7, h5) := by
        simp [C6, OB, xcode, c0, c1, xloop, c2, XEnv.ev, xput_get, put_n, p2, c3, c4, hin, d3, outOf, c10, f30, f1, c12, c2', t1]
      rw [this]
      exact fin6 (.inr rfl) (by rw [t3]; simp only [put_dfr]; exact f2) t4

end
def cut2 (ρ : Rho) : Rho := fun i => if i < 2 then ρ i else none
theorem cut2_slice {ρ : Rho} {i n c : Nat} {v : Value} (hi : i < 2) (h : VRel ρ (.slice (some ⟨i, 0, none⟩) n c) v) : VRel (cut2 ρ) (.slice (some ⟨i, 0, none⟩) n c) v := by
  cases h with
  | base h => simp [scal] at h
  | slc h hc => exact .slc (by unfold cut2; rw [if_pos hi]; exact h) hc
  | slc0 => exact .slc0
theorem cut2_models {ρ : Rho} {w : World} {cs : List Value} {len cap : Nat} (hpl : ∀ v ∈ cs, plainV v = true) (hm : Models ρ ((ro1 cs).push (.row false 3 (RW len cap))) w) : Models (cut2 ρ) (H2 cs len cap) w := by
  have hg0 : ((ro1 cs).push (.row false 3 (RW len cap))).get 0 = some (.row true 0 cs) := rfl
  have hg1 : ((ro1 cs).push (.row false 3 (RW len cap))).get 1 = some (.row false 3 (RW len cap)) := rfl
  refine ⟨fun i R o hg hr => ?_, fun i j R R' h1 h2 he d1 d2 => ?_, fun i R hr => ?_⟩
  · have hi : i < 2 := IHeap.get_lt hg
    unfold cut2 at hr
    rw [if_pos hi] at hr
    match i, hi with
    | 0, _ =>
      rw [H2_0] at hg
      cases hg
      obtain ⟨ob, hb, ho⟩ := hm.obj 0 R _ hg0 hr
      cases ho with
      | row hfr he hr hs h => exact ⟨_, hb, .row hfr he hr hs (fun i v hv => by
          obtain ⟨v', a1, a2⟩ := h i v hv
          have hp := hpl v (List.mem_of_getElem? hv)
          rw [plain_eq hp a2] at a1
          exact ⟨v, a1, plain_rel hp⟩)⟩
    | 1, _ =>
      rw [H2_1] at hg
      cases hg
      obtain ⟨ob, hb, ho⟩ := hm.obj 1 R _ hg1 hr
      cases ho with
      | row hfr he hr hs h => exact ⟨_, hb, .row (fun h => by cases h) he hr hs (fun i v hv => by
          obtain ⟨v', a1, a2⟩ := h i v hv
          refine ⟨v', a1, ?_⟩
          unfold RW at hv
          match i with
          | 0 => cases hv; rw [scal_eq rfl a2]; exact .base rfl
          | 1 => cases hv; rw [scal_eq rfl a2]; exact .base rfl
          | 2 => cases hv; exact cut2_slice (by omega) a2
          | i + 3 => cases hv)⟩
  · have f : ∀ i R, cut2 ρ i = some R → i < 2 ∧ ρ i = some R := fun i R h => by
      unfold cut2 at h
      split at h
      · exact ⟨by assumption, h⟩
      · cases h
    obtain ⟨a1, a2⟩ := f i R h1
    obtain ⟨b1, b2⟩ := f j R' h2
    have nd : ∀ i, i < 2 → ((ro1 cs).push (.row false 3 (RW len cap))).get i ≠ some .dead := fun i hi => by
      match i, hi with
      | 0, _ => rw [hg0]; simp
      | 1, _ => rw [hg1]; simp
    exact hm.inj i j R R' a2 b2 he (nd i a1) (nd j b1)
  · unfold cut2 at hr
    split at hr
    · exact hm.lt i R hr
    · cases hr
theorem cut2_args {ρ : Rho} {args' : Array Value} (h : ARel ρ A6 args') : ARel (cut2 ρ) A6 args' := by
  refine ⟨h.1, fun i hi => ?_⟩
  have hi' : i < 2 := hi
  have := h.2 i hi
  match i, hi' with
  | 0, _ =>
    have e := scal_eq (show scal (.int .i64 7) = true from rfl) this
    rw [e]; exact .base rfl
  | 1, _ => exact cut2_slice (by omega) this
/-- The function 'great': some bool, and memory stays. -/
theorem great_call {L : List Nat} (hL : ∀ g ∈ L, fnB Try.prog g = true) (h6 : inL L 6 = true) {cs : List Value} {len cap : Nat} (hlen : len < 9223372036854775808) (hpl : ∀ v ∈ cs, plainV v = true) (hsl : ∀ j, j < len → ∃ (s : ByteArray) (a b : Int), slots cs (j * 3) 3 = some [.string s, .int .i64 a, .int .u64 b]) :
    ∃ b, ICall Try.prog 6 A6 ((ro1 cs).push (.row false 3 (RW len cap))) (.bool b) ((ro1 cs).push (.row false 3 (RW len cap))) := by
  have hH : HOk (H2 cs len cap) := fun i L0 hg => by
    have hi : i < 2 := IHeap.get_lt hg
    match i, hi with
    | 0, _ => rw [H2_0] at hg; cases hg
    | 1, _ => rw [H2_1] at hg; cases hg
  obtain ⟨b, h', hx⟩ := great_ex (okf := inL L) (cf := (xpair Try.prog (inL L) (len + 3) 0).1) (rf := (xpair Try.prog (inL L) (len + 3) 0).2) (cap := cap) hlen hsl (len + 3) (by omega)
  rw [← xcall_body (n := 0) h6 Try.func6 shape6] at hx
  have hc := (xcall_ok (fns_ok hL) (by kernel_rfl) hH hx).1
  refine ⟨b, .of_below rfl (fun ρ w args' ha hm => ?_)⟩
  refine (hc.run (cut2 ρ) w args' (cut2_args ha) (cut2_models hpl hm) (fun i hi _ => ?_)).mono ?_
  · unfold cut2
    rw [if_neg (by have : 2 ≤ i := hi; omega)]
  · rintro e W' ⟨ρ', v', rfl, s, m, hv⟩
    rw [hv.bool_inv]
    refine ⟨rfl, s.os, s.tape, s.output, s.wsize, fun b hb => s.keep b hb (fun i R o hg _ _ => ?_)⟩
    have hi : i < 2 := IHeap.get_lt hg
    match i, hi with
    | 0, _ => rw [H2_0] at hg; cases hg; exact .inl rfl
    | 1, _ => rw [H2_1] at hg; cases hg; exact .inl rfl
open Classical in
noncomputable def kf (f : FuncId) (args : Array Value) (h : IHeap) : Option Value := cond (Nat.beq f 6) (if hx : ∃ b, ICall Try.prog f args h (.bool b) h then some (.bool (Classical.choose hx)) else none) none
theorem kf_ok (f : FuncId) (args : Array Value) (h : IHeap) (v : Value) (hk : kf f args h = some v) : ICall Try.prog f args h v h := by
  unfold kf at hk
  cases hb : Nat.beq f 6 with
  | false => rw [hb] at hk; cases hk
  | true =>
    rw [hb] at hk
    simp only [cond_true] at hk
    split at hk
    · rename_i hx
      cases hk
      exact Classical.choose_spec hx
    · cases hk
theorem kf_6 {args : Array Value} {h : IHeap} (hx : ∃ b, ICall Try.prog 6 args h (.bool b) h) : ∃ b, kf 6 args h = some (.bool b) := by
  refine ⟨Classical.choose hx, ?_⟩
  unfold kf
  rw [show Nat.beq 6 6 = true from rfl, cond_true, dif_pos hx]
theorem b33 (len cap : Nat) : buildOf Try.prog 33 [(2, .slice (some ⟨0, 0, none⟩) len cap)] = some (.agg (RW len cap).toArray) := by kernel_rfl
theorem fl22 (len cap : Nat) : Instr.fill (fun i => some (i * 3, 3)) (zeros #[.int .i64 0, .int .i64 0, .slice none 0 0] 1).toArray [(0, .agg (RW len cap).toArray)] = some (RW len cap).toArray := by kernel_rfl
section
variable {okf : FuncId → Bool} {cf : FuncId → Array Value → IHeap → Option (Value × IHeap)} {rf : Nat → Array Value → IHeap → Option (Value × IHeap)} {n : Nat} {rd : Option Nat}
def E1 (e : XEnv) (len cap : Nat) (b : Bool) : XEnv := (((e.put (some 12) (.slice (some ⟨0, 0, none⟩) len cap)).put (some 13) (.agg (RW len cap).toArray)).put (some 14) (.slice (some ⟨1, 0, none⟩) 1 1)).put (some 15) (.bool b)
def H1 (cs : List Value) (len cap : Nat) : IHeap := (ro1 cs).push (.row false 3 (RW len cap))
theorem k1 (e : XEnv) (cs : List Value) (len cap : Nat) (b : Bool) (hn : e.n = 78) (h0 : e.get 0 = .slice (some ⟨0, 0, none⟩) len cap) (hok : okf 6 = true) (hcf : cf 6 A6 (H1 cs len cap) = some (.bool b, H1 cs len cap)) :
    xcode Try.prog okf cf rf n rd K1 e (ro1 cs) = some (.normal, E1 e len cap b, H1 cs len cap) := by
  unfold A6 H1 at hcf
  have hs : (ro1 cs).size = 1 := rfl
  unfold E1 H1
  simp [xcode, xops, wantedE, xop, callee1, iop, icall, ipure, ibin, XEnv.ev, iload, ialloc, istore, xput_get, put_n, put_none, forceV_eq, putK_eq, pushH_eq, setH_eq, forceL_eq, quietK, kindOf, IHeap.get_push, IHeap.get_set, Value.cells, -Array.all_toList, Value.oneCell', splice, K1, h0, hn, b33, s22, z33, fl22, ibuildSlice, hs, hok, hcf]
end
noncomputable def fns : List Nat := [4, 6, 7, 8, 10, 11, 12, 13, 15, 16, 17, 18, 19, 20, 23, 27, 28, 29, 30, 31, 32, 33, 34, 35, 36, 37, 41, 42, 46, 47, 48, 49, 50, 56, 57, 58, 59, 60, 61, 62, 63, 64, 67, 68, 69, 70, 71, 72, 73, 75, 76, 77, 78, 79, 80, 81, 82, 83, 84, 86, 87, 90, 91, 92, 93, 94, 95, 98]
theorem ok4 : fnB Try.prog 4 = true := by kernel_rfl
theorem ok6 : fnB Try.prog 6 = true := by kernel_rfl
theorem ok7 : fnB Try.prog 7 = true := by kernel_rfl
theorem ok8 : fnB Try.prog 8 = true := by kernel_rfl
theorem ok10 : fnB Try.prog 10 = true := by kernel_rfl
theorem ok11 : fnB Try.prog 11 = true := by kernel_rfl
theorem ok12 : fnB Try.prog 12 = true := by kernel_rfl
theorem ok13 : fnB Try.prog 13 = true := by kernel_rfl
theorem ok15 : fnB Try.prog 15 = true := by kernel_rfl
theorem ok16 : fnB Try.prog 16 = true := by kernel_rfl
theorem ok17 : fnB Try.prog 17 = true := by kernel_rfl
theorem ok18 : fnB Try.prog 18 = true := by kernel_rfl
theorem ok19 : fnB Try.prog 19 = true := by kernel_rfl
theorem ok20 : fnB Try.prog 20 = true := by kernel_rfl
theorem ok23 : fnB Try.prog 23 = true := by kernel_rfl
theorem ok27 : fnB Try.prog 27 = true := by kernel_rfl
theorem ok28 : fnB Try.prog 28 = true := by kernel_rfl
theorem ok29 : fnB Try.prog 29 = true := by kernel_rfl
theorem ok30 : fnB Try.prog 30 = true := by kernel_rfl
theorem ok31 : fnB Try.prog 31 = true := by kernel_rfl
theorem ok32 : fnB Try.prog 32 = true := by kernel_rfl
theorem ok33 : fnB Try.prog 33 = true := by kernel_rfl
theorem ok34 : fnB Try.prog 34 = true := by kernel_rfl
theorem ok35 : fnB Try.prog 35 = true := by kernel_rfl
theorem ok36 : fnB Try.prog 36 = true := by kernel_rfl
theorem ok37 : fnB Try.prog 37 = true := by kernel_rfl
theorem ok41 : fnB Try.prog 41 = true := by kernel_rfl
theorem ok42 : fnB Try.prog 42 = true := by kernel_rfl
theorem ok46 : fnB Try.prog 46 = true := by kernel_rfl
theorem ok47 : fnB Try.prog 47 = true := by kernel_rfl
theorem ok48 : fnB Try.prog 48 = true := by kernel_rfl
theorem ok49 : fnB Try.prog 49 = true := by kernel_rfl
theorem ok50 : fnB Try.prog 50 = true := by kernel_rfl
theorem ok56 : fnB Try.prog 56 = true := by kernel_rfl
theorem ok57 : fnB Try.prog 57 = true := by kernel_rfl
theorem ok58 : fnB Try.prog 58 = true := by kernel_rfl
theorem ok59 : fnB Try.prog 59 = true := by kernel_rfl
theorem ok60 : fnB Try.prog 60 = true := by kernel_rfl
theorem ok61 : fnB Try.prog 61 = true := by kernel_rfl
theorem ok62 : fnB Try.prog 62 = true := by kernel_rfl
theorem ok63 : fnB Try.prog 63 = true := by kernel_rfl
theorem ok64 : fnB Try.prog 64 = true := by kernel_rfl
theorem ok67 : fnB Try.prog 67 = true := by kernel_rfl
theorem ok68 : fnB Try.prog 68 = true := by kernel_rfl
theorem ok69 : fnB Try.prog 69 = true := by kernel_rfl
theorem ok70 : fnB Try.prog 70 = true := by kernel_rfl
theorem ok71 : fnB Try.prog 71 = true := by kernel_rfl
theorem ok72 : fnB Try.prog 72 = true := by kernel_rfl
theorem ok73 : fnB Try.prog 73 = true := by kernel_rfl
theorem ok75 : fnB Try.prog 75 = true := by kernel_rfl
theorem ok76 : fnB Try.prog 76 = true := by kernel_rfl
theorem ok77 : fnB Try.prog 77 = true := by kernel_rfl
theorem ok78 : fnB Try.prog 78 = true := by kernel_rfl
theorem ok79 : fnB Try.prog 79 = true := by kernel_rfl
theorem ok80 : fnB Try.prog 80 = true := by kernel_rfl
theorem ok81 : fnB Try.prog 81 = true := by kernel_rfl
theorem ok82 : fnB Try.prog 82 = true := by kernel_rfl
theorem ok83 : fnB Try.prog 83 = true := by kernel_rfl
theorem ok84 : fnB Try.prog 84 = true := by kernel_rfl
theorem ok86 : fnB Try.prog 86 = true := by kernel_rfl
theorem ok87 : fnB Try.prog 87 = true := by kernel_rfl
theorem ok90 : fnB Try.prog 90 = true := by kernel_rfl
theorem ok91 : fnB Try.prog 91 = true := by kernel_rfl
theorem ok92 : fnB Try.prog 92 = true := by kernel_rfl
theorem ok93 : fnB Try.prog 93 = true := by kernel_rfl
theorem ok94 : fnB Try.prog 94 = true := by kernel_rfl
theorem ok95 : fnB Try.prog 95 = true := by kernel_rfl
theorem ok98 : fnB Try.prog 98 = true := by kernel_rfl
theorem oks : ∀ g ∈ fns, fnB Try.prog g = true := by
  intro g hg
  simp only [fns, List.mem_cons, List.not_mem_nil, or_false] at hg
  rcases hg with rfl | rfl | rfl | rfl | rfl | rfl | rfl | rfl | rfl | rfl | rfl | rfl | rfl | rfl | rfl | rfl | rfl | rfl | rfl | rfl | rfl | rfl | rfl | rfl | rfl | rfl | rfl | rfl | rfl | rfl | rfl | rfl | rfl | rfl | rfl | rfl | rfl | rfl | rfl | rfl | rfl | rfl | rfl | rfl | rfl | rfl | rfl | rfl | rfl | rfl | rfl | rfl | rfl | rfl | rfl | rfl | rfl | rfl | rfl | rfl | rfl | rfl | rfl | rfl | rfl | rfl | rfl | rfl
  · exact ok4
  · exact ok6
  · exact ok7
  · exact ok8
  · exact ok10
  · exact ok11
  · exact ok12
  · exact ok13
  · exact ok15
  · exact ok16
  · exact ok17
  · exact ok18
  · exact ok19
  · exact ok20
  · exact ok23
  · exact ok27
  · exact ok28
  · exact ok29
  · exact ok30
  · exact ok31
  · exact ok32
  · exact ok33
  · exact ok34
  · exact ok35
  · exact ok36
  · exact ok37
  · exact ok41
  · exact ok42
  · exact ok46
  · exact ok47
  · exact ok48
  · exact ok49
  · exact ok50
  · exact ok56
  · exact ok57
  · exact ok58
  · exact ok59
  · exact ok60
  · exact ok61
  · exact ok62
  · exact ok63
  · exact ok64
  · exact ok67
  · exact ok68
  · exact ok69
  · exact ok70
  · exact ok71
  · exact ok72
  · exact ok73
  · exact ok75
  · exact ok76
  · exact ok77
  · exact ok78
  · exact ok79
  · exact ok80
  · exact ok81
  · exact ok82
  · exact ok83
  · exact ok84
  · exact ok86
  · exact ok87
  · exact ok90
  · exact ok91
  · exact ok92
  · exact ok93
  · exact ok94
  · exact ok95
  · exact ok98
theorem xcode_seq' {P : Program} {okf : FuncId → Bool} {cf : FuncId → Array Value → IHeap → Option (Value × IHeap)} {rf : Nat → Array Value → IHeap → Option (Value × IHeap)} {n : Nat} {rd : Option Nat} {x y : Code} {e e1 : XEnv} {h h1 : IHeap} (hx : xcode P okf cf rf n rd x e h = some (.normal, e1, h1)) :
    xcode P okf cf rf n rd (.seq x y) e h = xcode P okf cf rf n rd y e1 h1 := by
  conv => lhs; unfold xcode
  rw [hx]
noncomputable def C4 : Code := (Try.f4.body).getD .skip
noncomputable def D4 : Code := sqR (sqL (sqR C4))
theorem body4 : Try.f4.body = some C4 := by kernel_rfl
theorem shape4 : C4 = .seq (sqL C4) (.seq (.seq K1 (.cond (cdO D4) (cdT D4) (cdF D4))) (sqR (sqR C4))) := by kernel_rfl
noncomputable def E0 (cs : List Value) (len cap : Nat) (slot : Int) : XEnv := getE (xcode Try.prog (inL fns) (xpairC Try.prog (inL fns) kf 100000 199).1 (xpairC Try.prog (inL fns) kf 100000 199).2 100000 none (sqL C4) (startE Try.f4 #[.slice (some ⟨0, 0, none⟩) len cap, .int .i64 slot]) (ro1 cs))
theorem c0_run (cs : List Value) (len cap : Nat) (slot : Int) : xcode Try.prog (inL fns) (xpairC Try.prog (inL fns) kf 100000 199).1 (xpairC Try.prog (inL fns) kf 100000 199).2 100000 none (sqL C4) (startE Try.f4 #[.slice (some ⟨0, 0, none⟩) len cap, .int .i64 slot]) (ro1 cs) = some (.normal, E0 cs len cap slot, ro1 cs) := by kernel_rfl
theorem E0_n (cs : List Value) (len cap : Nat) (slot : Int) : (E0 cs len cap slot).n = 78 := by kernel_rfl
theorem E0_0 (cs : List Value) (len cap : Nat) (slot : Int) : (E0 cs len cap slot).get 0 = .slice (some ⟨0, 0, none⟩) len cap := by kernel_rfl
theorem ev15 (cs : List Value) (len cap : Nat) (slot : Int) (b : Bool) : (E1 (E0 cs len cap slot) len cap b).ev (cdO D4) = .bool b := by kernel_rfl
theorem br (cs : List Value) (len cap : Nat) (slot : Int) (b : Bool) : isT (finX Try.prog Try.f4 (xcode Try.prog (inL fns) (xpairC Try.prog (inL fns) kf 100000 199).1 (xpairC Try.prog (inL fns) kf 100000 199).2 100000 none (.seq (if b then cdT D4 else cdF D4) (sqR (sqR C4))) (E1 (E0 cs len cap slot) len cap b) (H1 cs len cap))) = true := by
  cases b
  · kernel_rfl
  · kernel_rfl
theorem xpairC_kf {P : Program} {okf : FuncId → Bool} {kf : FuncId → Array Value → IHeap → Option Value} {m n : Nat} {f : FuncId} {args : Array Value} {h : IHeap} {v : Value} (hk : kf f args h = some v) : (xpairC P okf kf m (n + 1)).1 f args h = some (v, h) := by
  simp only [xpairC, hk]
theorem law_run {cs : List Value} {len cap : Nat} (slot : Int) (hx : ∃ b, ICall Try.prog 6 A6 (H1 cs len cap) (.bool b) (H1 cs len cap)) : isT (xcallC Try.prog (inL fns) kf 100000 (199 + 1) 4 #[.slice (some ⟨0, 0, none⟩) len cap, .int .i64 slot] (ro1 cs)) = true := by
  obtain ⟨b, hb⟩ := kf_6 hx
  have hcf : (xpairC Try.prog (inL fns) kf 100000 (198 + 1)).1 6 A6 (H1 cs len cap) = some (.bool b, H1 cs len cap) := by
    exact xpairC_kf hb
  have k := k1 (okf := inL fns) (cf := (xpairC Try.prog (inL fns) kf 100000 199).1) (rf := (xpairC Try.prog (inL fns) kf 100000 199).2) (n := 100000) (rd := none) (E0 cs len cap slot) cs len cap b (E0_n _ _ _ _) (E0_0 _ _ _ _) (by kernel_rfl) hcf
  rw [xcallC_body (fn := Try.f4) (c := C4) (by kernel_rfl) (by kernel_rfl) Try.func4 body4, shape4, xcode_seq' (c0_run cs len cap slot), xcode_assoc, xcode_seq' k, xcode_cond (ev15 cs len cap slot b)]
  exact br cs len cap slot b
theorem flat_slots : ∀ (rows : List (List Value)), (∀ r ∈ rows, ∃ (s : ByteArray) (a b : Int), r = [.string s, .int .i64 a, .int .u64 b]) → ∀ j, j < rows.length → ∃ (s : ByteArray) (a b : Int), slots rows.flatten (j * 3) 3 = some [.string s, .int .i64 a, .int .u64 b]
  | [], _, j, hj => by simp at hj
  | r :: rows, h, 0, _ => by
    obtain ⟨s, a, b, rfl⟩ := h r (by simp)
    exact ⟨s, a, b, by simp [slots]⟩
  | r :: rows, h, j + 1, hj => by
    obtain ⟨s, a, b, rfl⟩ := h r (by simp)
    obtain ⟨s', a', b', ih⟩ := flat_slots rows (fun r hr => h r (by simp [hr])) j (by simpa using hj)
    refine ⟨s', a', b', ?_⟩
    unfold slots at ih ⊢
    split at ih
    · rename_i hle
      rw [show (j + 1) * 3 = j * 3 + 3 by omega, List.flatten_cons]
      rw [if_pos (by simp only [List.length_append, List.length_cons, List.length_nil]; omega)]
      have : ([Value.string s, .int .i64 a, .int .u64 b] ++ rows.flatten).drop (j * 3 + 3) = rows.flatten.drop (j * 3) := by
        simp [List.drop_succ_cons]
      rw [this]
      exact ih
    · cases ih
theorem flat_plain (rows : List (List Value)) (h : ∀ r ∈ rows, ∃ (s : ByteArray) (a b : Int), r = [.string s, .int .i64 a, .int .u64 b]) : ∀ v ∈ rows.flatten, plainV v = true := by
  intro v hv
  obtain ⟨r, hr, hv⟩ := List.mem_flatten.1 hv
  obtain ⟨s, a, b, rfl⟩ := h r hr
  simp at hv
  rcases hv with rfl | rfl | rfl <;> rfl
theorem h6 : inL fns 6 = true := by kernel_rfl
theorem law_icall {rows : List (List Value)} {cap : Nat} (slot : Int) (hlen : rows.length < 9223372036854775808) (hr : ∀ r ∈ rows, ∃ (s : ByteArray) (a b : Int), r = [.string s, .int .i64 a, .int .u64 b]) :
    ∃ h', ICall Try.prog 4 #[.slice (some ⟨0, 0, none⟩) rows.length cap, .int .i64 slot] (ro1 rows.flatten) (.bool true) h' := by
  obtain ⟨b, hb⟩ := great_call oks h6 (cs := rows.flatten) (cap := cap) hlen (flat_plain rows hr) (flat_slots rows hr)
  obtain ⟨h', hx⟩ := isT_some (law_run (cs := rows.flatten) (cap := cap) slot ⟨b, hb⟩)
  exact ⟨h', (xcallC_ok (fns_ok oks) (by kernel_rfl) kf_ok (ro1_ok _) hx).1⟩
theorem cell_cells {w : World} {x : Addr} {v : Value} (h : w.cell? x = some v) : x.spot = none ∧ ∃ c e fr, w.heap[x.block]? = some (.cells c e fr) ∧ c[x.off]? = some v := by
  obtain ⟨b, q, s⟩ := x
  unfold World.cell? at h
  dsimp only at h
  split at h
  · rename_i c e fr hb
    cases s with
    | none => exact ⟨rfl, c, e, fr, hb, by simpa using h⟩
    | some u => simp at h
  · cases h
theorem ro1_only {cs : List Value} : ∀ i o, (ro1 cs).get i = some o → o.isRo = true ∨ o = .dead := fun i o hg => by
  have := (ro1_get hg).2
  subst this
  exact .inl rfl
theorem walk (A : Option Addr) (len cap : Nat) (rows : List (List Value)) (slot : Int) (W : World) (w0 : rows.length = len ∧ len ≤ cap ∧ (A = none → len = 0 ∧ cap = 0) ∧ cap ≤ maxLen ∧ (∀ r ∈ rows, Leaves W [.str, .int .i64, .int .u64] r) ∧ Cells W A rows.flatten)
    (t0 : ∀ x, A = some x → cap ≠ 0 → ∃ v, W.cell? x = some v) (w1 : (Lit.int .i64 slot).wf = true) : Calls Try.prog 4 #[.slice A len cap, .int .i64 slot] W fun e W' => e = .returned (.bool true) ∧ Below W.heap.size W W' := by
  obtain ⟨rfl, hlc, hnil, hmax, hlv, hcells⟩ := w0
  have hmx : maxLen = 9223372036854775807 := by decide
  have hr : ∀ r ∈ rows, ∃ (s : ByteArray) (a b : Int), r = [.string s, .int .i64 a, .int .u64 b] := by
    intro r hm
    obtain ⟨_, t1, rfl, ⟨s, rfl, _⟩, l1⟩ := (hlv r hm).cons_inv
    obtain ⟨_, t2, rfl, ⟨a, rfl, _⟩, l2⟩ := l1.cons_inv
    obtain ⟨_, t3, rfl, ⟨b, rfl, _⟩, l3⟩ := l2.cons_inv
    obtain rfl := List.eq_nil_of_length_eq_zero l3.1
    exact ⟨s, a, b, rfl⟩
  obtain ⟨h', hcall⟩ := law_icall (cap := cap) slot (by omega) hr
  cases A with
  | none =>
    obtain ⟨h1, h2⟩ := hnil rfl
    rw [h1, h2]
    exact calls_run oks (by kernel_rfl) (m := 100000) (n := 200) (by kernel_rfl) (by kernel_rfl) W
  | some x =>
    by_cases h0 : cap = 0
    · subst h0
      have hz : rows.length = 0 := by omega
      obtain rfl := List.eq_nil_of_length_eq_zero hz
      refine calls_init hcall (ρ := fun _ => none) (arel2 .slc0 (.base rfl)) ⟨(fun i R o _ h => by cases h), (fun i j R R' h => by cases h), (fun i R h => by cases h)⟩ (fun _ _ => rfl) ro1_only
    · obtain ⟨v, hv⟩ := t0 x rfl h0
      obtain ⟨hs, c, e, fr, hb, hcv⟩ := cell_cells hv
      obtain ⟨b, q, s⟩ := x
      dsimp only at hs hb hcv
      subst hs
      have hq : q < c.size := (Array.getElem?_eq_some_iff.1 hcv).1
      have hc : ∀ (i : Nat) (u : Value), rows.flatten[i]? = some u → c[q + i]? = some u := by
        intro i u hu
        have hp : 0 < rows.flatten.length := by have := (List.getElem?_eq_some_iff.1 hu).1; omega
        obtain ⟨b', q', e1, e2⟩ := hcells hp
        cases e1
        obtain ⟨_, c', e', fr', hb', hcv'⟩ := cell_cells (e2 i u hu)
        dsimp only at hb' hcv'
        rw [hb] at hb'
        cases hb'
        exact hcv'
      have hsz : q + rows.flatten.length ≤ c.size := by
        by_cases hp : rows.flatten.length = 0
        · omega
        · have hl : rows.flatten.length - 1 < rows.flatten.length := by omega
          have := hc (rows.flatten.length - 1) _ (List.getElem?_eq_getElem hl)
          have := (Array.getElem?_eq_some_iff.1 this).1
          omega
      have hm := ro1_models (W := W) (cs := rows.flatten) hb hsz (fun i u hu => ⟨hc i u hu, flat_plain rows hr u (List.mem_of_getElem? hu)⟩)
      refine calls_init hcall (ρ := rhoR b q c.size) (arel2 ?_ (.base rfl)) hm (fun i hi => ?_) ro1_only
      · have h : rhoR b q c.size 0 = some ⟨b, q, c.size, 0⟩ := rfl
        have := VRel.slc (o := 0) (n := rows.length) (c := cap) h (.inl rfl)
        simpa using this
      · unfold rhoR
        rw [if_neg (by have : 1 ≤ i := hi; omega)]
end Go.Proofs.Ythfakodgnendcaa.BuildNoneK
