import Derived.Test.YtmobpbhbllhdcaaI25
import Derived.Test.YtmobpbhbllhdcaaProg
noncomputable section
open Go.Proofs
namespace Go.Proofs.Ytmobpbhbllhdcaa.Ideal
@[simp] theorem ts0 : tsize Try.prog 0 = some 1 := by kernel_rfl
@[simp] theorem ld0 (cs : List Value) (q : Nat) : loadOf Try.prog 0 cs q = cs[q]? := by kernel_rfl
@[simp] theorem po0 (cs : Array Value) (q : Nat) : partOf Try.prog 0 cs q = cs[q]? := by kernel_rfl
@[simp] theorem un0 : Try.prog.underlying 0 = some (TypeDesc.tuple { toList := [] }) := by kernel_rfl
@[simp] theorem bt0 : (Try.prog.info? 0).map (·.bytes) = some 0 := by kernel_rfl
@[simp] theorem ts1 : tsize Try.prog 1 = some 1 := by kernel_rfl
@[simp] theorem ld1 (cs : List Value) (q : Nat) : loadOf Try.prog 1 cs q = cs[q]? := by kernel_rfl
@[simp] theorem po1 (cs : Array Value) (q : Nat) : partOf Try.prog 1 cs q = cs[q]? := by kernel_rfl
@[simp] theorem ze1 : zeroOf Try.prog 1 = some { toList := [Value.nilFunc] } := by kernel_rfl
@[simp] theorem un1 : Try.prog.underlying 1 = some (TypeDesc.func { toList := [] } { toList := [] } false) := by kernel_rfl
@[simp] theorem bt1 : (Try.prog.info? 1).map (·.bytes) = some 8 := by kernel_rfl
@[simp] theorem ts2 : tsize Try.prog 2 = some 1 := by kernel_rfl
@[simp] theorem ld2 (cs : List Value) (q : Nat) : loadOf Try.prog 2 cs q = cs[q]? := by kernel_rfl
@[simp] theorem po2 (cs : Array Value) (q : Nat) : partOf Try.prog 2 cs q = cs[q]? := by kernel_rfl
@[simp] theorem ze2 : zeroOf Try.prog 2 = some { toList := [Value.int IntKind.i64 (0)] } := by kernel_rfl
@[simp] theorem un2 : Try.prog.underlying 2 = some (TypeDesc.int IntKind.i64) := by kernel_rfl
@[simp] theorem bt2 : (Try.prog.info? 2).map (·.bytes) = some 8 := by kernel_rfl
@[simp] theorem ts3 : tsize Try.prog 3 = some 1 := by kernel_rfl
@[simp] theorem ld3 (cs : List Value) (q : Nat) : loadOf Try.prog 3 cs q = cs[q]? := by kernel_rfl
@[simp] theorem po3 (cs : Array Value) (q : Nat) : partOf Try.prog 3 cs q = cs[q]? := by kernel_rfl
@[simp] theorem ze3 : zeroOf Try.prog 3 = some { toList := [Value.int IntKind.i64 (0)] } := by kernel_rfl
@[simp] theorem un3 : Try.prog.underlying 3 = some (TypeDesc.int IntKind.i64) := by kernel_rfl
@[simp] theorem bt3 : (Try.prog.info? 3).map (·.bytes) = some 8 := by kernel_rfl
@[simp] theorem ts4 : tsize Try.prog 4 = some 1 := by kernel_rfl
@[simp] theorem ld4 (cs : List Value) (q : Nat) : loadOf Try.prog 4 cs q = cs[q]? := by kernel_rfl
@[simp] theorem po4 (cs : Array Value) (q : Nat) : partOf Try.prog 4 cs q = cs[q]? := by kernel_rfl
@[simp] theorem ze4 : zeroOf Try.prog 4 = some { toList := [Value.bool false] } := by kernel_rfl
@[simp] theorem un4 : Try.prog.underlying 4 = some TypeDesc.bool := by kernel_rfl
@[simp] theorem bt4 : (Try.prog.info? 4).map (·.bytes) = some 1 := by kernel_rfl
@[simp] theorem ts5 : tsize Try.prog 5 = some 1 := by kernel_rfl
@[simp] theorem ld5 (cs : List Value) (q : Nat) : loadOf Try.prog 5 cs q = cs[q]? := by kernel_rfl
@[simp] theorem po5 (cs : Array Value) (q : Nat) : partOf Try.prog 5 cs q = cs[q]? := by kernel_rfl
@[simp] theorem ze5 : zeroOf Try.prog 5 = some { toList := [Value.int IntKind.u8 (0)] } := by kernel_rfl
@[simp] theorem un5 : Try.prog.underlying 5 = some (TypeDesc.int IntKind.u8) := by kernel_rfl
@[simp] theorem bt5 : (Try.prog.info? 5).map (·.bytes) = some 1 := by kernel_rfl
@[simp] theorem ts6 : tsize Try.prog 6 = some 1 := by kernel_rfl
@[simp] theorem ld6 (cs : List Value) (q : Nat) : loadOf Try.prog 6 cs q = cs[q]? := by kernel_rfl
@[simp] theorem po6 (cs : Array Value) (q : Nat) : partOf Try.prog 6 cs q = cs[q]? := by kernel_rfl
@[simp] theorem ze6 : zeroOf Try.prog 6 = some { toList := [Value.int IntKind.u8 (0)] } := by kernel_rfl
@[simp] theorem un6 : Try.prog.underlying 6 = some (TypeDesc.int IntKind.u8) := by kernel_rfl
@[simp] theorem bt6 : (Try.prog.info? 6).map (·.bytes) = some 1 := by kernel_rfl
@[simp] theorem ts7 : tsize Try.prog 7 = some 4 := by kernel_rfl
@[simp] theorem ld7 (cs : List Value) (q : Nat) : loadOf Try.prog 7 cs q = (slots cs q 4).map fun vs => .agg vs.toArray := by kernel_rfl
@[simp] theorem po7 (cs : Array Value) (q : Nat) : partOf Try.prog 7 cs q = some (.agg (cs.extract q (q + 4))) := by kernel_rfl
@[simp] theorem ze7 : zeroOf Try.prog 7 = some { toList := [Value.int IntKind.i64 (0), Value.int IntKind.i64 (0), Value.bool false, Value.int IntKind.u8 (0)] } := by kernel_rfl
@[simp] theorem bt7 : (Try.prog.info? 7).map (·.bytes) = some 24 := by kernel_rfl
@[simp] theorem fl7_0 : fldOf Try.prog 7 0 = some (2, 0) := by kernel_rfl
@[simp] theorem fo7_0 : fieldOff Try.prog 7 0 = some 0 := by kernel_rfl
@[simp] theorem fl7_1 : fldOf Try.prog 7 1 = some (3, 1) := by kernel_rfl
@[simp] theorem fo7_1 : fieldOff Try.prog 7 1 = some 1 := by kernel_rfl
@[simp] theorem fl7_2 : fldOf Try.prog 7 2 = some (4, 2) := by kernel_rfl
@[simp] theorem fo7_2 : fieldOff Try.prog 7 2 = some 2 := by kernel_rfl
@[simp] theorem fl7_3 : fldOf Try.prog 7 3 = some (6, 3) := by kernel_rfl
@[simp] theorem fo7_3 : fieldOff Try.prog 7 3 = some 3 := by kernel_rfl
@[simp] theorem pa7 : placesOf Try.prog 7 = some (fun i => (#[(0, 1), (1, 1), (2, 1), (3, 1)] : Array (Nat × Nat))[i]?) := by kernel_rfl
@[simp] theorem ts8 : tsize Try.prog 8 = some 4 := by kernel_rfl
@[simp] theorem ld8 (cs : List Value) (q : Nat) : loadOf Try.prog 8 cs q = (slots cs q 4).map fun vs => .agg vs.toArray := by kernel_rfl
@[simp] theorem po8 (cs : Array Value) (q : Nat) : partOf Try.prog 8 cs q = some (.agg (cs.extract q (q + 4))) := by kernel_rfl
@[simp] theorem ze8 : zeroOf Try.prog 8 = some { toList := [Value.int IntKind.i64 (0), Value.int IntKind.i64 (0), Value.bool false, Value.int IntKind.u8 (0)] } := by kernel_rfl
@[simp] theorem bt8 : (Try.prog.info? 8).map (·.bytes) = some 24 := by kernel_rfl
@[simp] theorem fl8_0 : fldOf Try.prog 8 0 = some (2, 0) := by kernel_rfl
@[simp] theorem fo8_0 : fieldOff Try.prog 8 0 = some 0 := by kernel_rfl
@[simp] theorem fl8_1 : fldOf Try.prog 8 1 = some (3, 1) := by kernel_rfl
@[simp] theorem fo8_1 : fieldOff Try.prog 8 1 = some 1 := by kernel_rfl
@[simp] theorem fl8_2 : fldOf Try.prog 8 2 = some (4, 2) := by kernel_rfl
@[simp] theorem fo8_2 : fieldOff Try.prog 8 2 = some 2 := by kernel_rfl
@[simp] theorem fl8_3 : fldOf Try.prog 8 3 = some (6, 3) := by kernel_rfl
@[simp] theorem fo8_3 : fieldOff Try.prog 8 3 = some 3 := by kernel_rfl
@[simp] theorem pa8 : placesOf Try.prog 8 = some (fun i => (#[(0, 1), (1, 1), (2, 1), (3, 1)] : Array (Nat × Nat))[i]?) := by kernel_rfl
@[simp] theorem ts9 : tsize Try.prog 9 = some 1 := by kernel_rfl
@[simp] theorem ld9 (cs : List Value) (q : Nat) : loadOf Try.prog 9 cs q = cs[q]? := by kernel_rfl
@[simp] theorem po9 (cs : Array Value) (q : Nat) : partOf Try.prog 9 cs q = cs[q]? := by kernel_rfl
@[simp] theorem ze9 : zeroOf Try.prog 9 = some { toList := [Value.string { data := { toList := [] } }] } := by kernel_rfl
@[simp] theorem un9 : Try.prog.underlying 9 = some TypeDesc.string := by kernel_rfl
@[simp] theorem bt9 : (Try.prog.info? 9).map (·.bytes) = some 16 := by kernel_rfl
@[simp] theorem ts10 : tsize Try.prog 10 = some 1 := by kernel_rfl
@[simp] theorem ld10 (cs : List Value) (q : Nat) : loadOf Try.prog 10 cs q = cs[q]? := by kernel_rfl
@[simp] theorem po10 (cs : Array Value) (q : Nat) : partOf Try.prog 10 cs q = cs[q]? := by kernel_rfl
@[simp] theorem ze10 : zeroOf Try.prog 10 = some { toList := [Value.string { data := { toList := [] } }] } := by kernel_rfl
@[simp] theorem un10 : Try.prog.underlying 10 = some TypeDesc.string := by kernel_rfl
@[simp] theorem bt10 : (Try.prog.info? 10).map (·.bytes) = some 16 := by kernel_rfl
@[simp] theorem ts11 : tsize Try.prog 11 = some 1 := by kernel_rfl
@[simp] theorem ld11 (cs : List Value) (q : Nat) : loadOf Try.prog 11 cs q = cs[q]? := by kernel_rfl
@[simp] theorem po11 (cs : Array Value) (q : Nat) : partOf Try.prog 11 cs q = cs[q]? := by kernel_rfl
@[simp] theorem ze11 : zeroOf Try.prog 11 = some { toList := [Value.string { data := { toList := [] } }] } := by kernel_rfl
@[simp] theorem un11 : Try.prog.underlying 11 = some TypeDesc.string := by kernel_rfl
@[simp] theorem bt11 : (Try.prog.info? 11).map (·.bytes) = some 16 := by kernel_rfl
@[simp] theorem ts12 : tsize Try.prog 12 = some 1 := by kernel_rfl
@[simp] theorem ld12 (cs : List Value) (q : Nat) : loadOf Try.prog 12 cs q = cs[q]? := by kernel_rfl
@[simp] theorem po12 (cs : Array Value) (q : Nat) : partOf Try.prog 12 cs q = cs[q]? := by kernel_rfl
@[simp] theorem ze12 : zeroOf Try.prog 12 = some { toList := [Value.int IntKind.u64 (0)] } := by kernel_rfl
@[simp] theorem un12 : Try.prog.underlying 12 = some (TypeDesc.int IntKind.u64) := by kernel_rfl
@[simp] theorem bt12 : (Try.prog.info? 12).map (·.bytes) = some 8 := by kernel_rfl
@[simp] theorem ts13 : tsize Try.prog 13 = some 2 := by kernel_rfl
@[simp] theorem ld13 (cs : List Value) (q : Nat) : loadOf Try.prog 13 cs q = (slots cs q 2).map fun vs => .agg vs.toArray := by kernel_rfl
@[simp] theorem po13 (cs : Array Value) (q : Nat) : partOf Try.prog 13 cs q = some (.agg (cs.extract q (q + 2))) := by kernel_rfl
@[simp] theorem ze13 : zeroOf Try.prog 13 = some { toList := [Value.string { data := { toList := [] } }, Value.int IntKind.u64 (0)] } := by kernel_rfl
@[simp] theorem bt13 : (Try.prog.info? 13).map (·.bytes) = some 24 := by kernel_rfl
@[simp] theorem fl13_0 : fldOf Try.prog 13 0 = some (9, 0) := by kernel_rfl
@[simp] theorem fo13_0 : fieldOff Try.prog 13 0 = some 0 := by kernel_rfl
@[simp] theorem fl13_1 : fldOf Try.prog 13 1 = some (12, 1) := by kernel_rfl
@[simp] theorem fo13_1 : fieldOff Try.prog 13 1 = some 1 := by kernel_rfl
@[simp] theorem pa13 : placesOf Try.prog 13 = some (fun i => (#[(0, 1), (1, 1)] : Array (Nat × Nat))[i]?) := by kernel_rfl
@[simp] theorem ts14 : tsize Try.prog 14 = some 2 := by kernel_rfl
@[simp] theorem ld14 (cs : List Value) (q : Nat) : loadOf Try.prog 14 cs q = (slots cs q 2).map fun vs => .agg vs.toArray := by kernel_rfl
@[simp] theorem po14 (cs : Array Value) (q : Nat) : partOf Try.prog 14 cs q = some (.agg (cs.extract q (q + 2))) := by kernel_rfl
@[simp] theorem ze14 : zeroOf Try.prog 14 = some { toList := [Value.string { data := { toList := [] } }, Value.int IntKind.u64 (0)] } := by kernel_rfl
@[simp] theorem bt14 : (Try.prog.info? 14).map (·.bytes) = some 24 := by kernel_rfl
@[simp] theorem fl14_0 : fldOf Try.prog 14 0 = some (9, 0) := by kernel_rfl
@[simp] theorem fo14_0 : fieldOff Try.prog 14 0 = some 0 := by kernel_rfl
@[simp] theorem fl14_1 : fldOf Try.prog 14 1 = some (12, 1) := by kernel_rfl
@[simp] theorem fo14_1 : fieldOff Try.prog 14 1 = some 1 := by kernel_rfl
@[simp] theorem pa14 : placesOf Try.prog 14 = some (fun i => (#[(0, 1), (1, 1)] : Array (Nat × Nat))[i]?) := by kernel_rfl
@[simp] theorem ts15 : tsize Try.prog 15 = some 1 := by kernel_rfl
@[simp] theorem ld15 (cs : List Value) (q : Nat) : loadOf Try.prog 15 cs q = cs[q]? := by kernel_rfl
@[simp] theorem po15 (cs : Array Value) (q : Nat) : partOf Try.prog 15 cs q = cs[q]? := by kernel_rfl
@[simp] theorem ze15 : zeroOf Try.prog 15 = some { toList := [Value.pointer none] } := by kernel_rfl
@[simp] theorem un15 : Try.prog.underlying 15 = some (TypeDesc.pointer 107) := by kernel_rfl
@[simp] theorem bt15 : (Try.prog.info? 15).map (·.bytes) = some 8 := by kernel_rfl
@[simp] theorem ts16 : tsize Try.prog 16 = some 1 := by kernel_rfl
@[simp] theorem ld16 (cs : List Value) (q : Nat) : loadOf Try.prog 16 cs q = cs[q]? := by kernel_rfl
@[simp] theorem po16 (cs : Array Value) (q : Nat) : partOf Try.prog 16 cs q = cs[q]? := by kernel_rfl
@[simp] theorem ze16 : zeroOf Try.prog 16 = some { toList := [Value.pointer none] } := by kernel_rfl
@[simp] theorem un16 : Try.prog.underlying 16 = some (TypeDesc.pointer 110) := by kernel_rfl
@[simp] theorem bt16 : (Try.prog.info? 16).map (·.bytes) = some 8 := by kernel_rfl
@[simp] theorem ts17 : tsize Try.prog 17 = some 1 := by kernel_rfl
@[simp] theorem ld17 (cs : List Value) (q : Nat) : loadOf Try.prog 17 cs q = cs[q]? := by kernel_rfl
@[simp] theorem po17 (cs : Array Value) (q : Nat) : partOf Try.prog 17 cs q = cs[q]? := by kernel_rfl
@[simp] theorem ze17 : zeroOf Try.prog 17 = some { toList := [Value.pointer none] } := by kernel_rfl
@[simp] theorem un17 : Try.prog.underlying 17 = some (TypeDesc.pointer 118) := by kernel_rfl
@[simp] theorem bt17 : (Try.prog.info? 17).map (·.bytes) = some 8 := by kernel_rfl
@[simp] theorem ts18 : tsize Try.prog 18 = some 1 := by kernel_rfl
@[simp] theorem ld18 (cs : List Value) (q : Nat) : loadOf Try.prog 18 cs q = (slots cs q 1).map fun vs => .agg vs.toArray := by kernel_rfl
@[simp] theorem po18 (cs : Array Value) (q : Nat) : partOf Try.prog 18 cs q = some (.agg (cs.extract q (q + 1))) := by kernel_rfl
@[simp] theorem ze18 : zeroOf Try.prog 18 = some { toList := [Value.pointer none] } := by kernel_rfl
@[simp] theorem bt18 : (Try.prog.info? 18).map (·.bytes) = some 8 := by kernel_rfl
@[simp] theorem fl18_0 : fldOf Try.prog 18 0 = some (17, 0) := by kernel_rfl
@[simp] theorem fo18_0 : fieldOff Try.prog 18 0 = some 0 := by kernel_rfl
@[simp] theorem pa18 : placesOf Try.prog 18 = some (fun i => (#[(0, 1)] : Array (Nat × Nat))[i]?) := by kernel_rfl
@[simp] theorem ts19 : tsize Try.prog 19 = some 1 := by kernel_rfl
@[simp] theorem ld19 (cs : List Value) (q : Nat) : loadOf Try.prog 19 cs q = (slots cs q 1).map fun vs => .agg vs.toArray := by kernel_rfl
@[simp] theorem po19 (cs : Array Value) (q : Nat) : partOf Try.prog 19 cs q = some (.agg (cs.extract q (q + 1))) := by kernel_rfl
@[simp] theorem ze19 : zeroOf Try.prog 19 = some { toList := [Value.pointer none] } := by kernel_rfl
@[simp] theorem bt19 : (Try.prog.info? 19).map (·.bytes) = some 8 := by kernel_rfl
@[simp] theorem fl19_0 : fldOf Try.prog 19 0 = some (17, 0) := by kernel_rfl
@[simp] theorem fo19_0 : fieldOff Try.prog 19 0 = some 0 := by kernel_rfl
@[simp] theorem pa19 : placesOf Try.prog 19 = some (fun i => (#[(0, 1)] : Array (Nat × Nat))[i]?) := by kernel_rfl
@[simp] theorem ts20 : tsize Try.prog 20 = some 1 := by kernel_rfl
@[simp] theorem ld20 (cs : List Value) (q : Nat) : loadOf Try.prog 20 cs q = cs[q]? := by kernel_rfl
@[simp] theorem po20 (cs : Array Value) (q : Nat) : partOf Try.prog 20 cs q = cs[q]? := by kernel_rfl
@[simp] theorem ze20 : zeroOf Try.prog 20 = some { toList := [Value.nilIface] } := by kernel_rfl
@[simp] theorem bt20 : (Try.prog.info? 20).map (·.bytes) = some 16 := by kernel_rfl
@[simp] theorem ts21 : tsize Try.prog 21 = some 1 := by kernel_rfl
@[simp] theorem ld21 (cs : List Value) (q : Nat) : loadOf Try.prog 21 cs q = cs[q]? := by kernel_rfl
@[simp] theorem po21 (cs : Array Value) (q : Nat) : partOf Try.prog 21 cs q = cs[q]? := by kernel_rfl
@[simp] theorem ze21 : zeroOf Try.prog 21 = some { toList := [Value.int IntKind.i32 (0)] } := by kernel_rfl
@[simp] theorem un21 : Try.prog.underlying 21 = some (TypeDesc.int IntKind.i32) := by kernel_rfl
@[simp] theorem bt21 : (Try.prog.info? 21).map (·.bytes) = some 4 := by kernel_rfl
@[simp] theorem ts22 : tsize Try.prog 22 = some 1 := by kernel_rfl
@[simp] theorem ld22 (cs : List Value) (q : Nat) : loadOf Try.prog 22 cs q = cs[q]? := by kernel_rfl
@[simp] theorem po22 (cs : Array Value) (q : Nat) : partOf Try.prog 22 cs q = cs[q]? := by kernel_rfl
@[simp] theorem sl22 : slcOf Try.prog 22 = some (5, 1) := by kernel_rfl
@[simp] theorem ze22 : zeroOf Try.prog 22 = some { toList := [Value.slice none 0 0] } := by kernel_rfl
@[simp] theorem un22 : Try.prog.underlying 22 = some (TypeDesc.slice 5) := by kernel_rfl
@[simp] theorem bt22 : (Try.prog.info? 22).map (·.bytes) = some 24 := by kernel_rfl
@[simp] theorem ts23 : tsize Try.prog 23 = some 1 := by kernel_rfl
@[simp] theorem ld23 (cs : List Value) (q : Nat) : loadOf Try.prog 23 cs q = cs[q]? := by kernel_rfl
@[simp] theorem po23 (cs : Array Value) (q : Nat) : partOf Try.prog 23 cs q = cs[q]? := by kernel_rfl
@[simp] theorem ze23 : zeroOf Try.prog 23 = some { toList := [Value.int IntKind.u64 (0)] } := by kernel_rfl
@[simp] theorem un23 : Try.prog.underlying 23 = some (TypeDesc.int IntKind.u64) := by kernel_rfl
@[simp] theorem bt23 : (Try.prog.info? 23).map (·.bytes) = some 8 := by kernel_rfl
@[simp] theorem ts24 : tsize Try.prog 24 = some 1 := by kernel_rfl
@[simp] theorem ld24 (cs : List Value) (q : Nat) : loadOf Try.prog 24 cs q = cs[q]? := by kernel_rfl
@[simp] theorem po24 (cs : Array Value) (q : Nat) : partOf Try.prog 24 cs q = cs[q]? := by kernel_rfl
@[simp] theorem ze24 : zeroOf Try.prog 24 = some { toList := [Value.pointer none] } := by kernel_rfl
@[simp] theorem un24 : Try.prog.underlying 24 = some (TypeDesc.pointer 51) := by kernel_rfl
@[simp] theorem bt24 : (Try.prog.info? 24).map (·.bytes) = some 8 := by kernel_rfl
@[simp] theorem ts25 : tsize Try.prog 25 = some 1 := by kernel_rfl
@[simp] theorem ld25 (cs : List Value) (q : Nat) : loadOf Try.prog 25 cs q = cs[q]? := by kernel_rfl
@[simp] theorem po25 (cs : Array Value) (q : Nat) : partOf Try.prog 25 cs q = cs[q]? := by kernel_rfl
@[simp] theorem ze25 : zeroOf Try.prog 25 = some { toList := [Value.int IntKind.i64 (0)] } := by kernel_rfl
@[simp] theorem un25 : Try.prog.underlying 25 = some (TypeDesc.int IntKind.i64) := by kernel_rfl
@[simp] theorem bt25 : (Try.prog.info? 25).map (·.bytes) = some 8 := by kernel_rfl
@[simp] theorem ts26 : tsize Try.prog 26 = some 1 := by kernel_rfl
@[simp] theorem ld26 (cs : List Value) (q : Nat) : loadOf Try.prog 26 cs q = cs[q]? := by kernel_rfl
@[simp] theorem po26 (cs : Array Value) (q : Nat) : partOf Try.prog 26 cs q = cs[q]? := by kernel_rfl
@[simp] theorem un26 : Try.prog.underlying 26 = some (TypeDesc.tuple { toList := [24, 25] }) := by kernel_rfl
@[simp] theorem bt26 : (Try.prog.info? 26).map (·.bytes) = some 0 := by kernel_rfl
@[simp] theorem ts27 : tsize Try.prog 27 = some 1 := by kernel_rfl
@[simp] theorem ld27 (cs : List Value) (q : Nat) : loadOf Try.prog 27 cs q = cs[q]? := by kernel_rfl
@[simp] theorem po27 (cs : Array Value) (q : Nat) : partOf Try.prog 27 cs q = cs[q]? := by kernel_rfl
@[simp] theorem ze27 : zeroOf Try.prog 27 = some { toList := [Value.nilFunc] } := by kernel_rfl
@[simp] theorem un27 : Try.prog.underlying 27 = some (TypeDesc.func { toList := [3] } { toList := [24, 25] } false) := by kernel_rfl
@[simp] theorem bt27 : (Try.prog.info? 27).map (·.bytes) = some 8 := by kernel_rfl
@[simp] theorem ts28 : tsize Try.prog 28 = some 1 := by kernel_rfl
@[simp] theorem ld28 (cs : List Value) (q : Nat) : loadOf Try.prog 28 cs q = cs[q]? := by kernel_rfl
@[simp] theorem po28 (cs : Array Value) (q : Nat) : partOf Try.prog 28 cs q = cs[q]? := by kernel_rfl
@[simp] theorem ze28 : zeroOf Try.prog 28 = some { toList := [Value.nilFunc] } := by kernel_rfl
@[simp] theorem un28 : Try.prog.underlying 28 = some (TypeDesc.func { toList := [] } { toList := [4] } false) := by kernel_rfl
@[simp] theorem bt28 : (Try.prog.info? 28).map (·.bytes) = some 8 := by kernel_rfl
@[simp] theorem ts29 : tsize Try.prog 29 = some 1 := by kernel_rfl
@[simp] theorem ld29 (cs : List Value) (q : Nat) : loadOf Try.prog 29 cs q = cs[q]? := by kernel_rfl
@[simp] theorem po29 (cs : Array Value) (q : Nat) : partOf Try.prog 29 cs q = cs[q]? := by kernel_rfl
@[simp] theorem mo29 : mapOf Try.prog 29 = some (5, 4) := by kernel_rfl
@[simp] theorem ze29 : zeroOf Try.prog 29 = some { toList := [Value.map none] } := by kernel_rfl
@[simp] theorem un29 : Try.prog.underlying 29 = some (TypeDesc.map 5 4) := by kernel_rfl
@[simp] theorem bt29 : (Try.prog.info? 29).map (·.bytes) = some 8 := by kernel_rfl
@[simp] theorem ts30 : tsize Try.prog 30 = some 1 := by kernel_rfl
@[simp] theorem ld30 (cs : List Value) (q : Nat) : loadOf Try.prog 30 cs q = cs[q]? := by kernel_rfl
@[simp] theorem po30 (cs : Array Value) (q : Nat) : partOf Try.prog 30 cs q = cs[q]? := by kernel_rfl
@[simp] theorem ze30 : zeroOf Try.prog 30 = some { toList := [Value.int IntKind.u32 (0)] } := by kernel_rfl
@[simp] theorem un30 : Try.prog.underlying 30 = some (TypeDesc.int IntKind.u32) := by kernel_rfl
@[simp] theorem bt30 : (Try.prog.info? 30).map (·.bytes) = some 4 := by kernel_rfl
@[simp] theorem ts31 : tsize Try.prog 31 = some 2 := by kernel_rfl
@[simp] theorem ld31 (cs : List Value) (q : Nat) : loadOf Try.prog 31 cs q = (slots cs q 2).map fun vs => .agg vs.toArray := by kernel_rfl
@[simp] theorem po31 (cs : Array Value) (q : Nat) : partOf Try.prog 31 cs q = some (.agg (cs.extract q (q + 2))) := by kernel_rfl
@[simp] theorem ze31 : zeroOf Try.prog 31 = some { toList := [Value.int IntKind.u64 (0), Value.int IntKind.u32 (0)] } := by kernel_rfl
@[simp] theorem bt31 : (Try.prog.info? 31).map (·.bytes) = some 16 := by kernel_rfl
@[simp] theorem fl31_0 : fldOf Try.prog 31 0 = some (23, 0) := by kernel_rfl
@[simp] theorem fo31_0 : fieldOff Try.prog 31 0 = some 0 := by kernel_rfl
@[simp] theorem fl31_1 : fldOf Try.prog 31 1 = some (30, 1) := by kernel_rfl
@[simp] theorem fo31_1 : fieldOff Try.prog 31 1 = some 1 := by kernel_rfl
@[simp] theorem pa31 : placesOf Try.prog 31 = some (fun i => (#[(0, 1), (1, 1)] : Array (Nat × Nat))[i]?) := by kernel_rfl
@[simp] theorem ts32 : tsize Try.prog 32 = some 2 := by kernel_rfl
@[simp] theorem ld32 (cs : List Value) (q : Nat) : loadOf Try.prog 32 cs q = (slots cs q 2).map fun vs => .agg vs.toArray := by kernel_rfl
@[simp] theorem po32 (cs : Array Value) (q : Nat) : partOf Try.prog 32 cs q = some (.agg (cs.extract q (q + 2))) := by kernel_rfl
@[simp] theorem ze32 : zeroOf Try.prog 32 = some { toList := [Value.int IntKind.u64 (0), Value.int IntKind.u32 (0)] } := by kernel_rfl
@[simp] theorem bt32 : (Try.prog.info? 32).map (·.bytes) = some 16 := by kernel_rfl
@[simp] theorem fl32_0 : fldOf Try.prog 32 0 = some (23, 0) := by kernel_rfl
@[simp] theorem fo32_0 : fieldOff Try.prog 32 0 = some 0 := by kernel_rfl
@[simp] theorem fl32_1 : fldOf Try.prog 32 1 = some (30, 1) := by kernel_rfl
@[simp] theorem fo32_1 : fieldOff Try.prog 32 1 = some 1 := by kernel_rfl
@[simp] theorem pa32 : placesOf Try.prog 32 = some (fun i => (#[(0, 1), (1, 1)] : Array (Nat × Nat))[i]?) := by kernel_rfl
@[simp] theorem ts33 : tsize Try.prog 33 = some 1 := by kernel_rfl
@[simp] theorem ld33 (cs : List Value) (q : Nat) : loadOf Try.prog 33 cs q = cs[q]? := by kernel_rfl
@[simp] theorem po33 (cs : Array Value) (q : Nat) : partOf Try.prog 33 cs q = cs[q]? := by kernel_rfl
@[simp] theorem ze33 : zeroOf Try.prog 33 = some { toList := [Value.nilFunc] } := by kernel_rfl
@[simp] theorem un33 : Try.prog.underlying 33 = some (TypeDesc.func { toList := [32] } { toList := [25] } false) := by kernel_rfl
@[simp] theorem bt33 : (Try.prog.info? 33).map (·.bytes) = some 8 := by kernel_rfl
@[simp] theorem ts34 : tsize Try.prog 34 = some 1 := by kernel_rfl
@[simp] theorem ld34 (cs : List Value) (q : Nat) : loadOf Try.prog 34 cs q = cs[q]? := by kernel_rfl
@[simp] theorem po34 (cs : Array Value) (q : Nat) : partOf Try.prog 34 cs q = cs[q]? := by kernel_rfl
@[simp] theorem un34 : Try.prog.underlying 34 = some (TypeDesc.tuple { toList := [3, 3] }) := by kernel_rfl
@[simp] theorem bt34 : (Try.prog.info? 34).map (·.bytes) = some 0 := by kernel_rfl
@[simp] theorem ts35 : tsize Try.prog 35 = some 1 := by kernel_rfl
@[simp] theorem ld35 (cs : List Value) (q : Nat) : loadOf Try.prog 35 cs q = cs[q]? := by kernel_rfl
@[simp] theorem po35 (cs : Array Value) (q : Nat) : partOf Try.prog 35 cs q = cs[q]? := by kernel_rfl
@[simp] theorem ze35 : zeroOf Try.prog 35 = some { toList := [Value.nilFunc] } := by kernel_rfl
@[simp] theorem un35 : Try.prog.underlying 35 = some (TypeDesc.func { toList := [] } { toList := [3, 3] } false) := by kernel_rfl
@[simp] theorem bt35 : (Try.prog.info? 35).map (·.bytes) = some 8 := by kernel_rfl
@[simp] theorem ts36 : tsize Try.prog 36 = some 1 := by kernel_rfl
@[simp] theorem ld36 (cs : List Value) (q : Nat) : loadOf Try.prog 36 cs q = cs[q]? := by kernel_rfl
@[simp] theorem po36 (cs : Array Value) (q : Nat) : partOf Try.prog 36 cs q = cs[q]? := by kernel_rfl
@[simp] theorem ze36 : zeroOf Try.prog 36 = some { toList := [Value.nilFunc] } := by kernel_rfl
@[simp] theorem un36 : Try.prog.underlying 36 = some (TypeDesc.func { toList := [24, 32] } { toList := [4] } false) := by kernel_rfl
@[simp] theorem bt36 : (Try.prog.info? 36).map (·.bytes) = some 8 := by kernel_rfl
@[simp] theorem ts37 : tsize Try.prog 37 = some 1 := by kernel_rfl
@[simp] theorem ld37 (cs : List Value) (q : Nat) : loadOf Try.prog 37 cs q = cs[q]? := by kernel_rfl
@[simp] theorem po37 (cs : Array Value) (q : Nat) : partOf Try.prog 37 cs q = cs[q]? := by kernel_rfl
@[simp] theorem ze37 : zeroOf Try.prog 37 = some { toList := [Value.nilFunc] } := by kernel_rfl
@[simp] theorem un37 : Try.prog.underlying 37 = some (TypeDesc.func { toList := [] } { toList := [3] } false) := by kernel_rfl
@[simp] theorem bt37 : (Try.prog.info? 37).map (·.bytes) = some 8 := by kernel_rfl
@[simp] theorem ts38 : tsize Try.prog 38 = some 1 := by kernel_rfl
@[simp] theorem ld38 (cs : List Value) (q : Nat) : loadOf Try.prog 38 cs q = cs[q]? := by kernel_rfl
@[simp] theorem po38 (cs : Array Value) (q : Nat) : partOf Try.prog 38 cs q = cs[q]? := by kernel_rfl
@[simp] theorem ze38 : zeroOf Try.prog 38 = some { toList := [Value.nilFunc] } := by kernel_rfl
@[simp] theorem un38 : Try.prog.underlying 38 = some (TypeDesc.func { toList := [22, 23] } { toList := [4] } false) := by kernel_rfl
@[simp] theorem bt38 : (Try.prog.info? 38).map (·.bytes) = some 8 := by kernel_rfl
@[simp] theorem ts39 : tsize Try.prog 39 = some 1 := by kernel_rfl
@[simp] theorem ld39 (cs : List Value) (q : Nat) : loadOf Try.prog 39 cs q = cs[q]? := by kernel_rfl
@[simp] theorem po39 (cs : Array Value) (q : Nat) : partOf Try.prog 39 cs q = cs[q]? := by kernel_rfl
@[simp] theorem sl39 : slcOf Try.prog 39 = some (44, 4) := by kernel_rfl
@[simp] theorem ze39 : zeroOf Try.prog 39 = some { toList := [Value.slice none 0 0] } := by kernel_rfl
@[simp] theorem un39 : Try.prog.underlying 39 = some (TypeDesc.slice 44) := by kernel_rfl
@[simp] theorem bt39 : (Try.prog.info? 39).map (·.bytes) = some 24 := by kernel_rfl
@[simp] theorem ts40 : tsize Try.prog 40 = some 1 := by kernel_rfl
@[simp] theorem ld40 (cs : List Value) (q : Nat) : loadOf Try.prog 40 cs q = cs[q]? := by kernel_rfl
@[simp] theorem po40 (cs : Array Value) (q : Nat) : partOf Try.prog 40 cs q = cs[q]? := by kernel_rfl
@[simp] theorem ze40 : zeroOf Try.prog 40 = some { toList := [Value.nilFunc] } := by kernel_rfl
@[simp] theorem un40 : Try.prog.underlying 40 = some (TypeDesc.func { toList := [3] } { toList := [4] } false) := by kernel_rfl
@[simp] theorem bt40 : (Try.prog.info? 40).map (·.bytes) = some 8 := by kernel_rfl
@[simp] theorem ts41 : tsize Try.prog 41 = some 1 := by kernel_rfl
@[simp] theorem ld41 (cs : List Value) (q : Nat) : loadOf Try.prog 41 cs q = cs[q]? := by kernel_rfl
@[simp] theorem po41 (cs : Array Value) (q : Nat) : partOf Try.prog 41 cs q = cs[q]? := by kernel_rfl
@[simp] theorem ze41 : zeroOf Try.prog 41 = some { toList := [Value.pointer none] } := by kernel_rfl
@[simp] theorem un41 : Try.prog.underlying 41 = some (TypeDesc.pointer 74) := by kernel_rfl
@[simp] theorem bt41 : (Try.prog.info? 41).map (·.bytes) = some 8 := by kernel_rfl
@[simp] theorem ts42 : tsize Try.prog 42 = some 1 := by kernel_rfl
@[simp] theorem ld42 (cs : List Value) (q : Nat) : loadOf Try.prog 42 cs q = cs[q]? := by kernel_rfl
@[simp] theorem po42 (cs : Array Value) (q : Nat) : partOf Try.prog 42 cs q = cs[q]? := by kernel_rfl
@[simp] theorem ze42 : zeroOf Try.prog 42 = some { toList := [Value.nilFunc] } := by kernel_rfl
@[simp] theorem un42 : Try.prog.underlying 42 = some (TypeDesc.func { toList := [3] } { toList := [41] } false) := by kernel_rfl
@[simp] theorem bt42 : (Try.prog.info? 42).map (·.bytes) = some 8 := by kernel_rfl
@[simp] theorem ts43 : tsize Try.prog 43 = some 4 := by kernel_rfl
@[simp] theorem ld43 (cs : List Value) (q : Nat) : loadOf Try.prog 43 cs q = (slots cs q 4).map fun vs => .agg vs.toArray := by kernel_rfl
@[simp] theorem po43 (cs : Array Value) (q : Nat) : partOf Try.prog 43 cs q = some (.agg (cs.extract q (q + 4))) := by kernel_rfl
@[simp] theorem ze43 : zeroOf Try.prog 43 = some { toList := [Value.int IntKind.i64 (0), Value.int IntKind.u8 (0), Value.int IntKind.u64 (0), Value.int IntKind.u32 (0)] } := by kernel_rfl
@[simp] theorem bt43 : (Try.prog.info? 43).map (·.bytes) = some 32 := by kernel_rfl
@[simp] theorem fl43_0 : fldOf Try.prog 43 0 = some (3, 0) := by kernel_rfl
@[simp] theorem fo43_0 : fieldOff Try.prog 43 0 = some 0 := by kernel_rfl
@[simp] theorem fl43_1 : fldOf Try.prog 43 1 = some (5, 1) := by kernel_rfl
@[simp] theorem fo43_1 : fieldOff Try.prog 43 1 = some 1 := by kernel_rfl
@[simp] theorem fl43_2 : fldOf Try.prog 43 2 = some (32, 2) := by kernel_rfl
@[simp] theorem fo43_2 : fieldOff Try.prog 43 2 = some 2 := by kernel_rfl
@[simp] theorem pa43 : placesOf Try.prog 43 = some (fun i => (#[(0, 1), (1, 1), (2, 2)] : Array (Nat × Nat))[i]?) := by kernel_rfl
@[simp] theorem ts44 : tsize Try.prog 44 = some 4 := by kernel_rfl
@[simp] theorem ld44 (cs : List Value) (q : Nat) : loadOf Try.prog 44 cs q = (slots cs q 4).map fun vs => .agg vs.toArray := by kernel_rfl
@[simp] theorem po44 (cs : Array Value) (q : Nat) : partOf Try.prog 44 cs q = some (.agg (cs.extract q (q + 4))) := by kernel_rfl
@[simp] theorem ze44 : zeroOf Try.prog 44 = some { toList := [Value.int IntKind.i64 (0), Value.int IntKind.u8 (0), Value.int IntKind.u64 (0), Value.int IntKind.u32 (0)] } := by kernel_rfl
@[simp] theorem bt44 : (Try.prog.info? 44).map (·.bytes) = some 32 := by kernel_rfl
@[simp] theorem fl44_0 : fldOf Try.prog 44 0 = some (3, 0) := by kernel_rfl
@[simp] theorem fo44_0 : fieldOff Try.prog 44 0 = some 0 := by kernel_rfl
@[simp] theorem fl44_1 : fldOf Try.prog 44 1 = some (5, 1) := by kernel_rfl
@[simp] theorem fo44_1 : fieldOff Try.prog 44 1 = some 1 := by kernel_rfl
@[simp] theorem fl44_2 : fldOf Try.prog 44 2 = some (32, 2) := by kernel_rfl
@[simp] theorem fo44_2 : fieldOff Try.prog 44 2 = some 2 := by kernel_rfl
@[simp] theorem pa44 : placesOf Try.prog 44 = some (fun i => (#[(0, 1), (1, 1), (2, 2)] : Array (Nat × Nat))[i]?) := by kernel_rfl
@[simp] theorem ts45 : tsize Try.prog 45 = some 1 := by kernel_rfl
@[simp] theorem ld45 (cs : List Value) (q : Nat) : loadOf Try.prog 45 cs q = cs[q]? := by kernel_rfl
@[simp] theorem po45 (cs : Array Value) (q : Nat) : partOf Try.prog 45 cs q = cs[q]? := by kernel_rfl
@[simp] theorem ze45 : zeroOf Try.prog 45 = some { toList := [Value.nilFunc] } := by kernel_rfl
@[simp] theorem un45 : Try.prog.underlying 45 = some (TypeDesc.func { toList := [] } { toList := [24] } false) := by kernel_rfl
@[simp] theorem bt45 : (Try.prog.info? 45).map (·.bytes) = some 8 := by kernel_rfl
@[simp] theorem ts46 : tsize Try.prog 46 = some 1 := by kernel_rfl
@[simp] theorem ld46 (cs : List Value) (q : Nat) : loadOf Try.prog 46 cs q = cs[q]? := by kernel_rfl
@[simp] theorem po46 (cs : Array Value) (q : Nat) : partOf Try.prog 46 cs q = cs[q]? := by kernel_rfl
@[simp] theorem ze46 : zeroOf Try.prog 46 = some { toList := [Value.nilFunc] } := by kernel_rfl
@[simp] theorem un46 : Try.prog.underlying 46 = some (TypeDesc.func { toList := [] } { toList := [41] } false) := by kernel_rfl
@[simp] theorem bt46 : (Try.prog.info? 46).map (·.bytes) = some 8 := by kernel_rfl
@[simp] theorem ts47 : tsize Try.prog 47 = some 1 := by kernel_rfl
@[simp] theorem ld47 (cs : List Value) (q : Nat) : loadOf Try.prog 47 cs q = cs[q]? := by kernel_rfl
@[simp] theorem po47 (cs : Array Value) (q : Nat) : partOf Try.prog 47 cs q = cs[q]? := by kernel_rfl
@[simp] theorem ze47 : zeroOf Try.prog 47 = some { toList := [Value.nilFunc] } := by kernel_rfl
@[simp] theorem un47 : Try.prog.underlying 47 = some (TypeDesc.func { toList := [24, 41, 32] } { toList := [4] } false) := by kernel_rfl
@[simp] theorem bt47 : (Try.prog.info? 47).map (·.bytes) = some 8 := by kernel_rfl
@[simp] theorem ts48 : tsize Try.prog 48 = some 1 := by kernel_rfl
@[simp] theorem ld48 (cs : List Value) (q : Nat) : loadOf Try.prog 48 cs q = cs[q]? := by kernel_rfl
@[simp] theorem po48 (cs : Array Value) (q : Nat) : partOf Try.prog 48 cs q = cs[q]? := by kernel_rfl
@[simp] theorem ze48 : zeroOf Try.prog 48 = some { toList := [Value.nilFunc] } := by kernel_rfl
@[simp] theorem un48 : Try.prog.underlying 48 = some (TypeDesc.func { toList := [3, 39] } { toList := [4] } false) := by kernel_rfl
@[simp] theorem bt48 : (Try.prog.info? 48).map (·.bytes) = some 8 := by kernel_rfl
@[simp] theorem ts49 : tsize Try.prog 49 = some 1 := by kernel_rfl
@[simp] theorem ld49 (cs : List Value) (q : Nat) : loadOf Try.prog 49 cs q = cs[q]? := by kernel_rfl
@[simp] theorem po49 (cs : Array Value) (q : Nat) : partOf Try.prog 49 cs q = cs[q]? := by kernel_rfl
@[simp] theorem ze49 : zeroOf Try.prog 49 = some { toList := [Value.pointer none] } := by kernel_rfl
@[simp] theorem un49 : Try.prog.underlying 49 = some (TypeDesc.pointer 90) := by kernel_rfl
@[simp] theorem bt49 : (Try.prog.info? 49).map (·.bytes) = some 8 := by kernel_rfl
@[simp] theorem ts50 : tsize Try.prog 50 = some 4 := by kernel_rfl
@[simp] theorem ld50 (cs : List Value) (q : Nat) : loadOf Try.prog 50 cs q = (slots cs q 4).map fun vs => .agg vs.toArray := by kernel_rfl
@[simp] theorem po50 (cs : Array Value) (q : Nat) : partOf Try.prog 50 cs q = some (.agg (cs.extract q (q + 4))) := by kernel_rfl
@[simp] theorem ze50 : zeroOf Try.prog 50 = some { toList := [Value.pointer none, Value.pointer none, Value.int IntKind.i64 (0), Value.int IntKind.i64 (0)] } := by kernel_rfl
@[simp] theorem bt50 : (Try.prog.info? 50).map (·.bytes) = some 32 := by kernel_rfl
@[simp] theorem fl50_0 : fldOf Try.prog 50 0 = some (49, 0) := by kernel_rfl
@[simp] theorem fo50_0 : fieldOff Try.prog 50 0 = some 0 := by kernel_rfl
@[simp] theorem fl50_1 : fldOf Try.prog 50 1 = some (49, 1) := by kernel_rfl
@[simp] theorem fo50_1 : fieldOff Try.prog 50 1 = some 1 := by kernel_rfl
@[simp] theorem fl50_2 : fldOf Try.prog 50 2 = some (3, 2) := by kernel_rfl
@[simp] theorem fo50_2 : fieldOff Try.prog 50 2 = some 2 := by kernel_rfl
@[simp] theorem fl50_3 : fldOf Try.prog 50 3 = some (3, 3) := by kernel_rfl
@[simp] theorem fo50_3 : fieldOff Try.prog 50 3 = some 3 := by kernel_rfl
@[simp] theorem pa50 : placesOf Try.prog 50 = some (fun i => (#[(0, 1), (1, 1), (2, 1), (3, 1)] : Array (Nat × Nat))[i]?) := by kernel_rfl
@[simp] theorem ts51 : tsize Try.prog 51 = some 4 := by kernel_rfl
@[simp] theorem ld51 (cs : List Value) (q : Nat) : loadOf Try.prog 51 cs q = (slots cs q 4).map fun vs => .agg vs.toArray := by kernel_rfl
@[simp] theorem po51 (cs : Array Value) (q : Nat) : partOf Try.prog 51 cs q = some (.agg (cs.extract q (q + 4))) := by kernel_rfl
@[simp] theorem ze51 : zeroOf Try.prog 51 = some { toList := [Value.pointer none, Value.pointer none, Value.int IntKind.i64 (0), Value.int IntKind.i64 (0)] } := by kernel_rfl
@[simp] theorem bt51 : (Try.prog.info? 51).map (·.bytes) = some 32 := by kernel_rfl
@[simp] theorem fl51_0 : fldOf Try.prog 51 0 = some (49, 0) := by kernel_rfl
@[simp] theorem fo51_0 : fieldOff Try.prog 51 0 = some 0 := by kernel_rfl
@[simp] theorem fl51_1 : fldOf Try.prog 51 1 = some (49, 1) := by kernel_rfl
@[simp] theorem fo51_1 : fieldOff Try.prog 51 1 = some 1 := by kernel_rfl
@[simp] theorem fl51_2 : fldOf Try.prog 51 2 = some (3, 2) := by kernel_rfl
@[simp] theorem fo51_2 : fieldOff Try.prog 51 2 = some 2 := by kernel_rfl
@[simp] theorem fl51_3 : fldOf Try.prog 51 3 = some (3, 3) := by kernel_rfl
@[simp] theorem fo51_3 : fieldOff Try.prog 51 3 = some 3 := by kernel_rfl
@[simp] theorem pa51 : placesOf Try.prog 51 = some (fun i => (#[(0, 1), (1, 1), (2, 1), (3, 1)] : Array (Nat × Nat))[i]?) := by kernel_rfl
@[simp] theorem ts52 : tsize Try.prog 52 = some 1 := by kernel_rfl
@[simp] theorem ld52 (cs : List Value) (q : Nat) : loadOf Try.prog 52 cs q = cs[q]? := by kernel_rfl
@[simp] theorem po52 (cs : Array Value) (q : Nat) : partOf Try.prog 52 cs q = cs[q]? := by kernel_rfl
@[simp] theorem sl52 : slcOf Try.prog 52 = some (24, 1) := by kernel_rfl
@[simp] theorem ze52 : zeroOf Try.prog 52 = some { toList := [Value.slice none 0 0] } := by kernel_rfl
@[simp] theorem un52 : Try.prog.underlying 52 = some (TypeDesc.slice 24) := by kernel_rfl
@[simp] theorem bt52 : (Try.prog.info? 52).map (·.bytes) = some 24 := by kernel_rfl
@[simp] theorem ts53 : tsize Try.prog 53 = some 1 := by kernel_rfl
@[simp] theorem ld53 (cs : List Value) (q : Nat) : loadOf Try.prog 53 cs q = cs[q]? := by kernel_rfl
@[simp] theorem po53 (cs : Array Value) (q : Nat) : partOf Try.prog 53 cs q = cs[q]? := by kernel_rfl
@[simp] theorem ze53 : zeroOf Try.prog 53 = some { toList := [Value.nilFunc] } := by kernel_rfl
@[simp] theorem un53 : Try.prog.underlying 53 = some (TypeDesc.func { toList := [57] } { toList := [] } false) := by kernel_rfl
@[simp] theorem bt53 : (Try.prog.info? 53).map (·.bytes) = some 8 := by kernel_rfl
@[simp] theorem ts54 : tsize Try.prog 54 = some 1 := by kernel_rfl
@[simp] theorem ld54 (cs : List Value) (q : Nat) : loadOf Try.prog 54 cs q = cs[q]? := by kernel_rfl
@[simp] theorem po54 (cs : Array Value) (q : Nat) : partOf Try.prog 54 cs q = cs[q]? := by kernel_rfl
@[simp] theorem ze54 : zeroOf Try.prog 54 = some { toList := [Value.nilFunc] } := by kernel_rfl
@[simp] theorem un54 : Try.prog.underlying 54 = some (TypeDesc.func { toList := [57] } { toList := [] } false) := by kernel_rfl
@[simp] theorem bt54 : (Try.prog.info? 54).map (·.bytes) = some 8 := by kernel_rfl
@[simp] theorem ts55 : tsize Try.prog 55 = some 1 := by kernel_rfl
@[simp] theorem ld55 (cs : List Value) (q : Nat) : loadOf Try.prog 55 cs q = cs[q]? := by kernel_rfl
@[simp] theorem po55 (cs : Array Value) (q : Nat) : partOf Try.prog 55 cs q = cs[q]? := by kernel_rfl
@[simp] theorem ze55 : zeroOf Try.prog 55 = some { toList := [Value.nilFunc] } := by kernel_rfl
@[simp] theorem un55 : Try.prog.underlying 55 = some (TypeDesc.func { toList := [] } { toList := [54] } false) := by kernel_rfl
@[simp] theorem bt55 : (Try.prog.info? 55).map (·.bytes) = some 8 := by kernel_rfl
@[simp] theorem ts56 : tsize Try.prog 56 = some 1 := by kernel_rfl
@[simp] theorem ld56 (cs : List Value) (q : Nat) : loadOf Try.prog 56 cs q = cs[q]? := by kernel_rfl
@[simp] theorem po56 (cs : Array Value) (q : Nat) : partOf Try.prog 56 cs q = cs[q]? := by kernel_rfl
@[simp] theorem ze56 : zeroOf Try.prog 56 = some { toList := [Value.nilFunc] } := by kernel_rfl
@[simp] theorem un56 : Try.prog.underlying 56 = some (TypeDesc.func { toList := [24] } { toList := [3] } false) := by kernel_rfl
@[simp] theorem bt56 : (Try.prog.info? 56).map (·.bytes) = some 8 := by kernel_rfl
@[simp] theorem ts57 : tsize Try.prog 57 = some 1 := by kernel_rfl
@[simp] theorem ld57 (cs : List Value) (q : Nat) : loadOf Try.prog 57 cs q = cs[q]? := by kernel_rfl
@[simp] theorem po57 (cs : Array Value) (q : Nat) : partOf Try.prog 57 cs q = cs[q]? := by kernel_rfl
@[simp] theorem ze57 : zeroOf Try.prog 57 = some { toList := [Value.nilFunc] } := by kernel_rfl
@[simp] theorem un57 : Try.prog.underlying 57 = some (TypeDesc.func { toList := [32] } { toList := [4] } false) := by kernel_rfl
@[simp] theorem bt57 : (Try.prog.info? 57).map (·.bytes) = some 8 := by kernel_rfl
@[simp] theorem ts58 : tsize Try.prog 58 = some 1 := by kernel_rfl
@[simp] theorem ld58 (cs : List Value) (q : Nat) : loadOf Try.prog 58 cs q = cs[q]? := by kernel_rfl
@[simp] theorem po58 (cs : Array Value) (q : Nat) : partOf Try.prog 58 cs q = cs[q]? := by kernel_rfl
@[simp] theorem un58 : Try.prog.underlying 58 = some (TypeDesc.tuple { toList := [49, 25] }) := by kernel_rfl
@[simp] theorem bt58 : (Try.prog.info? 58).map (·.bytes) = some 0 := by kernel_rfl
@[simp] theorem ts59 : tsize Try.prog 59 = some 1 := by kernel_rfl
@[simp] theorem ld59 (cs : List Value) (q : Nat) : loadOf Try.prog 59 cs q = cs[q]? := by kernel_rfl
@[simp] theorem po59 (cs : Array Value) (q : Nat) : partOf Try.prog 59 cs q = cs[q]? := by kernel_rfl
@[simp] theorem ze59 : zeroOf Try.prog 59 = some { toList := [Value.nilFunc] } := by kernel_rfl
@[simp] theorem un59 : Try.prog.underlying 59 = some (TypeDesc.func { toList := [3] } { toList := [49, 25] } false) := by kernel_rfl
@[simp] theorem bt59 : (Try.prog.info? 59).map (·.bytes) = some 8 := by kernel_rfl
@[simp] theorem ts60 : tsize Try.prog 60 = some 1 := by kernel_rfl
@[simp] theorem ld60 (cs : List Value) (q : Nat) : loadOf Try.prog 60 cs q = cs[q]? := by kernel_rfl
@[simp] theorem po60 (cs : Array Value) (q : Nat) : partOf Try.prog 60 cs q = cs[q]? := by kernel_rfl
@[simp] theorem un60 : Try.prog.underlying 60 = some (TypeDesc.tuple { toList := [49, 3, 4] }) := by kernel_rfl
@[simp] theorem bt60 : (Try.prog.info? 60).map (·.bytes) = some 0 := by kernel_rfl
@[simp] theorem ts61 : tsize Try.prog 61 = some 1 := by kernel_rfl
@[simp] theorem ld61 (cs : List Value) (q : Nat) : loadOf Try.prog 61 cs q = cs[q]? := by kernel_rfl
@[simp] theorem po61 (cs : Array Value) (q : Nat) : partOf Try.prog 61 cs q = cs[q]? := by kernel_rfl
@[simp] theorem ze61 : zeroOf Try.prog 61 = some { toList := [Value.nilFunc] } := by kernel_rfl
@[simp] theorem un61 : Try.prog.underlying 61 = some (TypeDesc.func { toList := [23, 62] } { toList := [49, 3, 4] } false) := by kernel_rfl
@[simp] theorem bt61 : (Try.prog.info? 61).map (·.bytes) = some 8 := by kernel_rfl
@[simp] theorem ts62 : tsize Try.prog 62 = some 1 := by kernel_rfl
@[simp] theorem ld62 (cs : List Value) (q : Nat) : loadOf Try.prog 62 cs q = cs[q]? := by kernel_rfl
@[simp] theorem po62 (cs : Array Value) (q : Nat) : partOf Try.prog 62 cs q = cs[q]? := by kernel_rfl
@[simp] theorem ze62 : zeroOf Try.prog 62 = some { toList := [Value.nilFunc] } := by kernel_rfl
@[simp] theorem un62 : Try.prog.underlying 62 = some (TypeDesc.func { toList := [30] } { toList := [4] } false) := by kernel_rfl
@[simp] theorem bt62 : (Try.prog.info? 62).map (·.bytes) = some 8 := by kernel_rfl
@[simp] theorem ts63 : tsize Try.prog 63 = some 1 := by kernel_rfl
@[simp] theorem ld63 (cs : List Value) (q : Nat) : loadOf Try.prog 63 cs q = cs[q]? := by kernel_rfl
@[simp] theorem po63 (cs : Array Value) (q : Nat) : partOf Try.prog 63 cs q = cs[q]? := by kernel_rfl
@[simp] theorem ze63 : zeroOf Try.prog 63 = some { toList := [Value.nilFunc] } := by kernel_rfl
@[simp] theorem un63 : Try.prog.underlying 63 = some (TypeDesc.func { toList := [3] } { toList := [25] } false) := by kernel_rfl
@[simp] theorem bt63 : (Try.prog.info? 63).map (·.bytes) = some 8 := by kernel_rfl
@[simp] theorem ts64 : tsize Try.prog 64 = some 1 := by kernel_rfl
@[simp] theorem ld64 (cs : List Value) (q : Nat) : loadOf Try.prog 64 cs q = cs[q]? := by kernel_rfl
@[simp] theorem po64 (cs : Array Value) (q : Nat) : partOf Try.prog 64 cs q = cs[q]? := by kernel_rfl
@[simp] theorem ze64 : zeroOf Try.prog 64 = some { toList := [Value.nilFunc] } := by kernel_rfl
@[simp] theorem un64 : Try.prog.underlying 64 = some (TypeDesc.func { toList := [49, 3] } { toList := [4] } false) := by kernel_rfl
@[simp] theorem bt64 : (Try.prog.info? 64).map (·.bytes) = some 8 := by kernel_rfl
@[simp] theorem ts65 : tsize Try.prog 65 = some 1 := by kernel_rfl
@[simp] theorem ld65 (cs : List Value) (q : Nat) : loadOf Try.prog 65 cs q = cs[q]? := by kernel_rfl
@[simp] theorem po65 (cs : Array Value) (q : Nat) : partOf Try.prog 65 cs q = cs[q]? := by kernel_rfl
@[simp] theorem un65 : Try.prog.underlying 65 = some (TypeDesc.tuple { toList := [3, 25] }) := by kernel_rfl
@[simp] theorem bt65 : (Try.prog.info? 65).map (·.bytes) = some 0 := by kernel_rfl
@[simp] theorem ts66 : tsize Try.prog 66 = some 1 := by kernel_rfl
@[simp] theorem ld66 (cs : List Value) (q : Nat) : loadOf Try.prog 66 cs q = cs[q]? := by kernel_rfl
@[simp] theorem po66 (cs : Array Value) (q : Nat) : partOf Try.prog 66 cs q = cs[q]? := by kernel_rfl
@[simp] theorem ze66 : zeroOf Try.prog 66 = some { toList := [Value.nilFunc] } := by kernel_rfl
@[simp] theorem un66 : Try.prog.underlying 66 = some (TypeDesc.func { toList := [32] } { toList := [3, 25] } false) := by kernel_rfl
@[simp] theorem bt66 : (Try.prog.info? 66).map (·.bytes) = some 8 := by kernel_rfl
@[simp] theorem ts67 : tsize Try.prog 67 = some 1 := by kernel_rfl
@[simp] theorem ld67 (cs : List Value) (q : Nat) : loadOf Try.prog 67 cs q = cs[q]? := by kernel_rfl
@[simp] theorem po67 (cs : Array Value) (q : Nat) : partOf Try.prog 67 cs q = cs[q]? := by kernel_rfl
@[simp] theorem un67 : Try.prog.underlying 67 = some (TypeDesc.tuple { toList := [32, 4] }) := by kernel_rfl
@[simp] theorem bt67 : (Try.prog.info? 67).map (·.bytes) = some 0 := by kernel_rfl
@[simp] theorem ts68 : tsize Try.prog 68 = some 1 := by kernel_rfl
@[simp] theorem ld68 (cs : List Value) (q : Nat) : loadOf Try.prog 68 cs q = cs[q]? := by kernel_rfl
@[simp] theorem po68 (cs : Array Value) (q : Nat) : partOf Try.prog 68 cs q = cs[q]? := by kernel_rfl
@[simp] theorem ze68 : zeroOf Try.prog 68 = some { toList := [Value.nilFunc] } := by kernel_rfl
@[simp] theorem un68 : Try.prog.underlying 68 = some (TypeDesc.func { toList := [3] } { toList := [32, 4] } false) := by kernel_rfl
@[simp] theorem bt68 : (Try.prog.info? 68).map (·.bytes) = some 8 := by kernel_rfl
@[simp] theorem ts69 : tsize Try.prog 69 = some 1 := by kernel_rfl
@[simp] theorem ld69 (cs : List Value) (q : Nat) : loadOf Try.prog 69 cs q = cs[q]? := by kernel_rfl
@[simp] theorem po69 (cs : Array Value) (q : Nat) : partOf Try.prog 69 cs q = cs[q]? := by kernel_rfl
@[simp] theorem un69 : Try.prog.underlying 69 = some (TypeDesc.tuple { toList := [30, 4] }) := by kernel_rfl
@[simp] theorem bt69 : (Try.prog.info? 69).map (·.bytes) = some 0 := by kernel_rfl
@[simp] theorem ts70 : tsize Try.prog 70 = some 1 := by kernel_rfl
@[simp] theorem ld70 (cs : List Value) (q : Nat) : loadOf Try.prog 70 cs q = cs[q]? := by kernel_rfl
@[simp] theorem po70 (cs : Array Value) (q : Nat) : partOf Try.prog 70 cs q = cs[q]? := by kernel_rfl
@[simp] theorem ze70 : zeroOf Try.prog 70 = some { toList := [Value.nilFunc] } := by kernel_rfl
@[simp] theorem un70 : Try.prog.underlying 70 = some (TypeDesc.func { toList := [23, 62] } { toList := [30, 4] } false) := by kernel_rfl
@[simp] theorem bt70 : (Try.prog.info? 70).map (·.bytes) = some 8 := by kernel_rfl
@[simp] theorem ts71 : tsize Try.prog 71 = some 1 := by kernel_rfl
@[simp] theorem ld71 (cs : List Value) (q : Nat) : loadOf Try.prog 71 cs q = cs[q]? := by kernel_rfl
@[simp] theorem po71 (cs : Array Value) (q : Nat) : partOf Try.prog 71 cs q = cs[q]? := by kernel_rfl
@[simp] theorem ze71 : zeroOf Try.prog 71 = some { toList := [Value.pointer none] } := by kernel_rfl
@[simp] theorem un71 : Try.prog.underlying 71 = some (TypeDesc.pointer 78) := by kernel_rfl
@[simp] theorem bt71 : (Try.prog.info? 71).map (·.bytes) = some 8 := by kernel_rfl
@[simp] theorem ts72 : tsize Try.prog 72 = some 1 := by kernel_rfl
@[simp] theorem ld72 (cs : List Value) (q : Nat) : loadOf Try.prog 72 cs q = cs[q]? := by kernel_rfl
@[simp] theorem po72 (cs : Array Value) (q : Nat) : partOf Try.prog 72 cs q = cs[q]? := by kernel_rfl
@[simp] theorem ze72 : zeroOf Try.prog 72 = some { toList := [Value.nilFunc] } := by kernel_rfl
@[simp] theorem un72 : Try.prog.underlying 72 = some (TypeDesc.func { toList := [3] } { toList := [71] } false) := by kernel_rfl
@[simp] theorem bt72 : (Try.prog.info? 72).map (·.bytes) = some 8 := by kernel_rfl
@[simp] theorem ts73 : tsize Try.prog 73 = some 5 := by kernel_rfl
@[simp] theorem ld73 (cs : List Value) (q : Nat) : loadOf Try.prog 73 cs q = (slots cs q 5).map fun vs => .agg vs.toArray := by kernel_rfl
@[simp] theorem po73 (cs : Array Value) (q : Nat) : partOf Try.prog 73 cs q = some (.agg (cs.extract q (q + 5))) := by kernel_rfl
@[simp] theorem ze73 : zeroOf Try.prog 73 = some { toList := [Value.pointer none, Value.pointer none, Value.bool false, Value.int IntKind.i64 (0), Value.int IntKind.i64 (0)] } := by kernel_rfl
@[simp] theorem bt73 : (Try.prog.info? 73).map (·.bytes) = some 40 := by kernel_rfl
@[simp] theorem fl73_0 : fldOf Try.prog 73 0 = some (71, 0) := by kernel_rfl
@[simp] theorem fo73_0 : fieldOff Try.prog 73 0 = some 0 := by kernel_rfl
@[simp] theorem fl73_1 : fldOf Try.prog 73 1 = some (71, 1) := by kernel_rfl
@[simp] theorem fo73_1 : fieldOff Try.prog 73 1 = some 1 := by kernel_rfl
@[simp] theorem fl73_2 : fldOf Try.prog 73 2 = some (4, 2) := by kernel_rfl
@[simp] theorem fo73_2 : fieldOff Try.prog 73 2 = some 2 := by kernel_rfl
@[simp] theorem fl73_3 : fldOf Try.prog 73 3 = some (3, 3) := by kernel_rfl
@[simp] theorem fo73_3 : fieldOff Try.prog 73 3 = some 3 := by kernel_rfl
@[simp] theorem fl73_4 : fldOf Try.prog 73 4 = some (3, 4) := by kernel_rfl
@[simp] theorem fo73_4 : fieldOff Try.prog 73 4 = some 4 := by kernel_rfl
@[simp] theorem pa73 : placesOf Try.prog 73 = some (fun i => (#[(0, 1), (1, 1), (2, 1), (3, 1), (4, 1)] : Array (Nat × Nat))[i]?) := by kernel_rfl
@[simp] theorem ts74 : tsize Try.prog 74 = some 5 := by kernel_rfl
@[simp] theorem ld74 (cs : List Value) (q : Nat) : loadOf Try.prog 74 cs q = (slots cs q 5).map fun vs => .agg vs.toArray := by kernel_rfl
@[simp] theorem po74 (cs : Array Value) (q : Nat) : partOf Try.prog 74 cs q = some (.agg (cs.extract q (q + 5))) := by kernel_rfl
@[simp] theorem ze74 : zeroOf Try.prog 74 = some { toList := [Value.pointer none, Value.pointer none, Value.bool false, Value.int IntKind.i64 (0), Value.int IntKind.i64 (0)] } := by kernel_rfl
@[simp] theorem bt74 : (Try.prog.info? 74).map (·.bytes) = some 40 := by kernel_rfl
@[simp] theorem fl74_0 : fldOf Try.prog 74 0 = some (71, 0) := by kernel_rfl
@[simp] theorem fo74_0 : fieldOff Try.prog 74 0 = some 0 := by kernel_rfl
@[simp] theorem fl74_1 : fldOf Try.prog 74 1 = some (71, 1) := by kernel_rfl
@[simp] theorem fo74_1 : fieldOff Try.prog 74 1 = some 1 := by kernel_rfl
@[simp] theorem fl74_2 : fldOf Try.prog 74 2 = some (4, 2) := by kernel_rfl
@[simp] theorem fo74_2 : fieldOff Try.prog 74 2 = some 2 := by kernel_rfl
@[simp] theorem fl74_3 : fldOf Try.prog 74 3 = some (3, 3) := by kernel_rfl
@[simp] theorem fo74_3 : fieldOff Try.prog 74 3 = some 3 := by kernel_rfl
@[simp] theorem fl74_4 : fldOf Try.prog 74 4 = some (3, 4) := by kernel_rfl
@[simp] theorem fo74_4 : fieldOff Try.prog 74 4 = some 4 := by kernel_rfl
@[simp] theorem pa74 : placesOf Try.prog 74 = some (fun i => (#[(0, 1), (1, 1), (2, 1), (3, 1), (4, 1)] : Array (Nat × Nat))[i]?) := by kernel_rfl
@[simp] theorem ts75 : tsize Try.prog 75 = some 1 := by kernel_rfl
@[simp] theorem ld75 (cs : List Value) (q : Nat) : loadOf Try.prog 75 cs q = cs[q]? := by kernel_rfl
@[simp] theorem po75 (cs : Array Value) (q : Nat) : partOf Try.prog 75 cs q = cs[q]? := by kernel_rfl
@[simp] theorem sl75 : slcOf Try.prog 75 = some (4, 1) := by kernel_rfl
@[simp] theorem ze75 : zeroOf Try.prog 75 = some { toList := [Value.slice none 0 0] } := by kernel_rfl
@[simp] theorem un75 : Try.prog.underlying 75 = some (TypeDesc.slice 4) := by kernel_rfl
@[simp] theorem bt75 : (Try.prog.info? 75).map (·.bytes) = some 24 := by kernel_rfl
@[simp] theorem ts76 : tsize Try.prog 76 = some 1 := by kernel_rfl
@[simp] theorem ld76 (cs : List Value) (q : Nat) : loadOf Try.prog 76 cs q = cs[q]? := by kernel_rfl
@[simp] theorem po76 (cs : Array Value) (q : Nat) : partOf Try.prog 76 cs q = cs[q]? := by kernel_rfl
@[simp] theorem sl76 : slcOf Try.prog 76 = some (32, 2) := by kernel_rfl
@[simp] theorem ze76 : zeroOf Try.prog 76 = some { toList := [Value.slice none 0 0] } := by kernel_rfl
@[simp] theorem un76 : Try.prog.underlying 76 = some (TypeDesc.slice 32) := by kernel_rfl
@[simp] theorem bt76 : (Try.prog.info? 76).map (·.bytes) = some 24 := by kernel_rfl
@[simp] theorem ts77 : tsize Try.prog 77 = some 3 := by kernel_rfl
@[simp] theorem ld77 (cs : List Value) (q : Nat) : loadOf Try.prog 77 cs q = (slots cs q 3).map fun vs => .agg vs.toArray := by kernel_rfl
@[simp] theorem po77 (cs : Array Value) (q : Nat) : partOf Try.prog 77 cs q = some (.agg (cs.extract q (q + 3))) := by kernel_rfl
@[simp] theorem ze77 : zeroOf Try.prog 77 = some { toList := [Value.slice none 0 0, Value.slice none 0 0, Value.slice none 0 0] } := by kernel_rfl
@[simp] theorem bt77 : (Try.prog.info? 77).map (·.bytes) = some 72 := by kernel_rfl
@[simp] theorem fl77_0 : fldOf Try.prog 77 0 = some (75, 0) := by kernel_rfl
@[simp] theorem fo77_0 : fieldOff Try.prog 77 0 = some 0 := by kernel_rfl
@[simp] theorem fl77_1 : fldOf Try.prog 77 1 = some (75, 1) := by kernel_rfl
@[simp] theorem fo77_1 : fieldOff Try.prog 77 1 = some 1 := by kernel_rfl
@[simp] theorem fl77_2 : fldOf Try.prog 77 2 = some (76, 2) := by kernel_rfl
@[simp] theorem fo77_2 : fieldOff Try.prog 77 2 = some 2 := by kernel_rfl
@[simp] theorem pa77 : placesOf Try.prog 77 = some (fun i => (#[(0, 1), (1, 1), (2, 1)] : Array (Nat × Nat))[i]?) := by kernel_rfl
@[simp] theorem ts78 : tsize Try.prog 78 = some 3 := by kernel_rfl
@[simp] theorem ld78 (cs : List Value) (q : Nat) : loadOf Try.prog 78 cs q = (slots cs q 3).map fun vs => .agg vs.toArray := by kernel_rfl
@[simp] theorem po78 (cs : Array Value) (q : Nat) : partOf Try.prog 78 cs q = some (.agg (cs.extract q (q + 3))) := by kernel_rfl
@[simp] theorem ze78 : zeroOf Try.prog 78 = some { toList := [Value.slice none 0 0, Value.slice none 0 0, Value.slice none 0 0] } := by kernel_rfl
@[simp] theorem bt78 : (Try.prog.info? 78).map (·.bytes) = some 72 := by kernel_rfl
@[simp] theorem fl78_0 : fldOf Try.prog 78 0 = some (75, 0) := by kernel_rfl
@[simp] theorem fo78_0 : fieldOff Try.prog 78 0 = some 0 := by kernel_rfl
@[simp] theorem fl78_1 : fldOf Try.prog 78 1 = some (75, 1) := by kernel_rfl
@[simp] theorem fo78_1 : fieldOff Try.prog 78 1 = some 1 := by kernel_rfl
@[simp] theorem fl78_2 : fldOf Try.prog 78 2 = some (76, 2) := by kernel_rfl
@[simp] theorem fo78_2 : fieldOff Try.prog 78 2 = some 2 := by kernel_rfl
@[simp] theorem pa78 : placesOf Try.prog 78 = some (fun i => (#[(0, 1), (1, 1), (2, 1)] : Array (Nat × Nat))[i]?) := by kernel_rfl
@[simp] theorem ts79 : tsize Try.prog 79 = some 1 := by kernel_rfl
@[simp] theorem ld79 (cs : List Value) (q : Nat) : loadOf Try.prog 79 cs q = cs[q]? := by kernel_rfl
@[simp] theorem po79 (cs : Array Value) (q : Nat) : partOf Try.prog 79 cs q = cs[q]? := by kernel_rfl
@[simp] theorem un79 : Try.prog.underlying 79 = some (TypeDesc.tuple { toList := [3, 4] }) := by kernel_rfl
@[simp] theorem bt79 : (Try.prog.info? 79).map (·.bytes) = some 0 := by kernel_rfl
@[simp] theorem ts80 : tsize Try.prog 80 = some 1 := by kernel_rfl
@[simp] theorem ld80 (cs : List Value) (q : Nat) : loadOf Try.prog 80 cs q = cs[q]? := by kernel_rfl
@[simp] theorem po80 (cs : Array Value) (q : Nat) : partOf Try.prog 80 cs q = cs[q]? := by kernel_rfl
@[simp] theorem ze80 : zeroOf Try.prog 80 = some { toList := [Value.nilFunc] } := by kernel_rfl
@[simp] theorem un80 : Try.prog.underlying 80 = some (TypeDesc.func { toList := [23, 30] } { toList := [3, 4] } false) := by kernel_rfl
@[simp] theorem bt80 : (Try.prog.info? 80).map (·.bytes) = some 8 := by kernel_rfl
@[simp] theorem ts81 : tsize Try.prog 81 = some 1 := by kernel_rfl
@[simp] theorem ld81 (cs : List Value) (q : Nat) : loadOf Try.prog 81 cs q = cs[q]? := by kernel_rfl
@[simp] theorem po81 (cs : Array Value) (q : Nat) : partOf Try.prog 81 cs q = cs[q]? := by kernel_rfl
@[simp] theorem ze81 : zeroOf Try.prog 81 = some { toList := [Value.nilFunc] } := by kernel_rfl
@[simp] theorem un81 : Try.prog.underlying 81 = some (TypeDesc.func { toList := [] } { toList := [49] } false) := by kernel_rfl
@[simp] theorem bt81 : (Try.prog.info? 81).map (·.bytes) = some 8 := by kernel_rfl
@[simp] theorem ts82 : tsize Try.prog 82 = some 1 := by kernel_rfl
@[simp] theorem ld82 (cs : List Value) (q : Nat) : loadOf Try.prog 82 cs q = cs[q]? := by kernel_rfl
@[simp] theorem po82 (cs : Array Value) (q : Nat) : partOf Try.prog 82 cs q = cs[q]? := by kernel_rfl
@[simp] theorem ze82 : zeroOf Try.prog 82 = some { toList := [Value.nilFunc] } := by kernel_rfl
@[simp] theorem un82 : Try.prog.underlying 82 = some (TypeDesc.func { toList := [] } { toList := [71] } false) := by kernel_rfl
@[simp] theorem bt82 : (Try.prog.info? 82).map (·.bytes) = some 8 := by kernel_rfl
@[simp] theorem ts83 : tsize Try.prog 83 = some 1 := by kernel_rfl
@[simp] theorem ld83 (cs : List Value) (q : Nat) : loadOf Try.prog 83 cs q = cs[q]? := by kernel_rfl
@[simp] theorem po83 (cs : Array Value) (q : Nat) : partOf Try.prog 83 cs q = cs[q]? := by kernel_rfl
@[simp] theorem ze83 : zeroOf Try.prog 83 = some { toList := [Value.nilFunc] } := by kernel_rfl
@[simp] theorem un83 : Try.prog.underlying 83 = some (TypeDesc.func { toList := [] } { toList := [76] } false) := by kernel_rfl
@[simp] theorem bt83 : (Try.prog.info? 83).map (·.bytes) = some 8 := by kernel_rfl
@[simp] theorem ts84 : tsize Try.prog 84 = some 2 := by kernel_rfl
@[simp] theorem ld84 (cs : List Value) (q : Nat) : loadOf Try.prog 84 cs q = (slots cs q 2).map fun vs => .agg vs.toArray := by kernel_rfl
@[simp] theorem po84 (cs : Array Value) (q : Nat) : partOf Try.prog 84 cs q = some (.agg (cs.extract q (q + 2))) := by kernel_rfl
@[simp] theorem ar84 : arrOf Try.prog 84 = some (2, 1) := by kernel_rfl
@[simp] theorem pa84 : placesOf Try.prog 84 = some (fun i => some (i * 1, 1)) := by kernel_rfl
@[simp] theorem ze84 : zeroOf Try.prog 84 = some { toList := [Value.pointer none, Value.pointer none] } := by kernel_rfl
@[simp] theorem un84 : Try.prog.underlying 84 = some (TypeDesc.array 2 49) := by kernel_rfl
@[simp] theorem bt84 : (Try.prog.info? 84).map (·.bytes) = some 16 := by kernel_rfl
@[simp] theorem ts85 : tsize Try.prog 85 = some 1 := by kernel_rfl
@[simp] theorem ld85 (cs : List Value) (q : Nat) : loadOf Try.prog 85 cs q = cs[q]? := by kernel_rfl
@[simp] theorem po85 (cs : Array Value) (q : Nat) : partOf Try.prog 85 cs q = cs[q]? := by kernel_rfl
@[simp] theorem ze85 : zeroOf Try.prog 85 = some { toList := [Value.nilFunc] } := by kernel_rfl
@[simp] theorem un85 : Try.prog.underlying 85 = some (TypeDesc.func { toList := [103] } { toList := [] } false) := by kernel_rfl
@[simp] theorem bt85 : (Try.prog.info? 85).map (·.bytes) = some 8 := by kernel_rfl
@[simp] theorem ts86 : tsize Try.prog 86 = some 1 := by kernel_rfl
@[simp] theorem ld86 (cs : List Value) (q : Nat) : loadOf Try.prog 86 cs q = cs[q]? := by kernel_rfl
@[simp] theorem po86 (cs : Array Value) (q : Nat) : partOf Try.prog 86 cs q = cs[q]? := by kernel_rfl
@[simp] theorem ze86 : zeroOf Try.prog 86 = some { toList := [Value.nilFunc] } := by kernel_rfl
@[simp] theorem un86 : Try.prog.underlying 86 = some (TypeDesc.func { toList := [103] } { toList := [] } false) := by kernel_rfl
@[simp] theorem bt86 : (Try.prog.info? 86).map (·.bytes) = some 8 := by kernel_rfl
@[simp] theorem ts87 : tsize Try.prog 87 = some 1 := by kernel_rfl
@[simp] theorem ld87 (cs : List Value) (q : Nat) : loadOf Try.prog 87 cs q = cs[q]? := by kernel_rfl
@[simp] theorem po87 (cs : Array Value) (q : Nat) : partOf Try.prog 87 cs q = cs[q]? := by kernel_rfl
@[simp] theorem ze87 : zeroOf Try.prog 87 = some { toList := [Value.nilFunc] } := by kernel_rfl
@[simp] theorem un87 : Try.prog.underlying 87 = some (TypeDesc.func { toList := [] } { toList := [86] } false) := by kernel_rfl
@[simp] theorem bt87 : (Try.prog.info? 87).map (·.bytes) = some 8 := by kernel_rfl
@[simp] theorem ts88 : tsize Try.prog 88 = some 1 := by kernel_rfl
@[simp] theorem ld88 (cs : List Value) (q : Nat) : loadOf Try.prog 88 cs q = cs[q]? := by kernel_rfl
@[simp] theorem po88 (cs : Array Value) (q : Nat) : partOf Try.prog 88 cs q = cs[q]? := by kernel_rfl
@[simp] theorem sl88 : slcOf Try.prog 88 = some (94, 3) := by kernel_rfl
@[simp] theorem ze88 : zeroOf Try.prog 88 = some { toList := [Value.slice none 0 0] } := by kernel_rfl
@[simp] theorem un88 : Try.prog.underlying 88 = some (TypeDesc.slice 94) := by kernel_rfl
@[simp] theorem bt88 : (Try.prog.info? 88).map (·.bytes) = some 24 := by kernel_rfl
@[simp] theorem ts89 : tsize Try.prog 89 = some 3 := by kernel_rfl
@[simp] theorem ld89 (cs : List Value) (q : Nat) : loadOf Try.prog 89 cs q = (slots cs q 3).map fun vs => .agg vs.toArray := by kernel_rfl
@[simp] theorem po89 (cs : Array Value) (q : Nat) : partOf Try.prog 89 cs q = some (.agg (cs.extract q (q + 3))) := by kernel_rfl
@[simp] theorem ze89 : zeroOf Try.prog 89 = some { toList := [Value.slice none 0 0, Value.int IntKind.i64 (0), Value.int IntKind.i64 (0)] } := by kernel_rfl
@[simp] theorem bt89 : (Try.prog.info? 89).map (·.bytes) = some 40 := by kernel_rfl
@[simp] theorem fl89_0 : fldOf Try.prog 89 0 = some (88, 0) := by kernel_rfl
@[simp] theorem fo89_0 : fieldOff Try.prog 89 0 = some 0 := by kernel_rfl
@[simp] theorem fl89_1 : fldOf Try.prog 89 1 = some (3, 1) := by kernel_rfl
@[simp] theorem fo89_1 : fieldOff Try.prog 89 1 = some 1 := by kernel_rfl
@[simp] theorem fl89_2 : fldOf Try.prog 89 2 = some (3, 2) := by kernel_rfl
@[simp] theorem fo89_2 : fieldOff Try.prog 89 2 = some 2 := by kernel_rfl
@[simp] theorem pa89 : placesOf Try.prog 89 = some (fun i => (#[(0, 1), (1, 1), (2, 1)] : Array (Nat × Nat))[i]?) := by kernel_rfl
@[simp] theorem ts90 : tsize Try.prog 90 = some 3 := by kernel_rfl
@[simp] theorem ld90 (cs : List Value) (q : Nat) : loadOf Try.prog 90 cs q = (slots cs q 3).map fun vs => .agg vs.toArray := by kernel_rfl
@[simp] theorem po90 (cs : Array Value) (q : Nat) : partOf Try.prog 90 cs q = some (.agg (cs.extract q (q + 3))) := by kernel_rfl
@[simp] theorem ze90 : zeroOf Try.prog 90 = some { toList := [Value.slice none 0 0, Value.int IntKind.i64 (0), Value.int IntKind.i64 (0)] } := by kernel_rfl
@[simp] theorem bt90 : (Try.prog.info? 90).map (·.bytes) = some 40 := by kernel_rfl
@[simp] theorem fl90_0 : fldOf Try.prog 90 0 = some (88, 0) := by kernel_rfl
@[simp] theorem fo90_0 : fieldOff Try.prog 90 0 = some 0 := by kernel_rfl
@[simp] theorem fl90_1 : fldOf Try.prog 90 1 = some (3, 1) := by kernel_rfl
@[simp] theorem fo90_1 : fieldOff Try.prog 90 1 = some 1 := by kernel_rfl
@[simp] theorem fl90_2 : fldOf Try.prog 90 2 = some (3, 2) := by kernel_rfl
@[simp] theorem fo90_2 : fieldOff Try.prog 90 2 = some 2 := by kernel_rfl
@[simp] theorem pa90 : placesOf Try.prog 90 = some (fun i => (#[(0, 1), (1, 1), (2, 1)] : Array (Nat × Nat))[i]?) := by kernel_rfl
@[simp] theorem ts91 : tsize Try.prog 91 = some 1 := by kernel_rfl
@[simp] theorem ld91 (cs : List Value) (q : Nat) : loadOf Try.prog 91 cs q = cs[q]? := by kernel_rfl
@[simp] theorem po91 (cs : Array Value) (q : Nat) : partOf Try.prog 91 cs q = cs[q]? := by kernel_rfl
@[simp] theorem ze91 : zeroOf Try.prog 91 = some { toList := [Value.nilFunc] } := by kernel_rfl
@[simp] theorem un91 : Try.prog.underlying 91 = some (TypeDesc.func { toList := [23, 62] } { toList := [3, 4] } false) := by kernel_rfl
@[simp] theorem bt91 : (Try.prog.info? 91).map (·.bytes) = some 8 := by kernel_rfl
@[simp] theorem ts92 : tsize Try.prog 92 = some 1 := by kernel_rfl
@[simp] theorem ld92 (cs : List Value) (q : Nat) : loadOf Try.prog 92 cs q = cs[q]? := by kernel_rfl
@[simp] theorem po92 (cs : Array Value) (q : Nat) : partOf Try.prog 92 cs q = cs[q]? := by kernel_rfl
@[simp] theorem ze92 : zeroOf Try.prog 92 = some { toList := [Value.int IntKind.u8 (0)] } := by kernel_rfl
@[simp] theorem un92 : Try.prog.underlying 92 = some (TypeDesc.int IntKind.u8) := by kernel_rfl
@[simp] theorem bt92 : (Try.prog.info? 92).map (·.bytes) = some 1 := by kernel_rfl
@[simp] theorem ts93 : tsize Try.prog 93 = some 3 := by kernel_rfl
@[simp] theorem ld93 (cs : List Value) (q : Nat) : loadOf Try.prog 93 cs q = (slots cs q 3).map fun vs => .agg vs.toArray := by kernel_rfl
@[simp] theorem po93 (cs : Array Value) (q : Nat) : partOf Try.prog 93 cs q = some (.agg (cs.extract q (q + 3))) := by kernel_rfl
@[simp] theorem ze93 : zeroOf Try.prog 93 = some { toList := [Value.int IntKind.u64 (0), Value.int IntKind.u32 (0), Value.int IntKind.u8 (0)] } := by kernel_rfl
@[simp] theorem bt93 : (Try.prog.info? 93).map (·.bytes) = some 24 := by kernel_rfl
@[simp] theorem fl93_0 : fldOf Try.prog 93 0 = some (32, 0) := by kernel_rfl
@[simp] theorem fo93_0 : fieldOff Try.prog 93 0 = some 0 := by kernel_rfl
@[simp] theorem fl93_1 : fldOf Try.prog 93 1 = some (92, 2) := by kernel_rfl
@[simp] theorem fo93_1 : fieldOff Try.prog 93 1 = some 2 := by kernel_rfl
@[simp] theorem pa93 : placesOf Try.prog 93 = some (fun i => (#[(0, 2), (2, 1)] : Array (Nat × Nat))[i]?) := by kernel_rfl
@[simp] theorem ts94 : tsize Try.prog 94 = some 3 := by kernel_rfl
@[simp] theorem ld94 (cs : List Value) (q : Nat) : loadOf Try.prog 94 cs q = (slots cs q 3).map fun vs => .agg vs.toArray := by kernel_rfl
@[simp] theorem po94 (cs : Array Value) (q : Nat) : partOf Try.prog 94 cs q = some (.agg (cs.extract q (q + 3))) := by kernel_rfl
@[simp] theorem ze94 : zeroOf Try.prog 94 = some { toList := [Value.int IntKind.u64 (0), Value.int IntKind.u32 (0), Value.int IntKind.u8 (0)] } := by kernel_rfl
@[simp] theorem bt94 : (Try.prog.info? 94).map (·.bytes) = some 24 := by kernel_rfl
@[simp] theorem fl94_0 : fldOf Try.prog 94 0 = some (32, 0) := by kernel_rfl
@[simp] theorem fo94_0 : fieldOff Try.prog 94 0 = some 0 := by kernel_rfl
@[simp] theorem fl94_1 : fldOf Try.prog 94 1 = some (92, 2) := by kernel_rfl
@[simp] theorem fo94_1 : fieldOff Try.prog 94 1 = some 2 := by kernel_rfl
@[simp] theorem pa94 : placesOf Try.prog 94 = some (fun i => (#[(0, 2), (2, 1)] : Array (Nat × Nat))[i]?) := by kernel_rfl
@[simp] theorem ts95 : tsize Try.prog 95 = some 1 := by kernel_rfl
@[simp] theorem ld95 (cs : List Value) (q : Nat) : loadOf Try.prog 95 cs q = cs[q]? := by kernel_rfl
@[simp] theorem po95 (cs : Array Value) (q : Nat) : partOf Try.prog 95 cs q = cs[q]? := by kernel_rfl
@[simp] theorem ze95 : zeroOf Try.prog 95 = some { toList := [Value.nilFunc] } := by kernel_rfl
@[simp] theorem un95 : Try.prog.underlying 95 = some (TypeDesc.func { toList := [104] } { toList := [] } false) := by kernel_rfl
@[simp] theorem bt95 : (Try.prog.info? 95).map (·.bytes) = some 8 := by kernel_rfl
@[simp] theorem ts96 : tsize Try.prog 96 = some 1 := by kernel_rfl
@[simp] theorem ld96 (cs : List Value) (q : Nat) : loadOf Try.prog 96 cs q = cs[q]? := by kernel_rfl
@[simp] theorem po96 (cs : Array Value) (q : Nat) : partOf Try.prog 96 cs q = cs[q]? := by kernel_rfl
@[simp] theorem ze96 : zeroOf Try.prog 96 = some { toList := [Value.nilFunc] } := by kernel_rfl
@[simp] theorem un96 : Try.prog.underlying 96 = some (TypeDesc.func { toList := [104] } { toList := [] } false) := by kernel_rfl
@[simp] theorem bt96 : (Try.prog.info? 96).map (·.bytes) = some 8 := by kernel_rfl
@[simp] theorem ts97 : tsize Try.prog 97 = some 1 := by kernel_rfl
@[simp] theorem ld97 (cs : List Value) (q : Nat) : loadOf Try.prog 97 cs q = cs[q]? := by kernel_rfl
@[simp] theorem po97 (cs : Array Value) (q : Nat) : partOf Try.prog 97 cs q = cs[q]? := by kernel_rfl
@[simp] theorem ze97 : zeroOf Try.prog 97 = some { toList := [Value.nilFunc] } := by kernel_rfl
@[simp] theorem un97 : Try.prog.underlying 97 = some (TypeDesc.func { toList := [23] } { toList := [96] } false) := by kernel_rfl
@[simp] theorem bt97 : (Try.prog.info? 97).map (·.bytes) = some 8 := by kernel_rfl
@[simp] theorem ts98 : tsize Try.prog 98 = some 1 := by kernel_rfl
@[simp] theorem ld98 (cs : List Value) (q : Nat) : loadOf Try.prog 98 cs q = cs[q]? := by kernel_rfl
@[simp] theorem po98 (cs : Array Value) (q : Nat) : partOf Try.prog 98 cs q = cs[q]? := by kernel_rfl
@[simp] theorem ze98 : zeroOf Try.prog 98 = some { toList := [Value.nilFunc] } := by kernel_rfl
@[simp] theorem un98 : Try.prog.underlying 98 = some (TypeDesc.func { toList := [75] } { toList := [3] } false) := by kernel_rfl
@[simp] theorem bt98 : (Try.prog.info? 98).map (·.bytes) = some 8 := by kernel_rfl
@[simp] theorem ts99 : tsize Try.prog 99 = some 1 := by kernel_rfl
@[simp] theorem ld99 (cs : List Value) (q : Nat) : loadOf Try.prog 99 cs q = cs[q]? := by kernel_rfl
@[simp] theorem po99 (cs : Array Value) (q : Nat) : partOf Try.prog 99 cs q = cs[q]? := by kernel_rfl
@[simp] theorem ze99 : zeroOf Try.prog 99 = some { toList := [Value.nilFunc] } := by kernel_rfl
@[simp] theorem un99 : Try.prog.underlying 99 = some (TypeDesc.func { toList := [23] } { toList := [3] } false) := by kernel_rfl
@[simp] theorem bt99 : (Try.prog.info? 99).map (·.bytes) = some 8 := by kernel_rfl
@[simp] theorem ts100 : tsize Try.prog 100 = some 1 := by kernel_rfl
@[simp] theorem ld100 (cs : List Value) (q : Nat) : loadOf Try.prog 100 cs q = cs[q]? := by kernel_rfl
@[simp] theorem po100 (cs : Array Value) (q : Nat) : partOf Try.prog 100 cs q = cs[q]? := by kernel_rfl
@[simp] theorem sl100 : slcOf Try.prog 100 = some (3, 1) := by kernel_rfl
@[simp] theorem ze100 : zeroOf Try.prog 100 = some { toList := [Value.slice none 0 0] } := by kernel_rfl
@[simp] theorem un100 : Try.prog.underlying 100 = some (TypeDesc.slice 3) := by kernel_rfl
@[simp] theorem bt100 : (Try.prog.info? 100).map (·.bytes) = some 24 := by kernel_rfl
@[simp] theorem ts101 : tsize Try.prog 101 = some 1 := by kernel_rfl
@[simp] theorem ld101 (cs : List Value) (q : Nat) : loadOf Try.prog 101 cs q = cs[q]? := by kernel_rfl
@[simp] theorem po101 (cs : Array Value) (q : Nat) : partOf Try.prog 101 cs q = cs[q]? := by kernel_rfl
@[simp] theorem ze101 : zeroOf Try.prog 101 = some { toList := [Value.nilFunc] } := by kernel_rfl
@[simp] theorem un101 : Try.prog.underlying 101 = some (TypeDesc.func { toList := [23] } { toList := [100] } false) := by kernel_rfl
@[simp] theorem bt101 : (Try.prog.info? 101).map (·.bytes) = some 8 := by kernel_rfl
@[simp] theorem ts102 : tsize Try.prog 102 = some 1 := by kernel_rfl
@[simp] theorem ld102 (cs : List Value) (q : Nat) : loadOf Try.prog 102 cs q = cs[q]? := by kernel_rfl
@[simp] theorem po102 (cs : Array Value) (q : Nat) : partOf Try.prog 102 cs q = cs[q]? := by kernel_rfl
@[simp] theorem ze102 : zeroOf Try.prog 102 = some { toList := [Value.nilFunc] } := by kernel_rfl
@[simp] theorem un102 : Try.prog.underlying 102 = some (TypeDesc.func { toList := [88] } { toList := [88] } false) := by kernel_rfl
@[simp] theorem bt102 : (Try.prog.info? 102).map (·.bytes) = some 8 := by kernel_rfl
@[simp] theorem ts103 : tsize Try.prog 103 = some 1 := by kernel_rfl
@[simp] theorem ld103 (cs : List Value) (q : Nat) : loadOf Try.prog 103 cs q = cs[q]? := by kernel_rfl
@[simp] theorem po103 (cs : Array Value) (q : Nat) : partOf Try.prog 103 cs q = cs[q]? := by kernel_rfl
@[simp] theorem ze103 : zeroOf Try.prog 103 = some { toList := [Value.nilFunc] } := by kernel_rfl
@[simp] theorem un103 : Try.prog.underlying 103 = some (TypeDesc.func { toList := [3, 32] } { toList := [4] } false) := by kernel_rfl
@[simp] theorem bt103 : (Try.prog.info? 103).map (·.bytes) = some 8 := by kernel_rfl
@[simp] theorem ts104 : tsize Try.prog 104 = some 1 := by kernel_rfl
@[simp] theorem ld104 (cs : List Value) (q : Nat) : loadOf Try.prog 104 cs q = cs[q]? := by kernel_rfl
@[simp] theorem po104 (cs : Array Value) (q : Nat) : partOf Try.prog 104 cs q = cs[q]? := by kernel_rfl
@[simp] theorem ze104 : zeroOf Try.prog 104 = some { toList := [Value.nilFunc] } := by kernel_rfl
@[simp] theorem un104 : Try.prog.underlying 104 = some (TypeDesc.func { toList := [3, 94] } { toList := [4] } false) := by kernel_rfl
@[simp] theorem bt104 : (Try.prog.info? 104).map (·.bytes) = some 8 := by kernel_rfl
@[simp] theorem ts105 : tsize Try.prog 105 = some 1 := by kernel_rfl
@[simp] theorem ld105 (cs : List Value) (q : Nat) : loadOf Try.prog 105 cs q = cs[q]? := by kernel_rfl
@[simp] theorem po105 (cs : Array Value) (q : Nat) : partOf Try.prog 105 cs q = cs[q]? := by kernel_rfl
@[simp] theorem ze105 : zeroOf Try.prog 105 = some { toList := [Value.nilFunc] } := by kernel_rfl
@[simp] theorem un105 : Try.prog.underlying 105 = some (TypeDesc.func { toList := [] } { toList := [9] } false) := by kernel_rfl
@[simp] theorem bt105 : (Try.prog.info? 105).map (·.bytes) = some 8 := by kernel_rfl
@[simp] theorem ts106 : tsize Try.prog 106 = some 4 := by kernel_rfl
@[simp] theorem ld106 (cs : List Value) (q : Nat) : loadOf Try.prog 106 cs q = (slots cs q 4).map fun vs => .agg vs.toArray := by kernel_rfl
@[simp] theorem po106 (cs : Array Value) (q : Nat) : partOf Try.prog 106 cs q = some (.agg (cs.extract q (q + 4))) := by kernel_rfl
@[simp] theorem ze106 : zeroOf Try.prog 106 = some { toList := [Value.pointer none, Value.pointer none, Value.pointer none, Value.string { data := { toList := [] } }] } := by kernel_rfl
@[simp] theorem bt106 : (Try.prog.info? 106).map (·.bytes) = some 40 := by kernel_rfl
@[simp] theorem fl106_0 : fldOf Try.prog 106 0 = some (17, 0) := by kernel_rfl
@[simp] theorem fo106_0 : fieldOff Try.prog 106 0 = some 0 := by kernel_rfl
@[simp] theorem fl106_1 : fldOf Try.prog 106 1 = some (17, 1) := by kernel_rfl
@[simp] theorem fo106_1 : fieldOff Try.prog 106 1 = some 1 := by kernel_rfl
@[simp] theorem fl106_2 : fldOf Try.prog 106 2 = some (17, 2) := by kernel_rfl
@[simp] theorem fo106_2 : fieldOff Try.prog 106 2 = some 2 := by kernel_rfl
@[simp] theorem fl106_3 : fldOf Try.prog 106 3 = some (9, 3) := by kernel_rfl
@[simp] theorem fo106_3 : fieldOff Try.prog 106 3 = some 3 := by kernel_rfl
@[simp] theorem pa106 : placesOf Try.prog 106 = some (fun i => (#[(0, 1), (1, 1), (2, 1), (3, 1)] : Array (Nat × Nat))[i]?) := by kernel_rfl
@[simp] theorem ts107 : tsize Try.prog 107 = some 4 := by kernel_rfl
@[simp] theorem ld107 (cs : List Value) (q : Nat) : loadOf Try.prog 107 cs q = (slots cs q 4).map fun vs => .agg vs.toArray := by kernel_rfl
@[simp] theorem po107 (cs : Array Value) (q : Nat) : partOf Try.prog 107 cs q = some (.agg (cs.extract q (q + 4))) := by kernel_rfl
@[simp] theorem ze107 : zeroOf Try.prog 107 = some { toList := [Value.pointer none, Value.pointer none, Value.pointer none, Value.string { data := { toList := [] } }] } := by kernel_rfl
@[simp] theorem bt107 : (Try.prog.info? 107).map (·.bytes) = some 40 := by kernel_rfl
@[simp] theorem fl107_0 : fldOf Try.prog 107 0 = some (17, 0) := by kernel_rfl
@[simp] theorem fo107_0 : fieldOff Try.prog 107 0 = some 0 := by kernel_rfl
@[simp] theorem fl107_1 : fldOf Try.prog 107 1 = some (17, 1) := by kernel_rfl
@[simp] theorem fo107_1 : fieldOff Try.prog 107 1 = some 1 := by kernel_rfl
@[simp] theorem fl107_2 : fldOf Try.prog 107 2 = some (17, 2) := by kernel_rfl
@[simp] theorem fo107_2 : fieldOff Try.prog 107 2 = some 2 := by kernel_rfl
@[simp] theorem fl107_3 : fldOf Try.prog 107 3 = some (9, 3) := by kernel_rfl
@[simp] theorem fo107_3 : fieldOff Try.prog 107 3 = some 3 := by kernel_rfl
@[simp] theorem pa107 : placesOf Try.prog 107 = some (fun i => (#[(0, 1), (1, 1), (2, 1), (3, 1)] : Array (Nat × Nat))[i]?) := by kernel_rfl
@[simp] theorem ts108 : tsize Try.prog 108 = some 0 := by kernel_rfl
@[simp] theorem ld108 (cs : List Value) (q : Nat) : loadOf Try.prog 108 cs q = (slots cs q 0).map fun vs => .agg vs.toArray := by kernel_rfl
@[simp] theorem po108 (cs : Array Value) (q : Nat) : partOf Try.prog 108 cs q = some (.agg (cs.extract q (q + 0))) := by kernel_rfl
@[simp] theorem ar108 : arrOf Try.prog 108 = some (0, 1) := by kernel_rfl
@[simp] theorem pa108 : placesOf Try.prog 108 = some (fun i => some (i * 1, 1)) := by kernel_rfl
@[simp] theorem ze108 : zeroOf Try.prog 108 = some { toList := [] } := by kernel_rfl
@[simp] theorem un108 : Try.prog.underlying 108 = some (TypeDesc.array 0 16) := by kernel_rfl
@[simp] theorem bt108 : (Try.prog.info? 108).map (·.bytes) = some 0 := by kernel_rfl
@[simp] theorem ts109 : tsize Try.prog 109 = some 0 := by kernel_rfl
@[simp] theorem ld109 (cs : List Value) (q : Nat) : loadOf Try.prog 109 cs q = (slots cs q 0).map fun vs => .agg vs.toArray := by kernel_rfl
@[simp] theorem po109 (cs : Array Value) (q : Nat) : partOf Try.prog 109 cs q = some (.agg (cs.extract q (q + 0))) := by kernel_rfl
@[simp] theorem ze109 : zeroOf Try.prog 109 = some { toList := [] } := by kernel_rfl
@[simp] theorem bt109 : (Try.prog.info? 109).map (·.bytes) = some 0 := by kernel_rfl
@[simp] theorem fl109_0 : fldOf Try.prog 109 0 = some (108, 0) := by kernel_rfl
@[simp] theorem pa109 : placesOf Try.prog 109 = some (fun i => (#[(0, 0)] : Array (Nat × Nat))[i]?) := by kernel_rfl
@[simp] theorem ts110 : tsize Try.prog 110 = some 0 := by kernel_rfl
@[simp] theorem ld110 (cs : List Value) (q : Nat) : loadOf Try.prog 110 cs q = (slots cs q 0).map fun vs => .agg vs.toArray := by kernel_rfl
@[simp] theorem po110 (cs : Array Value) (q : Nat) : partOf Try.prog 110 cs q = some (.agg (cs.extract q (q + 0))) := by kernel_rfl
@[simp] theorem ze110 : zeroOf Try.prog 110 = some { toList := [] } := by kernel_rfl
@[simp] theorem bt110 : (Try.prog.info? 110).map (·.bytes) = some 0 := by kernel_rfl
@[simp] theorem fl110_0 : fldOf Try.prog 110 0 = some (108, 0) := by kernel_rfl
@[simp] theorem pa110 : placesOf Try.prog 110 = some (fun i => (#[(0, 0)] : Array (Nat × Nat))[i]?) := by kernel_rfl
@[simp] theorem ts111 : tsize Try.prog 111 = some 1 := by kernel_rfl
@[simp] theorem ld111 (cs : List Value) (q : Nat) : loadOf Try.prog 111 cs q = cs[q]? := by kernel_rfl
@[simp] theorem po111 (cs : Array Value) (q : Nat) : partOf Try.prog 111 cs q = cs[q]? := by kernel_rfl
@[simp] theorem ze111 : zeroOf Try.prog 111 = some { toList := [Value.int IntKind.u8 (0)] } := by kernel_rfl
@[simp] theorem un111 : Try.prog.underlying 111 = some (TypeDesc.int IntKind.u8) := by kernel_rfl
@[simp] theorem bt111 : (Try.prog.info? 111).map (·.bytes) = some 1 := by kernel_rfl
@[simp] theorem ts112 : tsize Try.prog 112 = some 1 := by kernel_rfl
@[simp] theorem ld112 (cs : List Value) (q : Nat) : loadOf Try.prog 112 cs q = cs[q]? := by kernel_rfl
@[simp] theorem po112 (cs : Array Value) (q : Nat) : partOf Try.prog 112 cs q = cs[q]? := by kernel_rfl
@[simp] theorem ze112 : zeroOf Try.prog 112 = some { toList := [Value.int IntKind.u8 (0)] } := by kernel_rfl
@[simp] theorem un112 : Try.prog.underlying 112 = some (TypeDesc.int IntKind.u8) := by kernel_rfl
@[simp] theorem bt112 : (Try.prog.info? 112).map (·.bytes) = some 1 := by kernel_rfl
@[simp] theorem ts113 : tsize Try.prog 113 = some 1 := by kernel_rfl
@[simp] theorem ld113 (cs : List Value) (q : Nat) : loadOf Try.prog 113 cs q = cs[q]? := by kernel_rfl
@[simp] theorem po113 (cs : Array Value) (q : Nat) : partOf Try.prog 113 cs q = cs[q]? := by kernel_rfl
@[simp] theorem ze113 : zeroOf Try.prog 113 = some { toList := [Value.nilFunc] } := by kernel_rfl
@[simp] theorem un113 : Try.prog.underlying 113 = some (TypeDesc.func { toList := [119, 119] } { toList := [4] } false) := by kernel_rfl
@[simp] theorem bt113 : (Try.prog.info? 113).map (·.bytes) = some 8 := by kernel_rfl
@[simp] theorem ts114 : tsize Try.prog 114 = some 1 := by kernel_rfl
@[simp] theorem ld114 (cs : List Value) (q : Nat) : loadOf Try.prog 114 cs q = cs[q]? := by kernel_rfl
@[simp] theorem po114 (cs : Array Value) (q : Nat) : partOf Try.prog 114 cs q = cs[q]? := by kernel_rfl
@[simp] theorem ze114 : zeroOf Try.prog 114 = some { toList := [Value.pointer none] } := by kernel_rfl
@[simp] theorem un114 : Try.prog.underlying 114 = some (TypeDesc.pointer 5) := by kernel_rfl
@[simp] theorem bt114 : (Try.prog.info? 114).map (·.bytes) = some 8 := by kernel_rfl
@[simp] theorem ts115 : tsize Try.prog 115 = some 1 := by kernel_rfl
@[simp] theorem ld115 (cs : List Value) (q : Nat) : loadOf Try.prog 115 cs q = cs[q]? := by kernel_rfl
@[simp] theorem po115 (cs : Array Value) (q : Nat) : partOf Try.prog 115 cs q = cs[q]? := by kernel_rfl
@[simp] theorem ze115 : zeroOf Try.prog 115 = some { toList := [Value.int IntKind.i32 (0)] } := by kernel_rfl
@[simp] theorem un115 : Try.prog.underlying 115 = some (TypeDesc.int IntKind.i32) := by kernel_rfl
@[simp] theorem bt115 : (Try.prog.info? 115).map (·.bytes) = some 4 := by kernel_rfl
@[simp] theorem ts116 : tsize Try.prog 116 = some 1 := by kernel_rfl
@[simp] theorem ld116 (cs : List Value) (q : Nat) : loadOf Try.prog 116 cs q = cs[q]? := by kernel_rfl
@[simp] theorem po116 (cs : Array Value) (q : Nat) : partOf Try.prog 116 cs q = cs[q]? := by kernel_rfl
@[simp] theorem ze116 : zeroOf Try.prog 116 = some { toList := [Value.int IntKind.i32 (0)] } := by kernel_rfl
@[simp] theorem un116 : Try.prog.underlying 116 = some (TypeDesc.int IntKind.i32) := by kernel_rfl
@[simp] theorem bt116 : (Try.prog.info? 116).map (·.bytes) = some 4 := by kernel_rfl
@[simp] theorem ts117 : tsize Try.prog 117 = some 11 := by kernel_rfl
@[simp] theorem ld117 (cs : List Value) (q : Nat) : loadOf Try.prog 117 cs q = (slots cs q 11).map fun vs => .agg vs.toArray := by kernel_rfl
@[simp] theorem po117 (cs : Array Value) (q : Nat) : partOf Try.prog 117 cs q = some (.agg (cs.extract q (q + 11))) := by kernel_rfl
@[simp] theorem ze117 : zeroOf Try.prog 117 = some { toList := [Value.int IntKind.u64 (0), Value.int IntKind.u64 (0), Value.int IntKind.u32 (0), Value.int IntKind.u8 (0), Value.int IntKind.u8 (0), Value.int IntKind.u8 (0), Value.int IntKind.u8 (0), Value.nilFunc, Value.pointer none, Value.int IntKind.i32 (0), Value.int IntKind.i32 (0)] } := by kernel_rfl
@[simp] theorem bt117 : (Try.prog.info? 117).map (·.bytes) = some 48 := by kernel_rfl
@[simp] theorem fl117_0 : fldOf Try.prog 117 0 = some (12, 0) := by kernel_rfl
@[simp] theorem fo117_0 : fieldOff Try.prog 117 0 = some 0 := by kernel_rfl
@[simp] theorem fl117_1 : fldOf Try.prog 117 1 = some (12, 1) := by kernel_rfl
@[simp] theorem fo117_1 : fieldOff Try.prog 117 1 = some 1 := by kernel_rfl
@[simp] theorem fl117_2 : fldOf Try.prog 117 2 = some (30, 2) := by kernel_rfl
@[simp] theorem fo117_2 : fieldOff Try.prog 117 2 = some 2 := by kernel_rfl
@[simp] theorem fl117_3 : fldOf Try.prog 117 3 = some (111, 3) := by kernel_rfl
@[simp] theorem fo117_3 : fieldOff Try.prog 117 3 = some 3 := by kernel_rfl
@[simp] theorem fl117_4 : fldOf Try.prog 117 4 = some (5, 4) := by kernel_rfl
@[simp] theorem fo117_4 : fieldOff Try.prog 117 4 = some 4 := by kernel_rfl
@[simp] theorem fl117_5 : fldOf Try.prog 117 5 = some (5, 5) := by kernel_rfl
@[simp] theorem fo117_5 : fieldOff Try.prog 117 5 = some 5 := by kernel_rfl
@[simp] theorem fl117_6 : fldOf Try.prog 117 6 = some (112, 6) := by kernel_rfl
@[simp] theorem fo117_6 : fieldOff Try.prog 117 6 = some 6 := by kernel_rfl
@[simp] theorem fl117_7 : fldOf Try.prog 117 7 = some (113, 7) := by kernel_rfl
@[simp] theorem fo117_7 : fieldOff Try.prog 117 7 = some 7 := by kernel_rfl
@[simp] theorem fl117_8 : fldOf Try.prog 117 8 = some (114, 8) := by kernel_rfl
@[simp] theorem fo117_8 : fieldOff Try.prog 117 8 = some 8 := by kernel_rfl
@[simp] theorem fl117_9 : fldOf Try.prog 117 9 = some (115, 9) := by kernel_rfl
@[simp] theorem fo117_9 : fieldOff Try.prog 117 9 = some 9 := by kernel_rfl
@[simp] theorem fl117_10 : fldOf Try.prog 117 10 = some (116, 10) := by kernel_rfl
@[simp] theorem fo117_10 : fieldOff Try.prog 117 10 = some 10 := by kernel_rfl
@[simp] theorem pa117 : placesOf Try.prog 117 = some (fun i => (#[(0, 1), (1, 1), (2, 1), (3, 1), (4, 1), (5, 1), (6, 1), (7, 1), (8, 1), (9, 1), (10, 1)] : Array (Nat × Nat))[i]?) := by kernel_rfl
@[simp] theorem ts118 : tsize Try.prog 118 = some 11 := by kernel_rfl
@[simp] theorem ld118 (cs : List Value) (q : Nat) : loadOf Try.prog 118 cs q = (slots cs q 11).map fun vs => .agg vs.toArray := by kernel_rfl
@[simp] theorem po118 (cs : Array Value) (q : Nat) : partOf Try.prog 118 cs q = some (.agg (cs.extract q (q + 11))) := by kernel_rfl
@[simp] theorem ze118 : zeroOf Try.prog 118 = some { toList := [Value.int IntKind.u64 (0), Value.int IntKind.u64 (0), Value.int IntKind.u32 (0), Value.int IntKind.u8 (0), Value.int IntKind.u8 (0), Value.int IntKind.u8 (0), Value.int IntKind.u8 (0), Value.nilFunc, Value.pointer none, Value.int IntKind.i32 (0), Value.int IntKind.i32 (0)] } := by kernel_rfl
@[simp] theorem bt118 : (Try.prog.info? 118).map (·.bytes) = some 48 := by kernel_rfl
@[simp] theorem fl118_0 : fldOf Try.prog 118 0 = some (12, 0) := by kernel_rfl
@[simp] theorem fo118_0 : fieldOff Try.prog 118 0 = some 0 := by kernel_rfl
@[simp] theorem fl118_1 : fldOf Try.prog 118 1 = some (12, 1) := by kernel_rfl
@[simp] theorem fo118_1 : fieldOff Try.prog 118 1 = some 1 := by kernel_rfl
@[simp] theorem fl118_2 : fldOf Try.prog 118 2 = some (30, 2) := by kernel_rfl
@[simp] theorem fo118_2 : fieldOff Try.prog 118 2 = some 2 := by kernel_rfl
@[simp] theorem fl118_3 : fldOf Try.prog 118 3 = some (111, 3) := by kernel_rfl
@[simp] theorem fo118_3 : fieldOff Try.prog 118 3 = some 3 := by kernel_rfl
@[simp] theorem fl118_4 : fldOf Try.prog 118 4 = some (5, 4) := by kernel_rfl
@[simp] theorem fo118_4 : fieldOff Try.prog 118 4 = some 4 := by kernel_rfl
@[simp] theorem fl118_5 : fldOf Try.prog 118 5 = some (5, 5) := by kernel_rfl
@[simp] theorem fo118_5 : fieldOff Try.prog 118 5 = some 5 := by kernel_rfl
@[simp] theorem fl118_6 : fldOf Try.prog 118 6 = some (112, 6) := by kernel_rfl
@[simp] theorem fo118_6 : fieldOff Try.prog 118 6 = some 6 := by kernel_rfl
@[simp] theorem fl118_7 : fldOf Try.prog 118 7 = some (113, 7) := by kernel_rfl
@[simp] theorem fo118_7 : fieldOff Try.prog 118 7 = some 7 := by kernel_rfl
@[simp] theorem fl118_8 : fldOf Try.prog 118 8 = some (114, 8) := by kernel_rfl
@[simp] theorem fo118_8 : fieldOff Try.prog 118 8 = some 8 := by kernel_rfl
@[simp] theorem fl118_9 : fldOf Try.prog 118 9 = some (115, 9) := by kernel_rfl
@[simp] theorem fo118_9 : fieldOff Try.prog 118 9 = some 9 := by kernel_rfl
@[simp] theorem fl118_10 : fldOf Try.prog 118 10 = some (116, 10) := by kernel_rfl
@[simp] theorem fo118_10 : fieldOff Try.prog 118 10 = some 10 := by kernel_rfl
@[simp] theorem pa118 : placesOf Try.prog 118 = some (fun i => (#[(0, 1), (1, 1), (2, 1), (3, 1), (4, 1), (5, 1), (6, 1), (7, 1), (8, 1), (9, 1), (10, 1)] : Array (Nat × Nat))[i]?) := by kernel_rfl
@[simp] theorem ts119 : tsize Try.prog 119 = some 1 := by kernel_rfl
@[simp] theorem ld119 (cs : List Value) (q : Nat) : loadOf Try.prog 119 cs q = cs[q]? := by kernel_rfl
@[simp] theorem po119 (cs : Array Value) (q : Nat) : partOf Try.prog 119 cs q = cs[q]? := by kernel_rfl
@[simp] theorem ze119 : zeroOf Try.prog 119 = some { toList := [Value.pointer none] } := by kernel_rfl
@[simp] theorem un119 : Try.prog.underlying 119 = some TypeDesc.unsafePointer := by kernel_rfl
@[simp] theorem bt119 : (Try.prog.info? 119).map (·.bytes) = some 8 := by kernel_rfl
@[simp] theorem fn3 : fnB Try.prog 3 = true := by kernel_rfl
@[simp] theorem fn4 : fnB Try.prog 4 = true := by kernel_rfl
@[simp] theorem fn5 : fnB Try.prog 5 = true := by kernel_rfl
@[simp] theorem fn6 : fnB Try.prog 6 = true := by kernel_rfl
@[simp] theorem fn7 : fnB Try.prog 7 = true := by kernel_rfl
@[simp] theorem fn8 : fnB Try.prog 8 = true := by kernel_rfl
@[simp] theorem fn9 : fnB Try.prog 9 = true := by kernel_rfl
@[simp] theorem fn10 : fnB Try.prog 10 = true := by kernel_rfl
@[simp] theorem fn11 : fnB Try.prog 11 = true := by kernel_rfl
@[simp] theorem fn12 : fnB Try.prog 12 = true := by kernel_rfl
@[simp] theorem fn13 : fnB Try.prog 13 = true := by kernel_rfl
@[simp] theorem fn14 : fnB Try.prog 14 = true := by kernel_rfl
@[simp] theorem fn15 : fnB Try.prog 15 = true := by kernel_rfl
@[simp] theorem fn16 : fnB Try.prog 16 = true := by kernel_rfl
@[simp] theorem fn17 : fnB Try.prog 17 = true := by kernel_rfl
@[simp] theorem fn18 : fnB Try.prog 18 = true := by kernel_rfl
@[simp] theorem fn19 : fnB Try.prog 19 = true := by kernel_rfl
@[simp] theorem fn20 : fnB Try.prog 20 = true := by kernel_rfl
@[simp] theorem fn21 : fnB Try.prog 21 = true := by kernel_rfl
@[simp] theorem fn22 : fnB Try.prog 22 = true := by kernel_rfl
@[simp] theorem fn23 : fnB Try.prog 23 = true := by kernel_rfl
@[simp] theorem fn24 : fnB Try.prog 24 = true := by kernel_rfl
@[simp] theorem fn25 : fnB Try.prog 25 = true := by kernel_rfl
@[simp] theorem fn26 : fnB Try.prog 26 = true := by kernel_rfl
@[simp] theorem fn27 : fnB Try.prog 27 = true := by kernel_rfl
@[simp] theorem fn28 : fnB Try.prog 28 = true := by kernel_rfl
@[simp] theorem fn29 : fnB Try.prog 29 = true := by kernel_rfl
@[simp] theorem fn30 : fnB Try.prog 30 = true := by kernel_rfl
@[simp] theorem fn31 : fnB Try.prog 31 = true := by kernel_rfl
@[simp] theorem fn32 : fnB Try.prog 32 = true := by kernel_rfl
@[simp] theorem fn33 : fnB Try.prog 33 = true := by kernel_rfl
@[simp] theorem fn34 : fnB Try.prog 34 = true := by kernel_rfl
@[simp] theorem fn35 : fnB Try.prog 35 = true := by kernel_rfl
@[simp] theorem fn36 : fnB Try.prog 36 = true := by kernel_rfl
@[simp] theorem fn37 : fnB Try.prog 37 = true := by kernel_rfl
@[simp] theorem fn38 : fnB Try.prog 38 = true := by kernel_rfl
@[simp] theorem fn39 : fnB Try.prog 39 = true := by kernel_rfl
@[simp] theorem fn40 : fnB Try.prog 40 = true := by kernel_rfl
@[simp] theorem fn41 : fnB Try.prog 41 = true := by kernel_rfl
@[simp] theorem fn42 : fnB Try.prog 42 = true := by kernel_rfl
@[simp] theorem fn43 : fnB Try.prog 43 = true := by kernel_rfl
@[simp] theorem fn44 : fnB Try.prog 44 = true := by kernel_rfl
@[simp] theorem fn45 : fnB Try.prog 45 = true := by kernel_rfl
@[simp] theorem fn46 : fnB Try.prog 46 = true := by kernel_rfl
@[simp] theorem fn47 : fnB Try.prog 47 = true := by kernel_rfl
@[simp] theorem fn48 : fnB Try.prog 48 = true := by kernel_rfl
@[simp] theorem fn49 : fnB Try.prog 49 = true := by kernel_rfl
@[simp] theorem fn50 : fnB Try.prog 50 = true := by kernel_rfl
@[simp] theorem fn51 : fnB Try.prog 51 = true := by kernel_rfl
@[simp] theorem fn52 : fnB Try.prog 52 = true := by kernel_rfl
@[simp] theorem fn53 : fnB Try.prog 53 = true := by kernel_rfl
@[simp] theorem fn54 : fnB Try.prog 54 = true := by kernel_rfl
@[simp] theorem fn55 : fnB Try.prog 55 = true := by kernel_rfl
@[simp] theorem fn56 : fnB Try.prog 56 = true := by kernel_rfl
@[simp] theorem fn57 : fnB Try.prog 57 = true := by kernel_rfl
@[simp] theorem fn58 : fnB Try.prog 58 = true := by kernel_rfl
@[simp] theorem fn59 : fnB Try.prog 59 = true := by kernel_rfl
@[simp] theorem fn60 : fnB Try.prog 60 = true := by kernel_rfl
@[simp] theorem fn61 : fnB Try.prog 61 = true := by kernel_rfl
@[simp] theorem fn62 : fnB Try.prog 62 = true := by kernel_rfl
@[simp] theorem fn63 : fnB Try.prog 63 = true := by kernel_rfl
@[simp] theorem fn64 : fnB Try.prog 64 = true := by kernel_rfl
@[simp] theorem fn65 : fnB Try.prog 65 = true := by kernel_rfl
end Go.Proofs.Ytmobpbhbllhdcaa.Ideal
