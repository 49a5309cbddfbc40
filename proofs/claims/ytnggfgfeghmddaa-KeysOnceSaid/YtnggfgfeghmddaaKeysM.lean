/-
  The plain forms of the functions that the statement reaches, and that each is its function's body. (Written by program.)
-/
import Derived.Test.YtnggfgfeghmddaaKeysMa
set_option linter.unusedVariables false
set_option maxRecDepth 100000
set_option maxHeartbeats 4000000
namespace Go.Proofs.Ytnggfgfeghmddaa
namespace NM
open AM Go.RowKit
/- drayage/drayagelaw37.KeysOnce -/
def n5 : NFunc := ⟨143, .seq (.region 0 [
 ⟨(some 4), .move (.const (.bool false)), none, 0, none⟩] []) (.seq (.seq (.region 4 [
 ⟨(some 19), .call (.func 23) [] false 4, none, 0, none⟩,
 ⟨(some 20), .un .not (.tmp 19), none, 4, none⟩] []) (.cond (.tmp 20) (.seq (.region 0 [
 ⟨(some 4), .move (.const (.bool false)), none, 0, none⟩] []) (.ret)) (.skip))) (.seq (.seq (.region 4 [
 ⟨(some 21), .move (.tmp 1), none, 0, none⟩,
 ⟨(some 22), .call (.func 24) [(false, (.tmp 21))] false 4, none, 0, none⟩,
 ⟨(some 23), .un .not (.tmp 22), none, 4, none⟩,
 ⟨(some 24), .move (.tmp 23), none, 4, none⟩,
 ⟨(some 25), .move (.tmp 0), (some (24, false)), 4, none⟩,
 ⟨(some 26), .bin .lss (.tmp 25) (.const (.int .i64 (1))), (some (24, false)), 4, none⟩,
 ⟨(some 27), .pick (.tmp 24) (.const (.bool true)) (.tmp 26), none, 4, none⟩,
 ⟨(some 28), .move (.tmp 27), none, 4, none⟩,
 ⟨(some 29), .move (.tmp 0), (some (28, false)), 4, none⟩,
 ⟨(some 30), .bin .gtr (.tmp 29) (.const (.int .i64 (16))), (some (28, false)), 4, none⟩,
 ⟨(some 31), .pick (.tmp 28) (.const (.bool true)) (.tmp 30), none, 4, none⟩] []) (.cond (.tmp 31) (.seq (.region 0 [
 ⟨(some 4), .move (.const (.bool true)), none, 0, none⟩] []) (.ret)) (.skip))) (.seq (.meet [0, 5, 1, 6] [] ⟨[(5, (.ptr 0 0 0)), (6, (.v (.int .i64)))], [0, 1], [.cell false (.cons (.v (.int .i64)) (.cons (.slw 1 2) .nil)), .many 2 (.cons (.cons (.v (.int .i64)) (.cons .zsl .nil)) (.cons (.cons (.v (.int .i64)) (.cons .zsl .nil)) .nil))]⟩ (.region 4 [
 ⟨(some 33), .move (.tmp 0), none, 0, none⟩,
 ⟨(some 34), .call (.func 25) [(false, (.const (.int .i64 (2)))), (false, (.tmp 33))] false 4, none, 0, none⟩,
 ⟨(some 32), .move (.tmp 34), none, 4, none⟩,
 ⟨(some 35), .extract (.tmp 32) 0, none, 4, none⟩,
 ⟨(some 36), .extract (.tmp 32) 1, none, 4, none⟩,
 ⟨(some 5), .move (.tmp 35), none, 4, none⟩,
 ⟨(some 6), .move (.tmp 36), none, 4, none⟩] [])) (.seq (.seq (.region 0 [
 ⟨(some 37), .move (.tmp 6), none, 0, none⟩,
 ⟨(some 38), .bin .neq (.tmp 37) (.const (.int .i64 (0))), none, 0, none⟩] []) (.cond (.tmp 38) (.seq (.region 0 [
 ⟨(some 4), .move (.const (.bool false)), none, 0, none⟩] []) (.ret)) (.skip))) (.seq (.region 0 [
 ⟨(some 7), .move (.const (.zsl)), none, 0, none⟩] []) (.seq (.region 1 [
 ⟨(some 39), .build [.int .i64 (0), .int .i64 (0)] [], none, 0, none⟩,
 ⟨(some 8), .alloc [.int .i64 (0), .int .i64 (0)], none, 0, none⟩,
 ⟨none, .store 2 (.tmp 8) (.tmp 39), none, 1, none⟩] []) (.seq (.seq (.region 0 [
 ⟨(some 40), .move (.tmp 1), none, 0, none⟩,
 ⟨(some 41), .len (.tmp 40), none, 0, none⟩,
 ⟨(some 42), .move (.const (.int .i64 (0))), none, 0, none⟩] []) (.block 0 (.pre [0, 5, 7, 8, 40, 41, 42] [.matP 5 [(0, 1), (0, 1)] 26 true, .matP 5 [(0, 1), (1, 1)] 26 true, .mat 7 24 true] (.loop [0, 5, 7, 8, 40, 41, 42] ⟨[(5, (.ptr 0 0 0)), (7, (.slw 1 24)), (8, (.ptr 2 0 0)), (42, (.v (.int .i64)))], [0, 40, 41], [.cell false (.cons (.v (.int .i64)) (.cons (.slw 3 2) .nil)), .typed (.pair .bool (.pair (.int .i64) (.pair .request .reply))), .one false (.pair (.int .i64) (.int .i64)), .many 2 (.cons (.cons (.v (.int .i64)) (.cons (.slw 4 26) .nil)) (.cons (.cons (.v (.int .i64)) (.cons (.slw 5 26) .nil)) .nil)), .typed .entry, .typed .entry]⟩ (.seq (.region 0 [
 ⟨(some 43), .bin .lss (.tmp 42) (.tmp 41), none, 0, none⟩] []) (.seq (.cond (.tmp 43) (.skip) (.exit 0)) (.seq (.block 1 (.seq (.region 1 [
 ⟨(some 44), .indexSl 24 (.tmp 40) (.tmp 42), none, 0, none⟩,
 ⟨(some 45), .load true 24 (.tmp 44), none, 0, none⟩,
 ⟨(some 10), .alloc [.bool false, .int .i64 (0), .int .i64 (0), .int .i64 (0), .int .i64 (0), .int .i64 (0), .int .i64 (0), .int .i64 (0), .int .i64 (0), .int .i64 (0), .int .i64 (0), .int .i64 (0), .int .i64 (0), .int .i64 (0), .zsl, .int .i64 (0), .int .i64 (0), .int .i64 (0), .int .i64 (0), .int .i64 (0), .int .i64 (0), .int .i64 (0), .int .i64 (0), .zsl], none, 0, none⟩,
 ⟨none, .store 24 (.tmp 10) (.tmp 45), none, 1, none⟩] []) (.seq (.region 0 [
 ⟨(some 46), .fieldAddr 1 (.tmp 10), none, 0, none⟩,
 ⟨(some 47), .load false 1 (.tmp 46), none, 0, none⟩,
 ⟨(some 48), .bin .and (.tmp 47) (.const (.int .i64 (1))), none, 0, none⟩,
 ⟨(some 11), .move (.tmp 48), none, 0, none⟩] []) (.seq (.region 0 [
 ⟨(some 49), .move (.tmp 11), none, 0, none⟩,
 ⟨(some 50), .fieldAddr 1 (.tmp 10), none, 0, none⟩,
 ⟨none, .store 1 (.tmp 50) (.tmp 49), none, 0, none⟩] []) (.seq (.meet [0, 5, 7, 8, 40, 41, 42, 11] [] ⟨[(5, (.ptr 0 0 0)), (7, (.slw 1 24)), (8, (.ptr 2 0 0))], [0, 11, 40, 41, 42], [.cell false (.cons (.v (.int .i64)) (.cons (.slw 3 2) .nil)), .typed (.pair .bool (.pair (.int .i64) (.pair .request .reply))), .one false (.pair (.int .i64) (.int .i64)), .many 2 (.cons (.cons (.v (.int .i64)) (.cons (.slw 4 26) .nil)) (.cons (.cons (.v (.int .i64)) (.cons (.slw 5 26) .nil)) .nil)), .typed .entry, .typed .entry]⟩ (.seq (.region 4 [
 ⟨(some 51), .move (.tmp 5), none, 0, none⟩,
 ⟨(some 52), .move (.tmp 11), none, 0, none⟩,
 ⟨(some 53), .fieldAddr 2 (.tmp 10), none, 0, none⟩,
 ⟨(some 54), .load true 17 (.tmp 53), none, 0, none⟩,
 ⟨(some 55), .fieldAddr 19 (.tmp 10), none, 0, none⟩,
 ⟨(some 56), .load true 5 (.tmp 55), none, 0, none⟩,
 ⟨(some 57), .call (.func 26) [(true, (.tmp 51)), (false, (.tmp 52)), (false, (.tmp 54)), (false, (.tmp 56))] false 4, none, 0, none⟩,
 ⟨(some 58), .bin .eql (.tmp 57) (.const (.int .i64 (0))), none, 4, none⟩] []) (.cond (.tmp 58) (.region 2 [
 ⟨(some 59), .move (.tmp 7), none, 0, none⟩,
 ⟨(some 60), .load true 24 (.tmp 10), none, 0, none⟩,
 ⟨(some 61), .buildSlice 24 1 true [.bool false, .int .i64 (0), .int .i64 (0), .int .i64 (0), .int .i64 (0), .int .i64 (0), .int .i64 (0), .int .i64 (0), .int .i64 (0), .int .i64 (0), .int .i64 (0), .int .i64 (0), .int .i64 (0), .int .i64 (0), .zsl, .int .i64 (0), .int .i64 (0), .int .i64 (0), .int .i64 (0), .int .i64 (0), .int .i64 (0), .int .i64 (0), .int .i64 (0), .zsl] [(0, (.tmp 60))], none, 0, none⟩,
 ⟨(some 62), .append 24 224 true (.tmp 59) (.tmp 61), none, 1, none⟩,
 ⟨(some 7), .move (.tmp 62), none, 2, none⟩] []) (.skip)))) (.seq (.join [0, 5, 7, 8, 40, 41, 42, 11] [] ⟨[(5, (.ptr 0 0 0)), (7, (.slw 1 24)), (8, (.ptr 2 0 0))], [0, 11, 40, 41, 42], [.cell false (.cons (.v (.int .i64)) (.cons (.slw 3 2) .nil)), .typed (.pair .bool (.pair (.int .i64) (.pair .request .reply))), .one false (.pair (.int .i64) (.int .i64)), .many 2 (.cons (.cons (.v (.int .i64)) (.cons (.slw 4 26) .nil)) (.cons (.cons (.v (.int .i64)) (.cons (.slw 5 26) .nil)) .nil)), .typed .entry, .typed .entry]⟩ (.seq (.region 8 [
 ⟨(some 63), .move (.tmp 5), none, 0, (some ([], none))⟩,
 ⟨(some 64), .move (.tmp 11), none, 0, (some ([], none))⟩,
 ⟨(some 65), .call (.func 27) [(true, (.tmp 63)), (false, (.tmp 64))] false 4, none, 0, (some ([], some [0, 3, 4, 5]))⟩,
 ⟨(some 66), .move (.tmp 11), none, 4, (some ([], none))⟩,
 ⟨(some 67), .indexArr 2 1 (.tmp 8) (.tmp 66), none, 4, (some ([], none))⟩,
 ⟨(some 68), .load false 1 (.tmp 67), none, 4, (some ([], some [2]))⟩,
 ⟨(some 69), .bin .lss (.tmp 65) (.tmp 68), none, 4, (some ([0, 1, 2, 3], none))⟩,
 ⟨(some 70), .move (.tmp 69), none, 4, (some ([0, 1, 2, 3], none))⟩,
 ⟨(some 71), .move (.tmp 5), (some (70, false)), 4, (some ([0, 1, 2, 3], none))⟩,
 ⟨(some 72), .move (.tmp 11), (some (70, false)), 4, (some ([0, 1, 2, 3], none))⟩,
 ⟨(some 73), .call (.func 28) [(true, (.tmp 71)), (false, (.tmp 72))] false 4, (some (70, false)), 4, (some ([], some [0, 3, 4, 5]))⟩,
 ⟨(some 74), .len (.tmp 73), (some (70, false)), 8, (some ([0, 1, 2, 3, 4, 5, 6, 7], none))⟩,
 ⟨(some 75), .move (.tmp 0), (some (70, false)), 8, (some ([0, 1, 2, 3], none))⟩,
 ⟨(some 76), .bin .gtr (.tmp 74) (.tmp 75), (some (70, false)), 8, (some ([0, 1, 2, 3, 4, 5, 6, 7], none))⟩,
 ⟨(some 77), .pick (.tmp 70) (.const (.bool true)) (.tmp 76), none, 8, (some ([0, 1, 2, 3, 4, 5, 6, 7], none))⟩] [⟨67, none, some (66, 2)⟩]) (.cond (.tmp 77) (.seq (.region 0 [
 ⟨(some 4), .move (.const (.bool false)), none, 0, none⟩] []) (.ret)) (.skip)))) (.seq (.meet [0, 5, 7, 8, 40, 41, 42, 11] [] ⟨[(5, (.ptr 0 0 0)), (7, (.slw 1 24)), (8, (.ptr 2 0 0))], [0, 11, 40, 41, 42], [.cell false (.cons (.v (.int .i64)) (.cons (.slw 3 2) .nil)), .typed (.pair .bool (.pair (.int .i64) (.pair .request .reply))), .one false (.pair (.int .i64) (.int .i64)), .many 2 (.cons (.cons (.v (.int .i64)) (.cons (.slw 4 26) .nil)) (.cons (.cons (.v (.int .i64)) (.cons (.slw 5 26) .nil)) .nil)), .typed .entry, .typed .entry]⟩ (.region 4 [
 ⟨(some 78), .move (.tmp 11), none, 0, none⟩,
 ⟨(some 79), .move (.tmp 5), none, 0, none⟩,
 ⟨(some 80), .move (.tmp 11), none, 0, none⟩,
 ⟨(some 81), .call (.func 27) [(true, (.tmp 79)), (false, (.tmp 80))] false 4, none, 0, none⟩,
 ⟨(some 82), .indexArr 2 1 (.tmp 8) (.tmp 78), none, 4, none⟩,
 ⟨none, .store 1 (.tmp 82) (.tmp 81), none, 4, none⟩] [⟨82, none, some (78, 2)⟩])) (.seq (.meet [0, 5, 7, 8, 12, 40, 41, 42, 11] [] ⟨[(5, (.ptr 0 0 0)), (7, (.slw 1 24)), (8, (.ptr 2 0 0)), (12, (.v (.int .i64)))], [0, 11, 40, 41, 42], [.cell false (.cons (.v (.int .i64)) (.cons (.slw 3 2) .nil)), .typed (.pair .bool (.pair (.int .i64) (.pair .request .reply))), .one false (.pair (.int .i64) (.int .i64)), .many 2 (.cons (.cons (.v (.int .i64)) (.cons (.slw 4 26) .nil)) (.cons (.cons (.v (.int .i64)) (.cons (.slw 5 26) .nil)) .nil)), .typed .entry, .typed .entry]⟩ (.region 0 [
 ⟨(some 83), .move (.tmp 11), none, 0, none⟩,
 ⟨(some 84), .indexArr 2 1 (.tmp 8) (.tmp 83), none, 0, none⟩,
 ⟨(some 85), .load false 1 (.tmp 84), none, 0, none⟩,
 ⟨(some 12), .move (.tmp 85), none, 0, none⟩] [⟨84, none, some (83, 2)⟩])) (.seq (.seq (.region 4 [
 ⟨(some 86), .move (.tmp 5), none, 0, none⟩,
 ⟨(some 87), .move (.tmp 11), none, 0, none⟩,
 ⟨(some 88), .call (.func 28) [(true, (.tmp 86)), (false, (.tmp 87))] false 4, none, 0, none⟩,
 ⟨(some 89), .len (.tmp 88), none, 4, none⟩,
 ⟨(some 90), .move (.const (.int .i64 (0))), none, 4, none⟩] []) (.block 2 (.loop [0, 5, 7, 8, 12, 40, 41, 42, 88, 89, 90] ⟨[(5, (.ptr 0 0 0)), (7, (.slw 1 24)), (8, (.ptr 2 0 0)), (12, (.v (.int .i64))), (90, (.v (.int .i64)))], [0, 40, 41, 42, 88, 89], [.cell false (.cons (.v (.int .i64)) (.cons (.slw 3 2) .nil)), .typed (.pair .bool (.pair (.int .i64) (.pair .request .reply))), .one false (.pair (.int .i64) (.int .i64)), .many 2 (.cons (.cons (.v (.int .i64)) (.cons (.slw 4 26) .nil)) (.cons (.cons (.v (.int .i64)) (.cons (.slw 5 26) .nil)) .nil)), .typed .entry, .typed .entry]⟩ (.seq (.region 0 [
 ⟨(some 91), .bin .lss (.tmp 90) (.tmp 89), none, 0, none⟩] []) (.seq (.cond (.tmp 91) (.skip) (.exit 2)) (.seq (.block 3 (.seq (.region 1 [
 ⟨(some 92), .indexSl 26 (.tmp 88) (.tmp 90), none, 0, none⟩,
 ⟨(some 93), .load true 26 (.tmp 92), none, 0, none⟩,
 ⟨(some 14), .alloc [.int .i64 (0), .int .i64 (0), .int .i64 (0), .int .i64 (0), .int .i64 (0), .int .i64 (0), .int .i64 (0), .int .i64 (0), .int .i64 (0), .int .i64 (0), .int .i64 (0), .int .i64 (0), .int .i64 (0), .int .i64 (0), .zsl, .int .i64 (0), .int .i64 (0), .int .i64 (0), .int .i64 (0), .int .i64 (0), .int .i64 (0), .int .i64 (0), .int .i64 (0), .zsl, .int .i64 (0), .bool false], none, 0, none⟩,
 ⟨none, .store 26 (.tmp 14) (.tmp 93), none, 1, none⟩] []) (.seq (.seq (.region 0 [
 ⟨(some 94), .fieldAddr 2 (.tmp 14), none, 0, none⟩,
 ⟨(some 95), .fieldAddr 1 (.tmp 94), none, 0, none⟩,
 ⟨(some 96), .load false 1 (.tmp 95), none, 0, none⟩,
 ⟨(some 97), .move (.tmp 12), none, 0, none⟩,
 ⟨(some 98), .bin .leq (.tmp 96) (.tmp 97), none, 0, none⟩] []) (.cond (.tmp 98) (.seq (.region 0 [
 ⟨(some 4), .move (.const (.bool false)), none, 0, none⟩] []) (.ret)) (.skip))) (.region 0 [
 ⟨(some 99), .fieldAddr 2 (.tmp 14), none, 0, none⟩,
 ⟨(some 100), .fieldAddr 1 (.tmp 99), none, 0, none⟩,
 ⟨(some 101), .load false 1 (.tmp 100), none, 0, none⟩,
 ⟨(some 12), .move (.tmp 101), none, 0, none⟩] [])))) (.region 0 [
 ⟨(some 102), .bin .add (.tmp 90) (.const (.int .i64 (1))), none, 0, none⟩,
 ⟨(some 90), .move (.tmp 102), none, 0, none⟩] []))))))) (.seq (.region 0 [
 ⟨(some 103), .move (.tmp 7), none, 0, none⟩,
 ⟨(some 104), .len (.tmp 103), none, 0, none⟩,
 ⟨(some 105), .move (.const (.int .i64 (0))), none, 0, none⟩] []) (.block 4 (.loop [0, 5, 7, 8, 40, 41, 42, 103, 104, 105] ⟨[(5, (.ptr 0 0 0)), (7, (.slw 1 24)), (8, (.ptr 2 0 0)), (103, (.slw 1 24)), (105, (.v (.int .i64)))], [0, 40, 41, 42, 104], [.cell false (.cons (.v (.int .i64)) (.cons (.slw 3 2) .nil)), .typed (.pair .bool (.pair (.int .i64) (.pair .request .reply))), .one false (.pair (.int .i64) (.int .i64)), .many 2 (.cons (.cons (.v (.int .i64)) (.cons (.slw 4 26) .nil)) (.cons (.cons (.v (.int .i64)) (.cons (.slw 5 26) .nil)) .nil)), .typed .entry, .typed .entry]⟩ (.seq (.region 0 [
 ⟨(some 106), .bin .lss (.tmp 105) (.tmp 104), none, 0, none⟩] []) (.seq (.cond (.tmp 106) (.skip) (.exit 4)) (.seq (.block 5 (.seq (.region 1 [
 ⟨(some 107), .indexSl 24 (.tmp 103) (.tmp 105), none, 0, none⟩,
 ⟨(some 108), .load true 24 (.tmp 107), none, 0, none⟩,
 ⟨(some 16), .alloc [.bool false, .int .i64 (0), .int .i64 (0), .int .i64 (0), .int .i64 (0), .int .i64 (0), .int .i64 (0), .int .i64 (0), .int .i64 (0), .int .i64 (0), .int .i64 (0), .int .i64 (0), .int .i64 (0), .int .i64 (0), .zsl, .int .i64 (0), .int .i64 (0), .int .i64 (0), .int .i64 (0), .int .i64 (0), .int .i64 (0), .int .i64 (0), .int .i64 (0), .zsl], none, 0, none⟩,
 ⟨none, .store 24 (.tmp 16) (.tmp 108), none, 1, none⟩] []) (.seq (.region 5 [
 ⟨(some 110), .move (.tmp 5), none, 0, none⟩,
 ⟨(some 111), .fieldAddr 1 (.tmp 16), none, 0, none⟩,
 ⟨(some 112), .load false 1 (.tmp 111), none, 0, none⟩,
 ⟨(some 113), .fieldAddr 2 (.tmp 16), none, 0, none⟩,
 ⟨(some 114), .load true 17 (.tmp 113), none, 0, none⟩,
 ⟨(some 115), .call (.func 29) [(true, (.tmp 110)), (false, (.tmp 112)), (false, (.tmp 114))] false 4, none, 0, none⟩,
 ⟨(some 109), .move (.tmp 115), none, 4, none⟩,
 ⟨(some 116), .extract (.tmp 109) 0, none, 4, none⟩,
 ⟨(some 117), .extract (.tmp 109) 1, none, 4, none⟩,
 ⟨(some 18), .alloc [.int .i64 (0), .int .i64 (0), .int .i64 (0), .int .i64 (0), .zsl], none, 4, none⟩,
 ⟨(some 17), .move (.tmp 116), none, 5, none⟩,
 ⟨none, .store 5 (.tmp 18) (.tmp 117), none, 5, none⟩] []) (.seq (.region 8 [
 ⟨(some 118), .move (.tmp 17), none, 0, none⟩,
 ⟨(some 119), .bin .neq (.tmp 118) (.const (.int .i64 (2))), none, 0, none⟩,
 ⟨(some 120), .move (.tmp 119), none, 0, none⟩,
 ⟨(some 121), .move (.tmp 17), (some (120, true)), 0, none⟩,
 ⟨(some 122), .bin .neq (.tmp 121) (.const (.int .i64 (4))), (some (120, true)), 0, none⟩,
 ⟨(some 123), .pick (.tmp 120) (.tmp 122) (.const (.bool false)), none, 0, none⟩,
 ⟨(some 124), .move (.tmp 123), none, 0, none⟩,
 ⟨(some 125), .move (.tmp 17), (some (124, false)), 0, none⟩,
 ⟨(some 126), .bin .eql (.tmp 125) (.const (.int .i64 (2))), (some (124, false)), 0, none⟩,
 ⟨(some 127), .move (.tmp 126), (some (124, false)), 0, none⟩,
 ⟨(some 128), .load true 5 (.tmp 18), (some (127, true)), 0, none⟩,
 ⟨(some 129), .fieldAddr 19 (.tmp 16), (some (127, true)), 0, none⟩,
 ⟨(some 130), .load true 5 (.tmp 129), (some (127, true)), 0, none⟩,
 ⟨(some 131), .call (.func 30) [(false, (.tmp 128)), (false, (.tmp 130))] false 4, (some (127, true)), 0, none⟩,
 ⟨(some 132), .un .not (.tmp 131), (some (127, true)), 4, none⟩,
 ⟨(some 133), .pick (.tmp 127) (.tmp 132) (.const (.bool false)), (some (124, false)), 4, none⟩,
 ⟨(some 134), .pick (.tmp 124) (.const (.bool true)) (.tmp 133), none, 4, none⟩,
 ⟨(some 135), .move (.tmp 134), none, 4, none⟩,
 ⟨(some 136), .fieldAddr 2 (.tmp 16), (some (135, false)), 4, none⟩,
 ⟨(some 137), .load true 17 (.tmp 136), (some (135, false)), 4, none⟩,
 ⟨(some 138), .call (.func 31) [(false, (.tmp 137))] false 4, (some (135, false)), 4, none⟩,
 ⟨(some 139), .un .not (.tmp 138), (some (135, false)), 8, none⟩,
 ⟨(some 140), .pick (.tmp 135) (.const (.bool true)) (.tmp 139), none, 8, none⟩] []) (.cond (.tmp 140) (.seq (.region 0 [
 ⟨(some 4), .move (.const (.bool false)), none, 0, none⟩] []) (.ret)) (.skip)))))) (.region 0 [
 ⟨(some 141), .bin .add (.tmp 105) (.const (.int .i64 (1))), none, 0, none⟩,
 ⟨(some 105), .move (.tmp 141), none, 0, none⟩] [])))))))))))))))) (.region 0 [
 ⟨(some 142), .bin .add (.tmp 42) (.const (.int .i64 (1))), none, 0, none⟩,
 ⟨(some 42), .move (.tmp 142), none, 0, none⟩] [])))))))) (.seq (.region 0 [
 ⟨(some 4), .move (.const (.bool true)), none, 0, none⟩] []) (.ret))))))))), [.tmp 4], true⟩
def s5 : Sig := ⟨(.cons (.v (.int .i64)) (.cons (.v (.list (.pair .bool (.pair (.int .i64) (.pair .request .reply))))) .nil)), [], ((.v .bool), []), []⟩
def l5_0 (g29_1 : Int → Request → Int → Int → Int → (List Entry) → (List Entry) → Option ((Int × (Reply × Unit)) × ((Int × (Unit × Unit)) × (((Int × (Unit × Unit)) × ((Int × (Unit × Unit)) × Unit)) × ((List Entry) × ((List Entry) × Unit)))))) (g30 : Reply → Reply → Option Bool) (g31 : Request → Option Bool) (nx10 : (((Unit × (Unit × (Unit × (Int × Unit)))) × ((Int × (Unit × Unit)) × ((List (Bool × (Int × (Request × Reply)))) × ((Int × Int) × (((Int × (Unit × Unit)) × ((Int × (Unit × Unit)) × Unit)) × ((List Entry) × ((List Entry) × Unit))))))) → Option Bool)) (z11 : Int) (z38 : (List (Bool × (Int × (Request × Reply))))) (nx46 : ((Unit × (Unit × (Unit × (Unit × (Int × Unit))))) × ((Int × (Unit × Unit)) × ((List (Bool × (Int × (Request × Reply)))) × ((Int × Int) × (((Int × (Unit × Unit)) × ((Int × (Unit × Unit)) × Unit)) × ((List Entry) × ((List Entry) × Unit))))))) → Option Bool) (z47 : Int) (z48 : Int) (z49 : (List (Bool × (Int × (Request × Reply))))) (z50 : (Int × Int)) (z51 : Int) (z52 : Int) (z53 : (List Entry)) (z54 : (List Entry)) : Option Bool :=
 cond (decide (z47 < (List.length z38 : Int)))
 (cond (decide (0 ≤ z47))
 (cond (decide ((Int.toNat z47) < (List.length z49)))
 (Option.bind (z49[Int.toNat z47]?) fun y55 =>
 Option.bind (g29_1 y55.2.1 y55.2.2.1 z48 z51 z52 z53 z54) fun r56 =>
 cond (true && (true && ((decide ((List.length r56.2.2.2.1) = (List.length z53))) && ((decide ((List.length r56.2.2.2.2.1) = (List.length z54))) && true))))
 (cond (!decide (r56.1.1 = 2))
 (cond (!decide (r56.1.1 = 4))
 (some false)
 (cond (decide (r56.1.1 = 2))
 (Option.bind (g30 r56.1.2.1 y55.2.2.2) fun r57 =>
 cond (!r57)
 (some false)
 (Option.bind (g31 y55.2.2.1) fun r58 =>
 cond (!r58)
 (some false)
 (nx46 (((), (), (), (), IntKind.wrap .i64 (z47 + 1), ()), ((r56.2.1.1, (), ()), z49, z50, ((r56.2.2.1.1.1, (), ()), ((r56.2.2.1.2.1.1, (), ()), ())), r56.2.2.2.1, r56.2.2.2.2.1, ())))))
 (Option.bind (g31 y55.2.2.1) fun r59 =>
 cond (!r59)
 (some false)
 (nx46 (((), (), (), (), IntKind.wrap .i64 (z47 + 1), ()), ((r56.2.1.1, (), ()), z49, z50, ((r56.2.2.1.1.1, (), ()), ((r56.2.2.1.2.1.1, (), ()), ())), r56.2.2.2.1, r56.2.2.2.2.1, ()))))))
 (cond (decide (r56.1.1 = 2))
 (Option.bind (g30 r56.1.2.1 y55.2.2.2) fun r60 =>
 cond (!r60)
 (some false)
 (Option.bind (g31 y55.2.2.1) fun r61 =>
 cond (!r61)
 (some false)
 (nx46 (((), (), (), (), IntKind.wrap .i64 (z47 + 1), ()), ((r56.2.1.1, (), ()), z49, z50, ((r56.2.2.1.1.1, (), ()), ((r56.2.2.1.2.1.1, (), ()), ())), r56.2.2.2.1, r56.2.2.2.2.1, ())))))
 (Option.bind (g31 y55.2.2.1) fun r62 =>
 cond (!r62)
 (some false)
 (nx46 (((), (), (), (), IntKind.wrap .i64 (z47 + 1), ()), ((r56.2.1.1, (), ()), z49, z50, ((r56.2.2.1.1.1, (), ()), ((r56.2.2.1.2.1.1, (), ()), ())), r56.2.2.2.1, r56.2.2.2.2.1, ()))))))
 (none))
 (none))
 (none))
 (nx10 (((), (), (), IntKind.wrap .i64 (z11 + 1), ()), ((z48, (), ()), z49, z50, ((z51, (), ()), ((z52, (), ()), ())), z53, z54, ())))
def l5_1 (L : Lp) (g29_1 : Int → Request → Int → Int → Int → (List Entry) → (List Entry) → Option ((Int × (Reply × Unit)) × ((Int × (Unit × Unit)) × (((Int × (Unit × Unit)) × ((Int × (Unit × Unit)) × Unit)) × ((List Entry) × ((List Entry) × Unit)))))) (g30 : Reply → Reply → Option Bool) (g31 : Request → Option Bool) (nx10 : (((Unit × (Unit × (Unit × (Int × Unit)))) × ((Int × (Unit × Unit)) × ((List (Bool × (Int × (Request × Reply)))) × ((Int × Int) × (((Int × (Unit × Unit)) × ((Int × (Unit × Unit)) × Unit)) × ((List Entry) × ((List Entry) × Unit))))))) → Option Bool)) (z11 : Int) (r32 : ((List Entry) × ((Int × (Unit × Unit)) × (((Int × (Unit × Unit)) × ((Int × (Unit × Unit)) × Unit)) × ((List Entry) × ((List Entry) × Unit)))))) (nx34 : ((Unit × (Unit × (Unit × (Int × (Int × Unit))))) × ((Int × (Unit × Unit)) × ((List (Bool × (Int × (Request × Reply)))) × ((Int × Int) × (((Int × (Unit × Unit)) × ((Int × (Unit × Unit)) × Unit)) × ((List Entry) × ((List Entry) × Unit))))))) → Option Bool) (last35 : Int) (z36 : Int) (z37 : Int) (z38 : (List (Bool × (Int × (Request × Reply))))) (z39 : (Int × Int)) (z40 : Int) (z41 : Int) (z42 : (List Entry)) (z43 : (List Entry)) : Option Bool :=
 cond (decide (z36 < (List.length r32.1 : Int)))
 (cond (decide (0 ≤ z36))
 (Option.bind (r32.1[Int.toNat z36]?) fun y44 =>
 cond (decide (y44.request.key ≤ last35))
 (some false)
 (nx34 (((), (), (), y44.request.key, IntKind.wrap .i64 (z36 + 1), ()), ((z37, (), ()), z38, z39, ((z40, (), ()), ((z41, (), ()), ())), z42, z43, ()))))
 (none))
 (L (fun (s45 : ((Unit × (Unit × (Unit × (Unit × (Int × Unit))))) × ((Int × (Unit × Unit)) × ((List (Bool × (Int × (Request × Reply)))) × ((Int × Int) × (((Int × (Unit × Unit)) × ((Int × (Unit × Unit)) × Unit)) × ((List Entry) × ((List Entry) × Unit)))))))) nx46 => l5_0 g29_1 g30 g31 nx10 z11 z38 nx46 s45.1.2.2.2.2.1 s45.2.1.1 s45.2.2.1 s45.2.2.2.1 s45.2.2.2.2.1.1.1 s45.2.2.2.2.1.2.1.1 s45.2.2.2.2.2.1 s45.2.2.2.2.2.2.1) (((), (), (), (), 0, ()), ((z37, (), ()), z38, z39, ((z40, (), ()), ((z41, (), ()), ())), z42, z43, ())))
def l5_2 (L : Lp) (g26_3 : Int → Request → Reply → Int → Int → Int → (List Entry) → (List Entry) → Option y26_3) (g27 : Int → Int → Int → Int → (List Entry) → (List Entry) → Option (Int × ((Int × (Unit × Unit)) × (((Int × (Unit × Unit)) × ((Int × (Unit × Unit)) × Unit)) × ((List Entry) × ((List Entry) × Unit)))))) (g28 : Int → Int → Int → Int → (List Entry) → (List Entry) → Option ((List Entry) × ((Int × (Unit × Unit)) × (((Int × (Unit × Unit)) × ((Int × (Unit × Unit)) × Unit)) × ((List Entry) × ((List Entry) × Unit)))))) (g29_1 : Int → Request → Int → Int → Int → (List Entry) → (List Entry) → Option ((Int × (Reply × Unit)) × ((Int × (Unit × Unit)) × (((Int × (Unit × Unit)) × ((Int × (Unit × Unit)) × Unit)) × ((List Entry) × ((List Entry) × Unit)))))) (g30 : Reply → Reply → Option Bool) (g31 : Request → Option Bool) (keep0 : Int) (al1 : (List (Bool × (Int × (Request × Reply))))) (nx10 : ((Unit × (Unit × (Unit × (Int × Unit)))) × ((Int × (Unit × Unit)) × ((List (Bool × (Int × (Request × Reply)))) × ((Int × Int) × (((Int × (Unit × Unit)) × ((Int × (Unit × Unit)) × Unit)) × ((List Entry) × ((List Entry) × Unit))))))) → Option Bool) (z11 : Int) (z12 : Int) (z13 : (List (Bool × (Int × (Request × Reply))))) (z14 : (Int × Int)) (z15 : Int) (z16 : Int) (z17 : (List Entry)) (z18 : (List Entry)) : Option Bool :=
 cond (decide (z11 < (List.length al1 : Int)))
 (cond (decide (0 ≤ z11))
 (Option.bind (al1[Int.toNat z11]?) fun y19 =>
 let v20 := IntKind.wrap .i64 (((BitVec.ofInt 64 y19.2.1 &&& BitVec.ofInt 64 1).toNat : Int))
 Option.bind (α := ((Unit × (Unit × (Unit × Unit))) × ((Int × (Unit × Unit)) × ((List (Bool × (Int × (Request × Reply)))) × ((Int × Int) × (((Int × (Unit × Unit)) × ((Int × (Unit × Unit)) × Unit)) × ((List Entry) × ((List Entry) × Unit))))))))
 (Option.bind (g26_3 v20 y19.2.2.1 y19.2.2.2 z12 z15 z16 z17 z18) (Sum.elim (fun r21 =>
 cond (true && (true && ((decide ((List.length r21.2.2.2.1) = (List.length z17))) && ((decide ((List.length r21.2.2.2.2.1) = (List.length z18))) && true))))
 (cond (decide (r21.1 = 0))
 (cond (smallB ((List.length z13) + 1) 224)
 (some (((), (), (), ()), ((r21.2.1.1, (), ()), z13 ++ [(y19.1, (v20, y19.2.2))], z14, ((r21.2.2.1.1.1, (), ()), ((r21.2.2.1.2.1.1, (), ()), ())), r21.2.2.2.1, r21.2.2.2.2.1, ())))
 (none))
 (some (((), (), (), ()), ((r21.2.1.1, (), ()), z13, z14, ((r21.2.2.1.1.1, (), ()), ((r21.2.2.1.2.1.1, (), ()), ())), r21.2.2.2.1, r21.2.2.2.2.1, ()))))
 (none)) (Sum.elim (fun r22 =>
 cond (true && (true && ((decide ((List.length r22.2.2.2.1) = (List.length z17))) && true)))
 (cond (decide (r22.1 = 0))
 (cond (smallB ((List.length z13) + 1) 224)
 (some (((), (), (), ()), ((r22.2.1.1, (), ()), z13 ++ [(y19.1, (v20, y19.2.2))], z14, ((r22.2.2.1.1.1, (), ()), ((r22.2.2.1.2.1.1, (), ()), ())), r22.2.2.2.1, r22.2.2.2.2.2.1, ())))
 (none))
 (some (((), (), (), ()), ((r22.2.1.1, (), ()), z13, z14, ((r22.2.2.1.1.1, (), ()), ((r22.2.2.1.2.1.1, (), ()), ())), r22.2.2.2.1, r22.2.2.2.2.2.1, ()))))
 (none)) (fun r23 =>
 cond (true && (true && (true && ((decide ((List.length r23.2.2.2.2.1) = (List.length z18))) && true))))
 (cond (decide (r23.1 = 0))
 (cond (smallB ((List.length z13) + 1) 224)
 (some (((), (), (), ()), ((r23.2.1.1, (), ()), z13 ++ [(y19.1, (v20, y19.2.2))], z14, ((r23.2.2.1.1.1, (), ()), ((r23.2.2.1.2.1.1, (), ()), ())), r23.2.2.2.2.2.1, r23.2.2.2.2.1, ())))
 (none))
 (some (((), (), (), ()), ((r23.2.1.1, (), ()), z13, z14, ((r23.2.2.1.1.1, (), ()), ((r23.2.2.1.2.1.1, (), ()), ())), r23.2.2.2.2.2.1, r23.2.2.2.2.1, ()))))
 (none))))) fun x24 =>
 Option.bind (α := (((Unit × (Unit × (Unit × Unit))) × ((Int × (Unit × Unit)) × ((List (Bool × (Int × (Request × Reply)))) × ((Int × Int) × (((Int × (Unit × Unit)) × ((Int × (Unit × Unit)) × Unit)) × ((List Entry) × ((List Entry) × Unit))))))) ⊕ Bool))
 (Option.bind (g27 v20 x24.2.1.1 x24.2.2.2.2.1.1.1 x24.2.2.2.2.1.2.1.1 x24.2.2.2.2.2.1 x24.2.2.2.2.2.2.1) fun r25 =>
 cond (true && (true && ((decide ((List.length r25.2.2.2.1) = (List.length x24.2.2.2.2.2.1))) && ((decide ((List.length r25.2.2.2.2.1) = (List.length x24.2.2.2.2.2.2.1))) && true))))
 (cond (decide (v20 = 1))
 (cond (decide (r25.1 < x24.2.2.2.1.2))
 (some (.inr false))
 (Option.bind (g28 v20 r25.2.1.1 r25.2.2.1.1.1 r25.2.2.1.2.1.1 r25.2.2.2.1 r25.2.2.2.2.1) fun r26 =>
 cond (true && (true && ((decide ((List.length r26.2.2.2.1) = (List.length r25.2.2.2.1))) && ((decide ((List.length r26.2.2.2.2.1) = (List.length r25.2.2.2.2.1))) && true))))
 (cond (decide (keep0 < (List.length r26.1 : Int)))
 (some (.inr false))
 (some (.inl (((), (), (), ()), ((r26.2.1.1, (), ()), x24.2.2.1, x24.2.2.2.1, ((r26.2.2.1.1.1, (), ()), ((r26.2.2.1.2.1.1, (), ()), ())), r26.2.2.2.1, r26.2.2.2.2.1, ())))))
 (none)))
 (cond (decide (v20 = 0))
 (cond (decide (r25.1 < x24.2.2.2.1.1))
 (some (.inr false))
 (Option.bind (g28 v20 r25.2.1.1 r25.2.2.1.1.1 r25.2.2.1.2.1.1 r25.2.2.2.1 r25.2.2.2.2.1) fun r27 =>
 cond (true && (true && ((decide ((List.length r27.2.2.2.1) = (List.length r25.2.2.2.1))) && ((decide ((List.length r27.2.2.2.2.1) = (List.length r25.2.2.2.2.1))) && true))))
 (cond (decide (keep0 < (List.length r27.1 : Int)))
 (some (.inr false))
 (some (.inl (((), (), (), ()), ((r27.2.1.1, (), ()), x24.2.2.1, x24.2.2.2.1, ((r27.2.2.1.1.1, (), ()), ((r27.2.2.1.2.1.1, (), ()), ())), r27.2.2.2.1, r27.2.2.2.2.1, ())))))
 (none)))
 (none)))
 (none)) (Sum.elim (fun x28 =>
 Option.bind (α := ((Unit × (Unit × (Unit × Unit))) × ((Int × (Unit × Unit)) × ((List (Bool × (Int × (Request × Reply)))) × ((Int × Int) × (((Int × (Unit × Unit)) × ((Int × (Unit × Unit)) × Unit)) × ((List Entry) × ((List Entry) × Unit))))))))
 (Option.bind (g27 v20 x28.2.1.1 x28.2.2.2.2.1.1.1 x28.2.2.2.2.1.2.1.1 x28.2.2.2.2.2.1 x28.2.2.2.2.2.2.1) fun r29 =>
 cond (true && (true && ((decide ((List.length r29.2.2.2.1) = (List.length x28.2.2.2.2.2.1))) && ((decide ((List.length r29.2.2.2.2.1) = (List.length x28.2.2.2.2.2.2.1))) && true))))
 (cond (decide (v20 = 1))
 (some (((), (), (), ()), ((r29.2.1.1, (), ()), x28.2.2.1, (x28.2.2.2.1.1, r29.1), ((r29.2.2.1.1.1, (), ()), ((r29.2.2.1.2.1.1, (), ()), ())), r29.2.2.2.1, r29.2.2.2.2.1, ())))
 (cond (decide (v20 = 0))
 (some (((), (), (), ()), ((r29.2.1.1, (), ()), x28.2.2.1, (r29.1, x28.2.2.2.1.2), ((r29.2.2.1.1.1, (), ()), ((r29.2.2.1.2.1.1, (), ()), ())), r29.2.2.2.1, r29.2.2.2.2.1, ())))
 (none)))
 (none)) fun x30 =>
 Option.bind (α := ((Unit × (Unit × (Unit × (Int × Unit)))) × ((Int × (Unit × Unit)) × ((List (Bool × (Int × (Request × Reply)))) × ((Int × Int) × (((Int × (Unit × Unit)) × ((Int × (Unit × Unit)) × Unit)) × ((List Entry) × ((List Entry) × Unit))))))))
 (cond (decide (v20 = 1))
 (some (((), (), (), x30.2.2.2.1.2, ()), ((x30.2.1.1, (), ()), x30.2.2.1, x30.2.2.2.1, ((x30.2.2.2.2.1.1.1, (), ()), ((x30.2.2.2.2.1.2.1.1, (), ()), ())), x30.2.2.2.2.2.1, x30.2.2.2.2.2.2.1, ())))
 (cond (decide (v20 = 0))
 (some (((), (), (), x30.2.2.2.1.1, ()), ((x30.2.1.1, (), ()), x30.2.2.1, x30.2.2.2.1, ((x30.2.2.2.2.1.1.1, (), ()), ((x30.2.2.2.2.1.2.1.1, (), ()), ())), x30.2.2.2.2.2.1, x30.2.2.2.2.2.2.1, ())))
 (none))) fun x31 =>
 Option.bind (g28 v20 x31.2.1.1 x31.2.2.2.2.1.1.1 x31.2.2.2.2.1.2.1.1 x31.2.2.2.2.2.1 x31.2.2.2.2.2.2.1) fun r32 =>
 cond (true && (true && ((decide ((List.length r32.2.2.2.1) = (List.length x31.2.2.2.2.2.1))) && ((decide ((List.length r32.2.2.2.2.1) = (List.length x31.2.2.2.2.2.2.1))) && true))))
 (L (fun (s33 : ((Unit × (Unit × (Unit × (Int × (Int × Unit))))) × ((Int × (Unit × Unit)) × ((List (Bool × (Int × (Request × Reply)))) × ((Int × Int) × (((Int × (Unit × Unit)) × ((Int × (Unit × Unit)) × Unit)) × ((List Entry) × ((List Entry) × Unit)))))))) nx34 => l5_1 L g29_1 g30 g31 nx10 z11 r32 nx34 s33.1.2.2.2.1 s33.1.2.2.2.2.1 s33.2.1.1 s33.2.2.1 s33.2.2.2.1 s33.2.2.2.2.1.1.1 s33.2.2.2.2.1.2.1.1 s33.2.2.2.2.2.1 s33.2.2.2.2.2.2.1) (((), (), (), x31.1.2.2.2.1, 0, ()), ((r32.2.1.1, (), ()), x31.2.2.1, x31.2.2.2.1, ((r32.2.2.1.1.1, (), ()), ((r32.2.2.1.2.1.1, (), ()), ())), r32.2.2.2.1, r32.2.2.2.2.1, ())))
 (none)) some))
 (none))
 (some true)
def F5 (L : Lp) (g23 : Option Bool) (g24 : (List (Bool × (Int × (Request × Reply)))) → Option Bool) (g25 : Int → Int → Option ((Unit × (Int × Unit)) ⊕ (((Unit × (Int × Unit)) × ((Int × (Unit × Unit)) × (((Int × (Unit × Unit)) × ((Int × (Unit × Unit)) × Unit)) × Unit))) ⊕ (((Unit × (Int × Unit)) × ((Int × (Unit × Unit)) × ((Int × (Unit × Unit)) × Unit))) ⊕ ((Unit × (Int × Unit)) × ((Int × (Unit × Unit)) × (Unit × Unit))))))) (g26_3 : Int → Request → Reply → Int → Int → Int → (List Entry) → (List Entry) → Option y26_3) (g27 : Int → Int → Int → Int → (List Entry) → (List Entry) → Option (Int × ((Int × (Unit × Unit)) × (((Int × (Unit × Unit)) × ((Int × (Unit × Unit)) × Unit)) × ((List Entry) × ((List Entry) × Unit)))))) (g28 : Int → Int → Int → Int → (List Entry) → (List Entry) → Option ((List Entry) × ((Int × (Unit × Unit)) × (((Int × (Unit × Unit)) × ((Int × (Unit × Unit)) × Unit)) × ((List Entry) × ((List Entry) × Unit)))))) (g29_1 : Int → Request → Int → Int → Int → (List Entry) → (List Entry) → Option ((Int × (Reply × Unit)) × ((Int × (Unit × Unit)) × (((Int × (Unit × Unit)) × ((Int × (Unit × Unit)) × Unit)) × ((List Entry) × ((List Entry) × Unit)))))) (g30 : Reply → Reply → Option Bool) (g31 : Request → Option Bool) (keep0 : Int) (al1 : (List (Bool × (Int × (Request × Reply))))) : Option Bool :=
 Option.bind (g23) fun r2 =>
 cond (!r2)
 (some false)
 (Option.bind (g24 al1) fun r3 =>
 cond (!r3)
 (some true)
 (cond (decide (keep0 < 1))
 (some true)
 (cond (decide (16 < keep0))
 (some true)
 (Option.bind (α := ((Unit × (Int × Unit)) × ((Int × (Unit × Unit)) × (((Int × (Unit × Unit)) × ((Int × (Unit × Unit)) × Unit)) × Unit))))
 (Option.bind (g25 2 keep0) (Sum.elim (fun r4 =>
 none) (Sum.elim (fun r5 =>
 some (((), r5.1.2.1, ()), ((r5.2.1.1, (), ()), ((r5.2.2.1.1.1, (), ()), ((r5.2.2.1.2.1.1, (), ()), ())), ()))) (Sum.elim (fun r6 =>
 none) (fun r7 =>
 none))))) fun x8 =>
 cond (!decide (x8.1.2.1 = 0))
 (some false)
 (L (fun (s9 : ((Unit × (Unit × (Unit × (Int × Unit)))) × ((Int × (Unit × Unit)) × ((List (Bool × (Int × (Request × Reply)))) × ((Int × Int) × (((Int × (Unit × Unit)) × ((Int × (Unit × Unit)) × Unit)) × ((List Entry) × ((List Entry) × Unit)))))))) nx10 => l5_2 L g26_3 g27 g28 g29_1 g30 g31 keep0 al1 nx10 s9.1.2.2.2.1 s9.2.1.1 s9.2.2.1 s9.2.2.2.1 s9.2.2.2.2.1.1.1 s9.2.2.2.2.1.2.1.1 s9.2.2.2.2.2.1 s9.2.2.2.2.2.2.1) (((), (), (), 0, ()), ((x8.2.1.1, (), ()), [], (0, 0), ((x8.2.2.1.1.1, (), ()), ((x8.2.2.1.2.1.1, (), ()), ())), [], [], ())))))))
theorem e5 (L : Lp) (g23 : Option Bool) (g24 : (List (Bool × (Int × (Request × Reply)))) → Option Bool) (g25 : Int → Int → Option ((Unit × (Int × Unit)) ⊕ (((Unit × (Int × Unit)) × ((Int × (Unit × Unit)) × (((Int × (Unit × Unit)) × ((Int × (Unit × Unit)) × Unit)) × Unit))) ⊕ (((Unit × (Int × Unit)) × ((Int × (Unit × Unit)) × ((Int × (Unit × Unit)) × Unit))) ⊕ ((Unit × (Int × Unit)) × ((Int × (Unit × Unit)) × (Unit × Unit))))))) (g26_3 : Int → Request → Reply → Int → Int → Int → (List Entry) → (List Entry) → Option y26_3) (g27 : Int → Int → Int → Int → (List Entry) → (List Entry) → Option (Int × ((Int × (Unit × Unit)) × (((Int × (Unit × Unit)) × ((Int × (Unit × Unit)) × Unit)) × ((List Entry) × ((List Entry) × Unit)))))) (g28 : Int → Int → Int → Int → (List Entry) → (List Entry) → Option ((List Entry) × ((Int × (Unit × Unit)) × (((Int × (Unit × Unit)) × ((Int × (Unit × Unit)) × Unit)) × ((List Entry) × ((List Entry) × Unit)))))) (g29_1 : Int → Request → Int → Int → Int → (List Entry) → (List Entry) → Option ((Int × (Reply × Unit)) × ((Int × (Unit × Unit)) × (((Int × (Unit × Unit)) × ((Int × (Unit × Unit)) × Unit)) × ((List Entry) × ((List Entry) × Unit)))))) (g30 : Reply → Reply → Option Bool) (g31 : Request → Option Bool) (x : s5.args.den) (h : denH s5.heap) : nrun [⟨23, s23, fun x h => g23 ⟩, ⟨24, s24, fun x h => g24 x.1⟩, ⟨25, s25, fun x h => g25 x.1 x.2.1⟩, ⟨26, s26_3, fun x h => g26_3 x.2.1 x.2.2.1 x.2.2.2.1 h.1.1 h.2.1.1.1 h.2.1.2.1.1 h.2.2.1 h.2.2.2.1⟩, ⟨27, s27, fun x h => g27 x.2.1 h.1.1 h.2.1.1.1 h.2.1.2.1.1 h.2.2.1 h.2.2.2.1⟩, ⟨28, s28, fun x h => g28 x.2.1 h.1.1 h.2.1.1.1 h.2.1.2.1.1 h.2.2.1 h.2.2.2.1⟩, ⟨29, s29_1, fun x h => g29_1 x.2.1 x.2.2.1 h.1.1 h.2.1.1.1 h.2.1.2.1.1 h.2.2.1 h.2.2.2.1⟩, ⟨30, s30, fun x h => g30 x.1 x.2.1⟩, ⟨31, s31, fun x h => g31 x.1⟩] L n5 s5 x h = F5 L g23 g24 g25 g26_3 g27 g28 g29_1 g30 g31 x.1 x.2.1 := by kernel_rfl
def f5 : Int → (List (Bool × (Int × (Request × Reply)))) → Option Bool := F5 (@LN LOOPS) f23 f24 f25 f26_3 f27 f28 f29_1 f30 f31
@[reducible] def t5 : Ent := ⟨5, s5, fun x h => f5 x.1 x.2.1⟩
theorem k5 : chkNF Try.prog Try.f5 n5 = true := by kernel_rfl
theorem ok5 : NOk Try.prog t5 := NOk.body (T := [t23, t24, t25, t26_3, t27, t28, t29_1, t30, t31]) mixed (nall_cons ok23 (nall_cons ok24 (nall_cons ok25 (nall_cons ok26_3 (nall_cons ok27 (nall_cons ok28 (nall_cons ok29_1 (nall_cons ok30 (nall_cons ok31 nall_nil))))))))) (oneEach_of (by kernel_rfl)) Try.func5 k5 (by kernel_rfl) (fun x h => e5 _ _ _ _ _ _ _ _ _ _ x h)
end NM
end Go.Proofs.Ytnggfgfeghmddaa
