/- The L-code of function 12 (ChainOrder): printed by a program (lp12.py); the order of its fourth piece: loads first. (Several texts in one.) -/
import Derived.Test.YtcgdopjmbadonaaBaseF
import Derived.Test.YtcgdopjmbadonaaProg
import Derived.Test.YtcgdopjmbadonaaChI
import Derived.Test.YtcgdopjmbadonaaChH
import Derived.Test.YtcgdopjmbadonaaChJ
import Derived.Test.YtcgdopjmbadonaaChG
import Derived.Test.YtcgdopjmbadonaaRows
import Derived.WalkKit
import Derived.ProofKit
import Derived.OpenShut
import Derived.Test.YtcgdopjmbadonaaChF
set_option linter.unusedVariables false
set_option linter.unusedSimpArgs false
/-! The L-code of function 12 (ChainOrder): printed by a program (lp12.py); the order of its fourth piece: loads first. -/
namespace Go.Proofs.Ytcgdopjmbadonaa
open Go.RowKit

set_option maxRecDepth 100000
def L12 : LFnX := ⟨194, [(.inl (.region [⟨(some 5), none, (.box 2 (.t 0)), true⟩, ⟨(some 10), none, (.mov (.c (.bool false))), true⟩])), (.inl (.seq (.region [⟨(some 31), none, (.load true 2 (.t 5)), true⟩, ⟨(some 32), none, (.call (.c (.fn 32 [] [])) [(.t 31)]), true⟩, ⟨(some 33), none, (.not (.t 32)), true⟩, ⟨(some 34), none, (.mov (.t 33)), true⟩, ⟨(some 35), (some (34, false)), (.fa 1 (.t 5)), true⟩, ⟨(some 36), (some (34, false)), (.load false 1 (.t 35)), true⟩, ⟨(some 37), (some (34, false)), (.len none (.t 36)), true⟩, ⟨(some 38), (some (34, false)), (.bin false .eql (.t 37) (.c (.int .i64 (0)))), true⟩, ⟨(some 39), none, (.pick (.t 34) (.c (.bool true)) (.t 38)), true⟩, ⟨(some 40), none, (.mov (.t 39)), true⟩, ⟨(some 41), (some (40, false)), (.fa 1 (.t 5)), true⟩, ⟨(some 42), (some (40, false)), (.load false 1 (.t 41)), true⟩, ⟨(some 43), (some (40, false)), (.len none (.t 42)), true⟩, ⟨(some 44), (some (40, false)), (.bin false .gtr (.t 43) (.c (.int .i64 (23)))), true⟩, ⟨(some 45), none, (.pick (.t 40) (.c (.bool true)) (.t 44)), true⟩, ⟨(some 46), none, (.mov (.t 45)), true⟩, ⟨(some 47), (some (46, false)), (.fa 0 (.t 5)), true⟩, ⟨(some 48), (some (46, false)), (.load false 1 (.t 47)), true⟩, ⟨(some 49), (some (46, false)), (.len none (.t 48)), true⟩, ⟨(some 50), (some (46, false)), (.bin false .eql (.t 49) (.c (.int .i64 (0)))), true⟩, ⟨(some 51), none, (.pick (.t 46) (.c (.bool true)) (.t 50)), true⟩]) (.cond (.t 51) (.seq (.region [⟨(some 52), none, (.call (.c (.fn 18 [] [])) []), true⟩, ⟨(some 10), none, (.mov (.t 52)), true⟩]) .ret) .skip))), (.inl (.region [⟨(some 53), none, (.mov (.t 1)), false⟩, ⟨(some 54), none, (.conv .i64 (.t 53)), false⟩, ⟨(some 55), none, (.fa 1 (.t 5)), false⟩, ⟨(some 59), none, (.mov (.t 3)), false⟩, ⟨(some 60), none, (.conv .i64 (.t 59)), false⟩, ⟨(some 61), none, (.fa 0 (.t 5)), false⟩, ⟨(some 65), none, (.mov (.t 4)), false⟩, ⟨(some 66), none, (.conv .i64 (.t 65)), false⟩, ⟨(some 67), none, (.bin false .rem (.t 66) (.c (.int .i64 (1001)))), false⟩, ⟨(some 56), none, (.load false 1 (.t 55)), false⟩, ⟨(some 57), none, (.len none (.t 56)), false⟩, ⟨(some 58), none, (.bin false .rem (.t 54) (.t 57)), false⟩, ⟨(some 11), none, (.mov (.t 58)), false⟩, ⟨(some 62), none, (.load false 1 (.t 61)), false⟩, ⟨(some 63), none, (.len none (.t 62)), false⟩, ⟨(some 64), none, (.bin false .rem (.t 60) (.t 63)), false⟩, ⟨(some 12), none, (.mov (.t 64)), true⟩, ⟨(some 13), none, (.mov (.t 67)), true⟩])), (.inr (.op ⟨(some 68), none, (.fa 0 (.t 5)), true⟩ (.op ⟨(some 69), none, (.load false 1 (.t 68)), true⟩ (.op ⟨(some 71), none, (.fa 1 (.t 5)), true⟩ (.op ⟨(some 72), none, (.load false 1 (.t 71)), true⟩ (.op ⟨(some 73), none, (.mov (.t 11)), true⟩ (.op ⟨(some 74), none, (.slc 7 none (.t 72) (some (.t 73)) none none), true⟩ (.op ⟨(some 76), none, (.fa 1 (.t 5)), true⟩ (.op ⟨(some 77), none, (.load false 1 (.t 76)), true⟩ (.op ⟨(some 78), none, (.mov (.t 11)), true⟩ (.op ⟨(some 79), none, (.slc 7 none (.t 77) none (some (.t 78)) none), true⟩ (.op ⟨(some 81), none, (.fa 1 (.t 5)), true⟩ (.op ⟨(some 82), none, (.load false 1 (.t 81)), true⟩ (.op ⟨(some 83), none, (.mov (.t 2)), true⟩ (.op ⟨(some 84), none, (.conv .i64 (.t 83)), true⟩ (.op ⟨(some 85), none, (.fa 1 (.t 5)), true⟩ (.op ⟨(some 86), none, (.load false 1 (.t 85)), true⟩ (.op ⟨(some 87), none, (.len none (.t 86)), true⟩ (.op ⟨(some 88), none, (.bin false .rem (.t 84) (.t 87)), true⟩ (.op ⟨(some 89), none, (.ia 7 none (.t 82) (.t 88)), true⟩ (.op ⟨(some 90), none, (.load true 7 (.t 89)), true⟩ (.seq (.alt ⟨(some 70), none, (.bslice 58 7 []), true⟩ (.alt ⟨(some 75), none, (.app0 58 7 56 (.t 70) (.t 74)), true⟩ (.alt ⟨(some 80), none, (.app 58 7 56 (.t 75) (.t 79)), true⟩ (.alt ⟨(some 91), none, (.bslice 58 7 [(.t 90)]), true⟩ (.alt ⟨(some 92), none, (.app 58 7 56 (.t 80) (.t 91)), true⟩ (.op ⟨(some 93), none, (.build (.agg [(.emp (some true)), (.emp (some true))]) [(0, (1, (.t 69))), (1, (1, (.t 92)))]), true⟩ (.alt ⟨(some 14), none, (.alloc (.agg [(.emp (some true)), (.emp (some true))])), true⟩ .done .no)) (.alt ⟨(some 14), none, (.alloc (.agg [(.emp (some true)), (.emp (some true))])), true⟩ (.alt ⟨(some 92), none, (.app 58 7 56 (.t 80) (.t 91)), true⟩ (.op ⟨(some 93), none, (.build (.agg [(.emp (some true)), (.emp (some true))]) [(0, (1, (.t 69))), (1, (1, (.t 92)))]), true⟩ .done) .no) .no)) (.alt ⟨(some 14), none, (.alloc (.agg [(.emp (some true)), (.emp (some true))])), true⟩ (.alt ⟨(some 91), none, (.bslice 58 7 [(.t 90)]), true⟩ (.alt ⟨(some 92), none, (.app 58 7 56 (.t 80) (.t 91)), true⟩ (.op ⟨(some 93), none, (.build (.agg [(.emp (some true)), (.emp (some true))]) [(0, (1, (.t 69))), (1, (1, (.t 92)))]), true⟩ .done) .no) .no) .no)) (.alt ⟨(some 91), none, (.bslice 58 7 [(.t 90)]), true⟩ (.alt ⟨(some 80), none, (.app 58 7 56 (.t 75) (.t 79)), true⟩ (.alt ⟨(some 92), none, (.app 58 7 56 (.t 80) (.t 91)), true⟩ (.op ⟨(some 93), none, (.build (.agg [(.emp (some true)), (.emp (some true))]) [(0, (1, (.t 69))), (1, (1, (.t 92)))]), true⟩ (.alt ⟨(some 14), none, (.alloc (.agg [(.emp (some true)), (.emp (some true))])), true⟩ .done .no)) (.alt ⟨(some 14), none, (.alloc (.agg [(.emp (some true)), (.emp (some true))])), true⟩ (.alt ⟨(some 92), none, (.app 58 7 56 (.t 80) (.t 91)), true⟩ (.op ⟨(some 93), none, (.build (.agg [(.emp (some true)), (.emp (some true))]) [(0, (1, (.t 69))), (1, (1, (.t 92)))]), true⟩ .done) .no) .no)) (.alt ⟨(some 14), none, (.alloc (.agg [(.emp (some true)), (.emp (some true))])), true⟩ (.alt ⟨(some 80), none, (.app 58 7 56 (.t 75) (.t 79)), true⟩ (.alt ⟨(some 92), none, (.app 58 7 56 (.t 80) (.t 91)), true⟩ (.op ⟨(some 93), none, (.build (.agg [(.emp (some true)), (.emp (some true))]) [(0, (1, (.t 69))), (1, (1, (.t 92)))]), true⟩ .done) .no) .no) .no)) (.alt ⟨(some 14), none, (.alloc (.agg [(.emp (some true)), (.emp (some true))])), true⟩ (.alt ⟨(some 80), none, (.app 58 7 56 (.t 75) (.t 79)), true⟩ (.alt ⟨(some 91), none, (.bslice 58 7 [(.t 90)]), true⟩ (.alt ⟨(some 92), none, (.app 58 7 56 (.t 80) (.t 91)), true⟩ (.op ⟨(some 93), none, (.build (.agg [(.emp (some true)), (.emp (some true))]) [(0, (1, (.t 69))), (1, (1, (.t 92)))]), true⟩ .done) .no) .no) (.alt ⟨(some 91), none, (.bslice 58 7 [(.t 90)]), true⟩ (.alt ⟨(some 80), none, (.app 58 7 56 (.t 75) (.t 79)), true⟩ (.alt ⟨(some 92), none, (.app 58 7 56 (.t 80) (.t 91)), true⟩ (.op ⟨(some 93), none, (.build (.agg [(.emp (some true)), (.emp (some true))]) [(0, (1, (.t 69))), (1, (1, (.t 92)))]), true⟩ .done) .no) .no) .no)) .no))) (.alt ⟨(some 91), none, (.bslice 58 7 [(.t 90)]), true⟩ (.alt ⟨(some 75), none, (.app0 58 7 56 (.t 70) (.t 74)), true⟩ (.alt ⟨(some 80), none, (.app 58 7 56 (.t 75) (.t 79)), true⟩ (.alt ⟨(some 92), none, (.app 58 7 56 (.t 80) (.t 91)), true⟩ (.op ⟨(some 93), none, (.build (.agg [(.emp (some true)), (.emp (some true))]) [(0, (1, (.t 69))), (1, (1, (.t 92)))]), true⟩ (.alt ⟨(some 14), none, (.alloc (.agg [(.emp (some true)), (.emp (some true))])), true⟩ .done .no)) (.alt ⟨(some 14), none, (.alloc (.agg [(.emp (some true)), (.emp (some true))])), true⟩ (.alt ⟨(some 92), none, (.app 58 7 56 (.t 80) (.t 91)), true⟩ (.op ⟨(some 93), none, (.build (.agg [(.emp (some true)), (.emp (some true))]) [(0, (1, (.t 69))), (1, (1, (.t 92)))]), true⟩ .done) .no) .no)) (.alt ⟨(some 14), none, (.alloc (.agg [(.emp (some true)), (.emp (some true))])), true⟩ (.alt ⟨(some 80), none, (.app 58 7 56 (.t 75) (.t 79)), true⟩ (.alt ⟨(some 92), none, (.app 58 7 56 (.t 80) (.t 91)), true⟩ (.op ⟨(some 93), none, (.build (.agg [(.emp (some true)), (.emp (some true))]) [(0, (1, (.t 69))), (1, (1, (.t 92)))]), true⟩ .done) .no) .no) .no)) (.alt ⟨(some 14), none, (.alloc (.agg [(.emp (some true)), (.emp (some true))])), true⟩ (.alt ⟨(some 75), none, (.app0 58 7 56 (.t 70) (.t 74)), true⟩ (.alt ⟨(some 80), none, (.app 58 7 56 (.t 75) (.t 79)), true⟩ (.alt ⟨(some 92), none, (.app 58 7 56 (.t 80) (.t 91)), true⟩ (.op ⟨(some 93), none, (.build (.agg [(.emp (some true)), (.emp (some true))]) [(0, (1, (.t 69))), (1, (1, (.t 92)))]), true⟩ .done) .no) .no) .no) .no)) (.alt ⟨(some 14), none, (.alloc (.agg [(.emp (some true)), (.emp (some true))])), true⟩ (.alt ⟨(some 75), none, (.app0 58 7 56 (.t 70) (.t 74)), true⟩ (.alt ⟨(some 80), none, (.app 58 7 56 (.t 75) (.t 79)), true⟩ (.alt ⟨(some 91), none, (.bslice 58 7 [(.t 90)]), true⟩ (.alt ⟨(some 92), none, (.app 58 7 56 (.t 80) (.t 91)), true⟩ (.op ⟨(some 93), none, (.build (.agg [(.emp (some true)), (.emp (some true))]) [(0, (1, (.t 69))), (1, (1, (.t 92)))]), true⟩ .done) .no) .no) (.alt ⟨(some 91), none, (.bslice 58 7 [(.t 90)]), true⟩ (.alt ⟨(some 80), none, (.app 58 7 56 (.t 75) (.t 79)), true⟩ (.alt ⟨(some 92), none, (.app 58 7 56 (.t 80) (.t 91)), true⟩ (.op ⟨(some 93), none, (.build (.agg [(.emp (some true)), (.emp (some true))]) [(0, (1, (.t 69))), (1, (1, (.t 92)))]), true⟩ .done) .no) .no) .no)) (.alt ⟨(some 91), none, (.bslice 58 7 [(.t 90)]), true⟩ (.alt ⟨(some 75), none, (.app0 58 7 56 (.t 70) (.t 74)), true⟩ (.alt ⟨(some 80), none, (.app 58 7 56 (.t 75) (.t 79)), true⟩ (.alt ⟨(some 92), none, (.app 58 7 56 (.t 80) (.t 91)), true⟩ (.op ⟨(some 93), none, (.build (.agg [(.emp (some true)), (.emp (some true))]) [(0, (1, (.t 69))), (1, (1, (.t 92)))]), true⟩ .done) .no) .no) .no) .no)) .no))) (.alt ⟨(some 91), none, (.bslice 58 7 [(.t 90)]), true⟩ (.alt ⟨(some 70), none, (.bslice 58 7 []), true⟩ (.alt ⟨(some 75), none, (.app0 58 7 56 (.t 70) (.t 74)), true⟩ (.alt ⟨(some 80), none, (.app 58 7 56 (.t 75) (.t 79)), true⟩ (.alt ⟨(some 92), none, (.app 58 7 56 (.t 80) (.t 91)), true⟩ (.op ⟨(some 93), none, (.build (.agg [(.emp (some true)), (.emp (some true))]) [(0, (1, (.t 69))), (1, (1, (.t 92)))]), true⟩ (.alt ⟨(some 14), none, (.alloc (.agg [(.emp (some true)), (.emp (some true))])), true⟩ .done .no)) (.alt ⟨(some 14), none, (.alloc (.agg [(.emp (some true)), (.emp (some true))])), true⟩ (.alt ⟨(some 92), none, (.app 58 7 56 (.t 80) (.t 91)), true⟩ (.op ⟨(some 93), none, (.build (.agg [(.emp (some true)), (.emp (some true))]) [(0, (1, (.t 69))), (1, (1, (.t 92)))]), true⟩ .done) .no) .no)) (.alt ⟨(some 14), none, (.alloc (.agg [(.emp (some true)), (.emp (some true))])), true⟩ (.alt ⟨(some 80), none, (.app 58 7 56 (.t 75) (.t 79)), true⟩ (.alt ⟨(some 92), none, (.app 58 7 56 (.t 80) (.t 91)), true⟩ (.op ⟨(some 93), none, (.build (.agg [(.emp (some true)), (.emp (some true))]) [(0, (1, (.t 69))), (1, (1, (.t 92)))]), true⟩ .done) .no) .no) .no)) (.alt ⟨(some 14), none, (.alloc (.agg [(.emp (some true)), (.emp (some true))])), true⟩ (.alt ⟨(some 75), none, (.app0 58 7 56 (.t 70) (.t 74)), true⟩ (.alt ⟨(some 80), none, (.app 58 7 56 (.t 75) (.t 79)), true⟩ (.alt ⟨(some 92), none, (.app 58 7 56 (.t 80) (.t 91)), true⟩ (.op ⟨(some 93), none, (.build (.agg [(.emp (some true)), (.emp (some true))]) [(0, (1, (.t 69))), (1, (1, (.t 92)))]), true⟩ .done) .no) .no) .no) .no)) (.alt ⟨(some 14), none, (.alloc (.agg [(.emp (some true)), (.emp (some true))])), true⟩ (.alt ⟨(some 70), none, (.bslice 58 7 []), true⟩ (.alt ⟨(some 75), none, (.app0 58 7 56 (.t 70) (.t 74)), true⟩ (.alt ⟨(some 80), none, (.app 58 7 56 (.t 75) (.t 79)), true⟩ (.alt ⟨(some 92), none, (.app 58 7 56 (.t 80) (.t 91)), true⟩ (.op ⟨(some 93), none, (.build (.agg [(.emp (some true)), (.emp (some true))]) [(0, (1, (.t 69))), (1, (1, (.t 92)))]), true⟩ .done) .no) .no) .no) .no) .no)) (.alt ⟨(some 14), none, (.alloc (.agg [(.emp (some true)), (.emp (some true))])), true⟩ (.alt ⟨(some 70), none, (.bslice 58 7 []), true⟩ (.alt ⟨(some 75), none, (.app0 58 7 56 (.t 70) (.t 74)), true⟩ (.alt ⟨(some 80), none, (.app 58 7 56 (.t 75) (.t 79)), true⟩ (.alt ⟨(some 91), none, (.bslice 58 7 [(.t 90)]), true⟩ (.alt ⟨(some 92), none, (.app 58 7 56 (.t 80) (.t 91)), true⟩ (.op ⟨(some 93), none, (.build (.agg [(.emp (some true)), (.emp (some true))]) [(0, (1, (.t 69))), (1, (1, (.t 92)))]), true⟩ .done) .no) .no) (.alt ⟨(some 91), none, (.bslice 58 7 [(.t 90)]), true⟩ (.alt ⟨(some 80), none, (.app 58 7 56 (.t 75) (.t 79)), true⟩ (.alt ⟨(some 92), none, (.app 58 7 56 (.t 80) (.t 91)), true⟩ (.op ⟨(some 93), none, (.build (.agg [(.emp (some true)), (.emp (some true))]) [(0, (1, (.t 69))), (1, (1, (.t 92)))]), true⟩ .done) .no) .no) .no)) (.alt ⟨(some 91), none, (.bslice 58 7 [(.t 90)]), true⟩ (.alt ⟨(some 75), none, (.app0 58 7 56 (.t 70) (.t 74)), true⟩ (.alt ⟨(some 80), none, (.app 58 7 56 (.t 75) (.t 79)), true⟩ (.alt ⟨(some 92), none, (.app 58 7 56 (.t 80) (.t 91)), true⟩ (.op ⟨(some 93), none, (.build (.agg [(.emp (some true)), (.emp (some true))]) [(0, (1, (.t 69))), (1, (1, (.t 92)))]), true⟩ .done) .no) .no) .no) .no)) (.alt ⟨(some 91), none, (.bslice 58 7 [(.t 90)]), true⟩ (.alt ⟨(some 70), none, (.bslice 58 7 []), true⟩ (.alt ⟨(some 75), none, (.app0 58 7 56 (.t 70) (.t 74)), true⟩ (.alt ⟨(some 80), none, (.app 58 7 56 (.t 75) (.t 79)), true⟩ (.alt ⟨(some 92), none, (.app 58 7 56 (.t 80) (.t 91)), true⟩ (.op ⟨(some 93), none, (.build (.agg [(.emp (some true)), (.emp (some true))]) [(0, (1, (.t 69))), (1, (1, (.t 92)))]), true⟩ .done) .no) .no) .no) .no) .no)) .no))) (.alt ⟨none, none, (.store 2 (.t 14) (.t 93)), true⟩ .done .no))))))))))))))))))))))), (.inl (.seq (.region [⟨(some 95), none, (.load true 2 (.t 5)), true⟩, ⟨(some 96), none, (.call (.c (.fn 20 [] [])) [(.t 95)]), true⟩, ⟨(some 97), none, (.call (.c (.fn 34 [] [])) [(.t 96), (.c (.emp (some true)))]), true⟩, ⟨(some 94), none, (.mov (.t 97)), true⟩, ⟨(some 98), none, (.ext (.t 94) 0), true⟩, ⟨(some 99), none, (.ext (.t 94) 1), true⟩, ⟨(some 15), none, (.mov (.t 98)), true⟩, ⟨(some 16), none, (.mov (.t 99)), true⟩]) (.seq (.region [⟨(some 101), none, (.load true 2 (.t 14)), true⟩, ⟨(some 102), none, (.call (.c (.fn 20 [] [])) [(.t 101)]), true⟩, ⟨(some 103), none, (.call (.c (.fn 34 [] [])) [(.t 102), (.c (.emp (some true)))]), true⟩, ⟨(some 100), none, (.mov (.t 103)), true⟩, ⟨(some 104), none, (.ext (.t 100) 0), true⟩, ⟨(some 105), none, (.ext (.t 100) 1), true⟩, ⟨(some 17), none, (.mov (.t 104)), true⟩, ⟨(some 18), none, (.mov (.t 105)), true⟩]) (.seq (.region [⟨(some 107), none, (.load true 2 (.t 5)), true⟩, ⟨(some 108), none, (.call (.c (.fn 20 [] [])) [(.t 107)]), true⟩, ⟨(some 109), none, (.mov (.t 12)), true⟩, ⟨(some 110), none, (.mov (.t 13)), true⟩, ⟨(some 111), none, (.call (.c (.fn 27 [] [])) [(.t 108), (.t 109), (.t 110)]), true⟩, ⟨(some 106), none, (.mov (.t 111)), true⟩, ⟨(some 112), none, (.ext (.t 106) 0), true⟩, ⟨(some 113), none, (.ext (.t 106) 1), true⟩, ⟨(some 19), none, (.alloc (.agg [(.int .i64 (0)), (.int .i64 (0))])), true⟩, ⟨none, none, (.store 2 (.t 19) (.t 112)), true⟩, ⟨(some 20), none, (.mov (.t 113)), true⟩]) (.seq (.region [⟨(some 115), none, (.load true 2 (.t 14)), true⟩, ⟨(some 116), none, (.call (.c (.fn 20 [] [])) [(.t 115)]), true⟩, ⟨(some 117), none, (.mov (.t 12)), true⟩, ⟨(some 118), none, (.mov (.t 13)), true⟩, ⟨(some 119), none, (.call (.c (.fn 27 [] [])) [(.t 116), (.t 117), (.t 118)]), true⟩, ⟨(some 114), none, (.mov (.t 119)), true⟩, ⟨(some 120), none, (.ext (.t 114) 0), true⟩, ⟨(some 121), none, (.ext (.t 114) 1), true⟩, ⟨(some 21), none, (.alloc (.agg [(.int .i64 (0)), (.int .i64 (0))])), true⟩, ⟨none, none, (.store 2 (.t 21) (.t 120)), true⟩, ⟨(some 22), none, (.mov (.t 121)), true⟩]) (.seq (.region [⟨(some 123), none, (.load true 2 (.t 5)), true⟩, ⟨(some 124), none, (.call (.c (.fn 20 [] [])) [(.t 123)]), true⟩, ⟨(some 125), none, (.mov (.t 12)), true⟩, ⟨(some 126), none, (.mov (.t 13)), true⟩, ⟨(some 127), none, (.call (.c (.fn 38 [] [])) [(.t 124), (.t 125), (.t 126)]), true⟩, ⟨(some 122), none, (.mov (.t 127)), true⟩, ⟨(some 128), none, (.ext (.t 122) 0), true⟩, ⟨(some 129), none, (.ext (.t 122) 1), true⟩, ⟨(some 23), none, (.mov (.t 128)), true⟩, ⟨(some 24), none, (.mov (.t 129)), true⟩]) (.seq (.region [⟨(some 131), none, (.load true 2 (.t 14)), true⟩, ⟨(some 132), none, (.call (.c (.fn 20 [] [])) [(.t 131)]), true⟩, ⟨(some 133), none, (.mov (.t 12)), true⟩, ⟨(some 134), none, (.mov (.t 13)), true⟩, ⟨(some 135), none, (.call (.c (.fn 38 [] [])) [(.t 132), (.t 133), (.t 134)]), true⟩, ⟨(some 130), none, (.mov (.t 135)), true⟩, ⟨(some 136), none, (.ext (.t 130) 0), true⟩, ⟨(some 137), none, (.ext (.t 130) 1), true⟩, ⟨(some 25), none, (.mov (.t 136)), true⟩, ⟨(some 26), none, (.mov (.t 137)), true⟩]) (.seq (.region [⟨(some 139), none, (.load true 2 (.t 5)), true⟩, ⟨(some 140), none, (.call (.c (.fn 20 [] [])) [(.t 139)]), true⟩, ⟨(some 141), none, (.call (.c (.fn 41 [] [])) [(.t 140)]), true⟩, ⟨(some 138), none, (.mov (.t 141)), true⟩, ⟨(some 142), none, (.ext (.t 138) 0), true⟩, ⟨(some 143), none, (.ext (.t 138) 1), true⟩, ⟨(some 27), none, (.mov (.t 142)), true⟩, ⟨(some 28), none, (.mov (.t 143)), true⟩]) (.seq (.region [⟨(some 145), none, (.load true 2 (.t 14)), true⟩, ⟨(some 146), none, (.call (.c (.fn 20 [] [])) [(.t 145)]), true⟩, ⟨(some 147), none, (.call (.c (.fn 41 [] [])) [(.t 146)]), true⟩, ⟨(some 144), none, (.mov (.t 147)), true⟩, ⟨(some 148), none, (.ext (.t 144) 0), true⟩, ⟨(some 149), none, (.ext (.t 144) 1), true⟩, ⟨(some 29), none, (.mov (.t 148)), true⟩, ⟨(some 30), none, (.mov (.t 149)), true⟩]) (.seq (.region [⟨(some 150), none, (.mov (.t 16)), true⟩, ⟨(some 151), none, (.bin false .eql (.t 150) (.c (.int .i64 (0)))), true⟩, ⟨(some 152), none, (.mov (.t 151)), true⟩, ⟨(some 153), (some (152, true)), (.mov (.t 18)), true⟩, ⟨(some 154), (some (152, true)), (.bin false .eql (.t 153) (.c (.int .i64 (0)))), true⟩, ⟨(some 155), none, (.pick (.t 152) (.t 154) (.c (.bool false))), true⟩, ⟨(some 156), none, (.mov (.t 155)), true⟩, ⟨(some 157), (some (156, true)), (.mov (.t 15)), true⟩, ⟨(some 158), (some (156, true)), (.mov (.t 17)), true⟩, ⟨(some 159), (some (156, true)), (.call (.c (.fn 26 [] [])) [(.t 157), (.t 158)]), true⟩, ⟨(some 160), none, (.pick (.t 156) (.t 159) (.c (.bool false))), true⟩, ⟨(some 161), none, (.mov (.t 160)), true⟩, ⟨(some 162), (some (161, true)), (.mov (.t 20)), true⟩, ⟨(some 163), (some (161, true)), (.mov (.t 22)), true⟩, ⟨(some 164), (some (161, true)), (.bin false .eql (.t 162) (.t 163)), true⟩, ⟨(some 165), none, (.pick (.t 161) (.t 164) (.c (.bool false))), true⟩, ⟨(some 166), none, (.mov (.t 165)), true⟩, ⟨(some 167), (some (166, true)), (.load true 2 (.t 19)), true⟩, ⟨(some 168), (some (166, true)), (.load true 2 (.t 21)), true⟩, ⟨(some 169), (some (166, true)), (.x (.eqv false ⟨true, [(.int .i64), (.int .i64)]⟩ (.t 167) (.t 168))), true⟩, ⟨(some 170), none, (.pick (.t 166) (.t 169) (.c (.bool false))), true⟩, ⟨(some 171), none, (.mov (.t 170)), true⟩, ⟨(some 172), (some (171, true)), (.mov (.t 24)), true⟩, ⟨(some 173), (some (171, true)), (.mov (.t 26)), true⟩, ⟨(some 174), (some (171, true)), (.bin false .eql (.t 172) (.t 173)), true⟩, ⟨(some 175), none, (.pick (.t 171) (.t 174) (.c (.bool false))), true⟩, ⟨(some 176), none, (.mov (.t 175)), true⟩, ⟨(some 177), (some (176, true)), (.mov (.t 23)), true⟩, ⟨(some 178), (some (176, true)), (.mov (.t 25)), true⟩, ⟨(some 179), (some (176, true)), (.call (.c (.fn 26 [] [])) [(.t 177), (.t 178)]), true⟩, ⟨(some 180), none, (.pick (.t 176) (.t 179) (.c (.bool false))), true⟩, ⟨(some 181), none, (.mov (.t 180)), true⟩, ⟨(some 182), (some (181, true)), (.mov (.t 28)), true⟩, ⟨(some 183), (some (181, true)), (.mov (.t 30)), true⟩, ⟨(some 184), (some (181, true)), (.bin false .eql (.t 182) (.t 183)), true⟩, ⟨(some 185), none, (.pick (.t 181) (.t 184) (.c (.bool false))), true⟩, ⟨(some 186), none, (.mov (.t 185)), true⟩, ⟨(some 187), (some (186, true)), (.mov (.t 27)), true⟩, ⟨(some 188), (some (186, true)), (.mov (.t 29)), true⟩, ⟨(some 189), (some (186, true)), (.call (.c (.fn 26 [] [])) [(.t 187), (.t 188)]), true⟩, ⟨(some 190), none, (.pick (.t 186) (.t 189) (.c (.bool false))), true⟩, ⟨(some 191), none, (.mov (.t 190)), true⟩, ⟨(some 192), (some (191, true)), (.call (.c (.fn 18 [] [])) []), true⟩, ⟨(some 193), none, (.pick (.t 191) (.t 192) (.c (.bool false))), true⟩, ⟨(some 10), none, (.mov (.t 193)), true⟩]) .ret))))))))))], [(.tm 10)]⟩
theorem L12_ok : litFX Try.prog 12 [false, false, false, true] = some L12 := by kernel_rfl
end Go.Proofs.Ytcgdopjmbadonaa

/-! Layer 2 (chain), plain: the same certificates in another order tell the same. -/
namespace Go.Proofs.Ytcgdopjmbadonaa
open Go.RowKit

set_option maxRecDepth 10000
set_option linter.unusedSimpArgs false
attribute [local irreducible] Bk.held Bk.nums Bk.heldU Bk.span
section
variable {b b' : Bk}
theorem Like.askM (hb : b.ok) (hb' : b'.ok) (h : Like b b') (item day : Int) : b'.askM item day = b.askM item day := h.part.askM hb hb' fun o ho _ => (h.c o).2 ho
theorem Like.bestM (hb : b.ok) (hb' : b'.ok) (h : Like b b') (item day : Int) : b'.bestM item day = b.bestM item day := h.part.bestM hb hb' fun o ho _ => (h.c o).2 ho
theorem Like.spanM (hb : b.ok) (hb' : b'.ok) (h : Like b b') (item day : Int) : b'.spanM item day = b.spanM item day := by
  unfold Bk.spanM
  rw [h.askM hb hb', h.contra hb hb', h.itemSpan hb hb']
theorem Like.wo (h : Like b b') (n : Int) : Like (b.wo n) (b'.wo n) := ⟨h.i, fun c => by
  show c ∈ b'.certs.filter (fun c => !decide (c.num = n)) ↔ c ∈ b.certs.filter (fun c => !decide (c.num = n))
  rw [List.mem_filter, List.mem_filter, h.c]⟩
theorem Like.suspM (hb : b.ok) (hb' : b'.ok) (h : Like b b') : b'.suspM = b.suspM := by
  unfold Bk.suspM
  rw [if_pos (Bk.ok_iff.2 hb), if_pos (Bk.ok_iff.2 hb'), h.contra hb hb', h.nums hb hb']
  have e : b.nums.filter b'.suspB = b.nums.filter b.suspB := List.filter_congr fun n _ => by
    unfold Bk.suspB
    rw [(h.wo n).contra (wo_ok hb n) (wo_ok hb' n)]
  rw [e]
def Bk.turned (b : Bk) (t : Nat) (o : Ct) : Bk := ⟨b.items, b.certs.drop t ++ b.certs.take t ++ [o]⟩
theorem turned_like {t : Nat} {o : Ct} (ho : o ∈ b.certs) : Like b (b.turned t o) := ⟨rfl, fun c => by
  have e : c ∈ b.certs ↔ c ∈ b.certs.take t ∨ c ∈ b.certs.drop t := by
    rw [← List.mem_append, List.take_append_drop]
  show c ∈ b.certs.drop t ++ b.certs.take t ++ [o] ↔ _
  rw [List.mem_append, List.mem_append, List.mem_singleton]
  constructor
  · rintro ((h | h) | rfl)
    · exact e.2 (.inr h)
    · exact e.2 (.inl h)
    · exact ho
  · intro h
    rcases e.1 h with h | h
    · exact .inl (.inr h)
    · exact .inl (.inl h)⟩
theorem turned_ok (hb : b.ok) (h23 : b.certs.length ≤ 23) {t : Nat} {o : Ct} (ho : o ∈ b.certs) : (b.turned t o).ok :=
  sub_ok hb rfl (fun c hc => ((turned_like ho).c c).1 hc) (by
    show (b.certs.drop t ++ b.certs.take t ++ [o]).length ≤ 24
    rw [List.length_append, List.length_append, List.length_drop, List.length_take]
    simp
    omega)
end
end Go.Proofs.Ytcgdopjmbadonaa

/-! Layer 2 (chain): the law ChainOrder. -/
namespace Go.Proofs.Ytcgdopjmbadonaa
open Go.RowKit

set_option maxRecDepth 10000
set_option linter.unusedSimpArgs false
attribute [local irreducible] Bk.held Bk.nums Bk.heldU Bk.span
attribute [local simp] AS.exp expG Box.ren AV.map AV.mapL outsOk noRet Site.isRet Box.allS AV.allS AV.allSL retB dropL AS.adds renL outG outOk lentBx inG fnOf lookA List.findIdx?_cons
attribute [local simp] Box.purge Site.isLoc
attribute [local simp] retFz frzL AS.frz AV.frz AV.frzL Box.frz AS.tidy AS.frzC
/-- A region of which all loads are taken first; from a state without boxes. -/
def regX (P : Program) (t : LT) (K : AS → Prop) (σ : AS) : Prop := ∃ τ, Sub τ σ ∧ τ.bx = [] ∧ opsTS P t K τ
theorem awpRg_nil {P : Program} {Q : AEx → AS → Prop} {σ : AS} : awpRg P [] Q σ = Q .normal σ := rfl
theorem awpRg_inl {P : Program} {l : LCode} {r : List (LCode ⊕ LT)} {Q : AEx → AS → Prop} {σ : AS} : awpRg P (.inl l :: r) Q σ = awpS P l (thenA (hold (awpRg P r Q)) Q) σ := rfl
theorem awpRg_inr {P : Program} {t : LT} {r : List (LCode ⊕ LT)} {Q : AEx → AS → Prop} {σ : AS} : awpRg P (.inr t :: r) Q σ = regX P t (hold (awpRg P r Q)) σ := rfl
attribute [local simp] awpRg_nil awpRg_inl awpRg_inr
def orS (b : Bk) (K D : Int) (X : List PV) (n : Nat) : AS := ⟨[(5, .pv (.ref [itsP b.items, ctsP b.certs])), (12, .pv (.int .i64 K)), (13, .pv (.int .i64 D)), (10, .pv (.bool false)), (14, .ptr (.loc 14 0) 0), (93, .agg [.pv (itsP b.items), .vec (.loc 92 0) 7 0 n])],
  [(.loc 92 0, .arr 58 7 X), (.loc 14 0, .cells [.pv (.emp (some true)), .pv (.emp (some true))])]⟩
set_option maxHeartbeats 64000000 in
theorem order_law (b : Bk) (by_ twice item day : Int) (h1 : 0 ≤ by_ ∧ by_ ≤ 255) (h2 : 0 ≤ twice ∧ twice ≤ 255) (h3 : 0 ≤ item ∧ item ≤ 255) (h4 : 0 ≤ day ∧ day ≤ 65535) : Gives Try.prog 12 [b.pv, .int .u8 by_, .int .u8 twice, .int .u8 item, .int .u16 day] (.bool true) := by
  have hw := wakes_c
  refine calls_of_awpRg mixed L12_ok (Nat.le_of_ble_eq_true rfl) ?_
  have hr1 := ready_c b
  simp [-getElem?_pos, L12, Bk.pv]
  refine call_gives (k := 0) (fs := []) (xs := [b.pv]) (cs := []) rfl rfl hr1 rfl ?_
  cases e1 : (decide (b.items.length ≤ 10) && decide (b.certs.length ≤ 28) && decide (b.fault = 0))
  · simp [-getElem?_pos]
    first
      | refine call_gives (k := 0) (fs := []) (xs := []) (cs := []) rfl rfl hw rfl ?_
      | refine call_give (k := 0) (fs := []) (xs := []) (cs := []) rfl rfl hw rfl ?_
    simp [-getElem?_pos]
  have hb := ready_of e1
  clear e1
  have hcl := hb.c
  have hil := hb.i
  cases e0 : decide ((b.certs.length : Int) = 0)
  case true =>
    have hc0 : b.certs = [] := List.length_eq_zero_iff.1 (by have := of_decide_eq_true e0; omega)
    simp [-getElem?_pos, -decide_eq_true_eq, -decide_eq_false_iff_not, itsP, ctsP, hc0]
    first
      | refine call_gives (k := 0) (fs := []) (xs := []) (cs := []) rfl rfl hw rfl ?_
      | refine call_give (k := 0) (fs := []) (xs := []) (cs := []) rfl rfl hw rfl ?_
    simp [-getElem?_pos]
  have hnc' : ¬ b.certs = [] := fun h => by rw [h] at e0; simp at e0
  cases e2 : decide ((23 : Int) < (b.certs.length : Int))
  case true =>
    simp [-getElem?_pos, -decide_eq_true_eq, -decide_eq_false_iff_not, itsP, ctsP, hnc', e2]
    first
      | refine call_gives (k := 0) (fs := []) (xs := []) (cs := []) rfl rfl hw rfl ?_
      | refine call_give (k := 0) (fs := []) (xs := []) (cs := []) rfl rfl hw rfl ?_
    simp [-getElem?_pos]
  cases e3 : decide ((b.items.length : Int) = 0)
  case true =>
    have hi0 : b.items = [] := List.length_eq_zero_iff.1 (by have := of_decide_eq_true e3; omega)
    simp [-getElem?_pos, -decide_eq_true_eq, -decide_eq_false_iff_not, itsP, ctsP, hnc', e2, hi0]
    first
      | refine call_gives (k := 0) (fs := []) (xs := []) (cs := []) rfl rfl hw rfl ?_
      | refine call_give (k := 0) (fs := []) (xs := []) (cs := []) rfl rfl hw rfl ?_
    simp [-getElem?_pos]
  have hpc : 0 < b.certs.length := by have := of_decide_eq_false e0; omega
  have h23 : b.certs.length ≤ 23 := by have := of_decide_eq_false e2; omega
  have hpi : 0 < b.items.length := by have := of_decide_eq_false e3; omega
  have hnc : ¬ (b.certs.length : Int) = 0 := by omega
  have hni : ¬ (b.items.length : Int) = 0 := by omega
  have hni' : ¬ b.items = [] := List.length_pos_iff.1 hpi
  have w1 : IntKind.i64.wrap item = item := wrap64 (by omega)
  have w2 : IntKind.i64.wrap day = day := wrap64 (by omega)
  have w3 : IntKind.i64.wrap by_ = by_ := wrap64 (by omega)
  have w4 : IntKind.i64.wrap twice = twice := wrap64 (by omega)
  have k1 := tmod_bd h3.1 (show (0 : Int) < (b.items.length : Int) by omega)
  have k2 := tmod_bd h4.1 (show (0 : Int) < 1001 by omega)
  have k3 := tmod_bd h1.1 (show (0 : Int) < (b.certs.length : Int) by omega)
  have k4 := tmod_bd h2.1 (show (0 : Int) < (b.certs.length : Int) by omega)
  generalize hK : item.tmod (b.items.length : Int) = K at *
  generalize hD : day.tmod 1001 = D at *
  generalize hT : by_.tmod (b.certs.length : Int) = T at *
  generalize hZ : twice.tmod (b.certs.length : Int) = Z at *
  obtain ⟨tn, rfl⟩ : ∃ n : Nat, T = n := ⟨T.toNat, by omega⟩
  obtain ⟨zn, rfl⟩ : ∃ n : Nat, Z = n := ⟨Z.toNat, by omega⟩
  simp [-getElem?_pos, -decide_eq_true_eq, -decide_eq_false_iff_not, itsP, ctsP, e0, e2, e3, hnc', hni', w1, w2, w3, hK, hD, hT]
  obtain ⟨o, ho⟩ : ∃ o, b.certs[zn]? = some o := ⟨b.certs[zn]'(by omega), List.getElem?_eq_getElem (by omega)⟩
  have hom : o ∈ b.certs := List.mem_of_getElem? ho
  have hgo : (b.certs.map Ct.pv)[zn]? = some (.agg [.int .i64 o.num, .int .i64 o.it, .int .i64 o.src, .int .i64 o.day, .int .i64 o.valid, .int .i64 o.diff.lo, .int .i64 o.diff.hi]) := by rw [List.getElem?_map, ho]; rfl
  have htl : tn ≤ b.certs.length := by omega
  have hzl : zn < b.certs.length := by omega
  refine ⟨⟨[(2, .pv (.int .u8 twice)), (5, .pv (.ref [itsP b.items, ctsP b.certs])), (11, .pv (.int .i64 tn)), (12, .pv (.int .i64 K)), (13, .pv (.int .i64 D)), (10, .pv (.bool false))], []⟩, Sub.trans' (Sub.mk ?_ ?_) (Sub.frz [.loc 5 0]), rfl, ?_⟩
  · simp [frzsL, itsP, ctsP]
  · simp
  have hbl : tn.ble b.certs.length = true := Nat.ble_eq_true_of_le htl
  have hbr : b.certs.length.ble b.certs.length = true := Nat.ble_eq_true_of_le (Nat.le_refl _)
  have hb0 : (0 : Nat).ble tn = true := Nat.ble_eq_true_of_le (Nat.zero_le _)
  have hm : (b.certs.map Ct.pv).take b.certs.length = b.certs.map Ct.pv := List.take_of_length_le (by simp)
  simp [-getElem?_pos, -List.getElem?_map, -List.map_take, -List.map_drop, itsP, ctsP, w4, hZ, hnc', hnc, hgo, htl, hzl, hbl, hbr, hb0, hm]
  have hDl : ((b.certs.map Ct.pv).drop tn).length = b.certs.length - tn := by simp
  have hTl : ((b.certs.map Ct.pv).take tn).length = tn := by simp; omega
  have hxp : (b.turned tn o).pv = .agg [itsP b.items, .lst false 7 ((b.certs.map Ct.pv).drop tn ++ (b.certs.map Ct.pv).take tn ++ [o.pv])] := by simp [Bk.turned, Bk.pv, itsP, ctsP]
  generalize (b.certs.map Ct.pv).drop tn = DA at *
  generalize (b.certs.map Ct.pv).take tn = TA at *
  have hd6 : DA.length ≤ 999999 := by omega
  have hd7 : DA.length ≤ 1000000 := by omega
  have ht7 : TA.length ≤ 1000000 := by omega
  have hdt6 : DA.length + TA.length ≤ 999999 := by omega
  have hdt7 : DA.length + TA.length ≤ 1000000 := by omega
  have hDm : DA.take DA.length = DA := List.take_of_length_le (Nat.le_refl _)
  have hTm : TA.take TA.length = TA := List.take_of_length_le (Nat.le_refl _)
  have hDTm : (DA ++ TA).take (DA.length + TA.length) = DA ++ TA := List.take_of_length_le (by simp)
  refine ltS_seq (orS b K D (DA ++ TA ++ [o.pv]) (DA.length + TA.length + 1)) ?_ ?_
  · simp [-getElem?_pos, -List.getElem?_map, ltS_alt, ltS_no, itsP, ctsP, nble, nblt, hd6, hd7, ht7, hdt6, hdt7, hDm, hTm, hDTm]
    repeat' (with_reducible refine And.intro ?_ ?_)
    all_goals
      refine Sub.mk ?_ ?_
      · simp [orS, itsP, ctsP]
      · simp [orS, itsP, ctsP, Ct.pv]
  have hxt : (DA ++ TA ++ [o.pv]).take (DA.length + TA.length + 1) = DA ++ TA ++ [o.pv] := List.take_of_length_le (by simp; omega)
  have hxl : DA.length + TA.length + 1 ≤ (DA ++ TA ++ [o.pv]).length := by simp; omega
  generalize DA ++ TA ++ [o.pv] = X at hxt hxp hxl ⊢
  have hlk := turned_like (t := tn) hom
  have hb2 := turned_ok hb h23 (t := tn) hom
  generalize b.turned tn o = b2 at hxp hlk hb2
  have hl2 := hb2.c
  have hi2 := hb2.i
  have hbk := book_c b (by omega) (by omega)
  have hbk2 := book_c b2 (by omega) (by omega)
  have hh1 := Held0_c b (by omega) (by omega)
  have hh2 := Held0_c b2 (by omega) (by omega)
  rw [heldM0 hb] at hh1
  rw [heldM0 hb2, hlk.held hb hb2] at hh2
  have hs1 := Span_c b (by omega) (by omega) K D
  have hs2 := Span_c b2 (by omega) (by omega) K D
  rw [hlk.spanM hb hb2] at hs2
  have hb1 := Best_c b (by omega) (by omega) K D
  have hb2' := Best_c b2 (by omega) (by omega) K D
  rw [hlk.bestM hb hb2] at hb2'
  have hu1 := Suspects_c b (by omega) (by omega)
  have hu2 := Suspects_c b2 (by omega) (by omega)
  rw [hlk.suspM hb hb2] at hu2
  have l0 := held_len (b := b) (bad := [])
  have l1 := bestM_len hb K D
  have l2 := suspM_len (b := b)
  unfold spanE Cr.pv at hs1 hs2
  unfold lstE at hb1 hb2' hu1 hu2 hh1 hh2
  simp only at hh1 hh2
  generalize (b.spanM K D).1.lo = a1 at hs1 hs2
  generalize (b.spanM K D).1.hi = a2 at hs1 hs2
  generalize (b.spanM K D).2 = E1 at hs1 hs2
  generalize (b.bestM K D).1 = L at hb1 hb2' l1
  generalize (b.bestM K D).2 = G at hb1 hb2'
  generalize b.suspM.1 = P at hu1 hu2 l2
  generalize b.suspM.2 = F at hu1 hu2
  generalize b.held [] = H at hh1 hh2 l0
  have hi0' := ints_c H H (by omega)
  have hi1' := ints_c L L (by omega)
  have hi2' := ints_c P P (by omega)
  rw [decide_eq_true rfl] at hi0' hi1' hi2'
  clear hlk hb2 hr1 hK hD hT hZ hgo ho hom
  simp [-getElem?_pos, -List.getElem?_map, ltS_alt, ltS_no, orS, itsP, ctsP]
  refine .inl (call_pv [] (fs := []) (xs := [b.pv]) (cs := []) rfl rfl hbk ?_)
  simp [-getElem?_pos, frzsL]
  refine .inl (call_pv [] (fs := []) (xs := [b.pv, .emp (some true)]) (cs := []) rfl rfl hh1 ?_)
  simp [-getElem?_pos, frzsL]
  refine .inl (call_pv [.loc 92 0] (fs := []) (xs := [b2.pv]) (cs := []) rfl ?_ hbk2 ?_)
  · simp [frzsL, hxt, hxp, hxl, itsP]
  simp [-getElem?_pos, frzsL, hxt, hxl]
  refine .inl (call_pv [] (fs := []) (xs := [b2.pv, .emp (some true)]) (cs := []) rfl rfl hh2 ?_)
  simp [-getElem?_pos, frzsL]
  refine .inl (call_pv [] (fs := []) (xs := [b.pv]) (cs := []) rfl rfl hbk ?_)
  simp [-getElem?_pos, frzsL]
  refine .inl (call_pv [] (fs := []) (xs := [b.pv, .int .i64 K, .int .i64 D]) (cs := []) rfl rfl hs1 ?_)
  simp [-getElem?_pos, frzsL]
  refine .inl (call_pv [] (fs := []) (xs := [b2.pv]) (cs := []) rfl (by simp [frzsL, hxp, itsP]) hbk2 ?_)
  simp [-getElem?_pos, frzsL]
  refine .inl (call_pv [] (fs := []) (xs := [b2.pv, .int .i64 K, .int .i64 D]) (cs := []) rfl rfl hs2 ?_)
  simp [-getElem?_pos, frzsL]
  refine .inl (call_pv [] (fs := []) (xs := [b.pv]) (cs := []) rfl rfl hbk ?_)
  simp [-getElem?_pos, frzsL]
  refine .inl (call_pv [] (fs := []) (xs := [b.pv, .int .i64 K, .int .i64 D]) (cs := []) rfl rfl hb1 ?_)
  simp [-getElem?_pos, frzsL]
  refine .inl (call_pv [] (fs := []) (xs := [b2.pv]) (cs := []) rfl (by simp [frzsL, hxp, itsP]) hbk2 ?_)
  simp [-getElem?_pos, frzsL]
  refine .inl (call_pv [] (fs := []) (xs := [b2.pv, .int .i64 K, .int .i64 D]) (cs := []) rfl rfl hb2' ?_)
  simp [-getElem?_pos, frzsL]
  refine .inl (call_pv [] (fs := []) (xs := [b.pv]) (cs := []) rfl rfl hbk ?_)
  simp [-getElem?_pos, frzsL]
  refine .inl (call_pv [] (fs := []) (xs := [b.pv]) (cs := []) rfl rfl hu1 ?_)
  simp [-getElem?_pos, frzsL]
  refine .inl (call_pv [] (fs := []) (xs := [b2.pv]) (cs := []) rfl (by simp [frzsL, hxp, itsP]) hbk2 ?_)
  simp [-getElem?_pos, frzsL]
  refine .inl (call_pv [] (fs := []) (xs := [b2.pv]) (cs := []) rfl rfl hu2 ?_)
  have hre := rgI (a := ⟨a1, a2⟩) (b := ⟨a1, a2⟩)
  rw [decide_eq_true rfl] at hre
  simp [-getElem?_pos, frzsL, hre, -eqK]
  refine call_gives (k := 0) (fs := []) (xs := [.lst false 1 (H.map intP), .lst false 1 (H.map intP)]) (cs := []) rfl rfl hi0' rfl ?_
  simp [-getElem?_pos, hre, -eqK]
  refine call_gives (k := 0) (fs := []) (xs := [.lst false 1 (L.map intP), .lst false 1 (L.map intP)]) (cs := []) rfl rfl hi1' rfl ?_
  simp [-getElem?_pos, hre, -eqK]
  refine call_gives (k := 0) (fs := []) (xs := [.lst false 1 (P.map intP), .lst false 1 (P.map intP)]) (cs := []) rfl rfl hi2' rfl ?_
  simp [-getElem?_pos]
  refine call_gives (k := 0) (fs := []) (xs := []) (cs := []) rfl rfl hw rfl ?_
  simp [-getElem?_pos]
end Go.Proofs.Ytcgdopjmbadonaa

/-! The statement ChainOrder holds: certificates in another order, some of them twice, tell the same. No conditions. -/
namespace Go.Proofs.Ytcgdopjmbadonaa
open Go.ChangeShapes Go.WideShapes Go.ChangeAt Go.RowKit

set_option maxRecDepth 100000 in
theorem walkChainOrder (v0 v1 v2 v3 v4 : Value) (W : World) {H : Type} {enc : TypeId × Value → H} {base : Nat} {sp : Nat → Bool} {hd : Bool} {d0 d1 d2 d3 d4 : DataW H} {p0 p1 p2 p3 p4 : List MemPlace}
    (k0 : Value.okWide Try.prog W .any base 25 v0) (h0 : DataW.Trod enc Try.prog W 0 sp hd 25 v0 d0 p0)
    (k1 : Value.okWide Try.prog W .any base 5 v1) (h1 : DataW.Trod enc Try.prog W 0 sp hd 5 v1 d1 p1)
    (k2 : Value.okWide Try.prog W .any base 5 v2) (h2 : DataW.Trod enc Try.prog W 0 sp hd 5 v2 d2 p2)
    (k3 : Value.okWide Try.prog W .any base 5 v3) (h3 : DataW.Trod enc Try.prog W 0 sp hd 5 v3 d3 p3)
    (k4 : Value.okWide Try.prog W .any base 64 v4) (h4 : DataW.Trod enc Try.prog W 0 sp hd 64 v4 d4 p4) :
    Calls Try.prog 12 #[v0, v1, v2, v3, v4] W fun e w' => e = .returned (.bool true) ∧ Keep [] W w' := by
  obtain ⟨n0, h0⟩ := h0
  obtain ⟨s0, w0, r0⟩ := rk_book k0 h0
  obtain ⟨s1, rfl, rfl, rfl, w1⟩ := open_int Try.underlying5 k1 h1
  obtain ⟨s2, rfl, rfl, rfl, w2⟩ := open_int Try.underlying5 k2 h2
  obtain ⟨s3, rfl, rfl, rfl, w3⟩ := open_int Try.underlying5 k3 h3
  obtain ⟨s4, rfl, rfl, rfl, w4⟩ := open_int Try.underlying64 k4 h4
  refine calls_bool (xs := [s0.pv, .int .u8 s1, .int .u8 s2, .int .u8 s3, .int .u16 s4]) (b := true) ((order_law s0 s1 s2 s3 s4 (ku8 w1) (ku8 w2) (ku8 w3) (ku16 w4)).mono (fun _ _ h => h.1)) rfl (fun j v x e1 e2 => ?_)
  match j with
  | 0 => simp at e1 e2; subst e1 e2; exact r0
  | 1 => simp at e1 e2; subst e1 e2; exact .int .u8 s1
  | 2 => simp at e1 e2; subst e1 e2; exact .int .u8 s2
  | 3 => simp at e1 e2; subst e1 e2; exact .int .u8 s3
  | 4 => simp at e1 e2; subst e1 e2; exact .int .u16 s4
  | j + 5 => simp at e1
set_option maxRecDepth 100000 in
theorem liftedChainOrder (os : Os) (started : os.Started) (H : Type) (enc : TypeId × Value → H) :
    ReturnsInHanded {} Try.checked os 12 .any (Rows.chainOrderSpec.pre6 enc Try.prog Try.f12 Rows.chainOrderRow.domain false) (Rows.chainOrderSpec.post enc Try.prog Try.f12 false true false false) := by
  refine returnsInHanded_of_change (C := Try.checked) own started (by kernel_rfl) Try.func12
    (ChangeSpec.witness6 (enc := enc) (C := Try.checked) false ⟨#[], #[.agg #[.slice none 0 0, .slice none 0 0], .int .u8 0, .int .u8 0, .int .u8 0, .int .u16 0], []⟩ 8 (by kernel_rfl) (by kernel_rfl) (by kernel_rfl) (by kernel_rfl)) ?_
  intro W base args ds gs before hval0 hW hcnd _
  have hval : ∀ (j : Nat) t v, Try.f12.params[j]? = some t → args[j]? = some v → Value.okWide Try.prog W .any base t v := hval0
  have hW' := hW
  obtain ⟨p, q, hA0, hV, rfl, hfz, hnd⟩ := hW
  have hA : DataW.TrodAll enc Try.prog W 0 (fun _ => true) true Try.f12.params.toList args.toList ds p := hA0
  rw [Try.params12] at hA hval
  obtain ⟨v0, vs0, d0, ds0, p0, q0, hargs, rfl, rfl, h0, r0⟩ := trodAll_cons hA
  obtain ⟨v1, vs1, d1, ds1, p1, q1, rfl, rfl, rfl, h1, r1⟩ := trodAll_cons r0
  obtain ⟨v2, vs2, d2, ds2, p2, q2, rfl, rfl, rfl, h2, r2⟩ := trodAll_cons r1
  obtain ⟨v3, vs3, d3, ds3, p3, q3, rfl, rfl, rfl, h3, r3⟩ := trodAll_cons r2
  obtain ⟨v4, vs4, d4, ds4, p4, q4, rfl, rfl, rfl, h4, r4⟩ := trodAll_cons r3
  obtain ⟨rfl, rfl, rfl⟩ := trodAll_nil r4
  have hargs' : args = #[v0, v1, v2, v3, v4] := by
    apply Array.ext'
    exact hargs
  subst hargs'
  have k0 := hval 0 _ v0 rfl rfl
  have k1 := hval 1 _ v1 rfl rfl
  have k2 := hval 2 _ v2 rfl rfl
  have k3 := hval 3 _ v3 rfl rfl
  have k4 := hval 4 _ v4 rfl rfl
  obtain ⟨rfl, rfl⟩ := trodVars_none hV
  refine (walkChainOrder v0 v1 v2 v3 v4 W k0 h0 k1 h1 k2 h2 k3 h3 k4 h4).mono fun e W' ⟨he, hk⟩ => ?_
  subst he
  exact ⟨_, rfl, post_law (tb := 4) laidP rowedP fullP (by decide +kernel) rfl rfl rfl Try.underlying4 hW' hk⟩
theorem overChainOrder : Rows.chainOrderRow.holds Try.pinned (OpenSpec.ofChange Rows.chainOrderSpec) :=
  OpenClaim.holds_of_wide 12 Try.f12 rfl rfl rfl rfl rfl rfl rfl ⟨rfl, rfl, rfl, rfl, rfl⟩ rfl rfl rfl rfl rfl (by kernel_rfl) Try.func12 (by kernel_rfl)
    (of_decide_eq_true (by kernel_rfl)) (by unfold Func.isWrapper; first | (rw [if_pos (by decide +kernel)]; kernel_rfl) | (rw [if_neg (by decide +kernel)]; exact ⟨rfl, rfl⟩))
    (fun os started H enc _ => liftedChainOrder os started H enc)
theorem provedChainOrder : Rows.ChainOrderSaid := overChainOrder
end Go.Proofs.Ytcgdopjmbadonaa
