/- Facts of the program's types and of its regions whose order is open and what follows. Conditions: in each statement. -/
import Derived.Test.YtlbkcdfllglddaaRows
import Derived.Test.YtlbkcdfllglddaaA2
import Derived.KernelRfl
import Derived.WalkKit
import Derived.ProofKit
import Derived.OpenShut
import Derived.ShutString
import Derived.ChangeOld
import Derived.Below
import Derived.SizedLaws
/-! Facts of the program's types and of its regions whose order is open. Printed by a program of this session (mkty.py). Conditions: none. -/
namespace Go.Proofs.Ytlbkcdfllglddaa.fmt
open Go Go.Ab
set_option maxRecDepth 100000
theorem sz0 : sizeA Try.prog 0 = some 1 := by kernel_rfl
theorem ce0 : Try.prog.cellsOf 0 = 1 := by kernel_rfl
theorem ag0 : isAggA Try.prog 0 = some false := by kernel_rfl
theorem in0 : (Try.prog.info? 0).map (fun i => (i.size, i.bytes)) = some (1, 0) := by kernel_rfl
theorem sz1 : sizeA Try.prog 1 = some 1 := by kernel_rfl
theorem ce1 : Try.prog.cellsOf 1 = 1 := by kernel_rfl
theorem ag1 : isAggA Try.prog 1 = some false := by kernel_rfl
theorem ze1 : zeroA Try.prog 1 = some (.nilf) := by kernel_rfl
theorem in1 : (Try.prog.info? 1).map (fun i => (i.size, i.bytes)) = some (1, 8) := by kernel_rfl
theorem sz2 : sizeA Try.prog 2 = some 1 := by kernel_rfl
theorem ce2 : Try.prog.cellsOf 2 = 1 := by kernel_rfl
theorem ag2 : isAggA Try.prog 2 = some false := by kernel_rfl
theorem ze2 : zeroA Try.prog 2 = some (.int .i64 0) := by kernel_rfl
theorem in2 : (Try.prog.info? 2).map (fun i => (i.size, i.bytes)) = some (1, 8) := by kernel_rfl
theorem sz3 : sizeA Try.prog 3 = some 1 := by kernel_rfl
theorem ce3 : Try.prog.cellsOf 3 = 1 := by kernel_rfl
theorem ag3 : isAggA Try.prog 3 = some false := by kernel_rfl
theorem ze3 : zeroA Try.prog 3 = some (.int .i64 0) := by kernel_rfl
theorem in3 : (Try.prog.info? 3).map (fun i => (i.size, i.bytes)) = some (1, 8) := by kernel_rfl
theorem sz4 : sizeA Try.prog 4 = some 1 := by kernel_rfl
theorem ce4 : Try.prog.cellsOf 4 = 1 := by kernel_rfl
theorem ag4 : isAggA Try.prog 4 = some false := by kernel_rfl
theorem ze4 : zeroA Try.prog 4 = some (.bool false) := by kernel_rfl
theorem in4 : (Try.prog.info? 4).map (fun i => (i.size, i.bytes)) = some (1, 1) := by kernel_rfl
theorem sz5 : sizeA Try.prog 5 = some 1 := by kernel_rfl
theorem ce5 : Try.prog.cellsOf 5 = 1 := by kernel_rfl
theorem ag5 : isAggA Try.prog 5 = some false := by kernel_rfl
theorem ze5 : zeroA Try.prog 5 = some (.int .u8 0) := by kernel_rfl
theorem in5 : (Try.prog.info? 5).map (fun i => (i.size, i.bytes)) = some (1, 1) := by kernel_rfl
theorem sz6 : sizeA Try.prog 6 = some 1 := by kernel_rfl
theorem ce6 : Try.prog.cellsOf 6 = 1 := by kernel_rfl
theorem ag6 : isAggA Try.prog 6 = some false := by kernel_rfl
theorem ze6 : zeroA Try.prog 6 = some (.int .u8 0) := by kernel_rfl
theorem in6 : (Try.prog.info? 6).map (fun i => (i.size, i.bytes)) = some (1, 1) := by kernel_rfl
theorem sz7 : sizeA Try.prog 7 = some 4 := by kernel_rfl
theorem ce7 : Try.prog.cellsOf 7 = 4 := by kernel_rfl
theorem ag7 : isAggA Try.prog 7 = some true := by kernel_rfl
theorem ze7 : zeroA Try.prog 7 = some (.agg [.int .i64 0, .int .i64 0, .bool false, .int .u8 0]) := by kernel_rfl
theorem in7 : (Try.prog.info? 7).map (fun i => (i.size, i.bytes)) = some (4, 24) := by kernel_rfl
theorem sz8 : sizeA Try.prog 8 = some 4 := by kernel_rfl
theorem ce8 : Try.prog.cellsOf 8 = 4 := by kernel_rfl
theorem ag8 : isAggA Try.prog 8 = some true := by kernel_rfl
theorem ze8 : zeroA Try.prog 8 = some (.agg [.int .i64 0, .int .i64 0, .bool false, .int .u8 0]) := by kernel_rfl
theorem in8 : (Try.prog.info? 8).map (fun i => (i.size, i.bytes)) = some (4, 24) := by kernel_rfl
theorem sz9 : sizeA Try.prog 9 = some 1 := by kernel_rfl
theorem ce9 : Try.prog.cellsOf 9 = 1 := by kernel_rfl
theorem ag9 : isAggA Try.prog 9 = some false := by kernel_rfl
theorem ze9 : zeroA Try.prog 9 = some (.str ByteArray.empty) := by kernel_rfl
theorem in9 : (Try.prog.info? 9).map (fun i => (i.size, i.bytes)) = some (1, 16) := by kernel_rfl
theorem sz10 : sizeA Try.prog 10 = some 1 := by kernel_rfl
theorem ce10 : Try.prog.cellsOf 10 = 1 := by kernel_rfl
theorem ag10 : isAggA Try.prog 10 = some false := by kernel_rfl
theorem ze10 : zeroA Try.prog 10 = some (.str ByteArray.empty) := by kernel_rfl
theorem in10 : (Try.prog.info? 10).map (fun i => (i.size, i.bytes)) = some (1, 16) := by kernel_rfl
theorem sz11 : sizeA Try.prog 11 = some 1 := by kernel_rfl
theorem ce11 : Try.prog.cellsOf 11 = 1 := by kernel_rfl
theorem ag11 : isAggA Try.prog 11 = some false := by kernel_rfl
theorem ze11 : zeroA Try.prog 11 = some (.str ByteArray.empty) := by kernel_rfl
theorem in11 : (Try.prog.info? 11).map (fun i => (i.size, i.bytes)) = some (1, 16) := by kernel_rfl
theorem sz12 : sizeA Try.prog 12 = some 1 := by kernel_rfl
theorem ce12 : Try.prog.cellsOf 12 = 1 := by kernel_rfl
theorem ag12 : isAggA Try.prog 12 = some false := by kernel_rfl
theorem ze12 : zeroA Try.prog 12 = some (.int .u64 0) := by kernel_rfl
theorem in12 : (Try.prog.info? 12).map (fun i => (i.size, i.bytes)) = some (1, 8) := by kernel_rfl
theorem sz13 : sizeA Try.prog 13 = some 2 := by kernel_rfl
theorem ce13 : Try.prog.cellsOf 13 = 2 := by kernel_rfl
theorem ag13 : isAggA Try.prog 13 = some true := by kernel_rfl
theorem ze13 : zeroA Try.prog 13 = some (.agg [.str ByteArray.empty, .int .u64 0]) := by kernel_rfl
theorem in13 : (Try.prog.info? 13).map (fun i => (i.size, i.bytes)) = some (2, 24) := by kernel_rfl
theorem sz14 : sizeA Try.prog 14 = some 2 := by kernel_rfl
theorem ce14 : Try.prog.cellsOf 14 = 2 := by kernel_rfl
theorem ag14 : isAggA Try.prog 14 = some true := by kernel_rfl
theorem ze14 : zeroA Try.prog 14 = some (.agg [.str ByteArray.empty, .int .u64 0]) := by kernel_rfl
theorem in14 : (Try.prog.info? 14).map (fun i => (i.size, i.bytes)) = some (2, 24) := by kernel_rfl
theorem sz15 : sizeA Try.prog 15 = some 1 := by kernel_rfl
theorem ce15 : Try.prog.cellsOf 15 = 1 := by kernel_rfl
theorem ag15 : isAggA Try.prog 15 = some false := by kernel_rfl
theorem ze15 : zeroA Try.prog 15 = some (.nilp) := by kernel_rfl
theorem in15 : (Try.prog.info? 15).map (fun i => (i.size, i.bytes)) = some (1, 8) := by kernel_rfl
theorem sz16 : sizeA Try.prog 16 = some 1 := by kernel_rfl
theorem ce16 : Try.prog.cellsOf 16 = 1 := by kernel_rfl
theorem ag16 : isAggA Try.prog 16 = some false := by kernel_rfl
theorem ze16 : zeroA Try.prog 16 = some (.nilp) := by kernel_rfl
theorem in16 : (Try.prog.info? 16).map (fun i => (i.size, i.bytes)) = some (1, 8) := by kernel_rfl
theorem sz17 : sizeA Try.prog 17 = some 1 := by kernel_rfl
theorem ce17 : Try.prog.cellsOf 17 = 1 := by kernel_rfl
theorem ag17 : isAggA Try.prog 17 = some false := by kernel_rfl
theorem ze17 : zeroA Try.prog 17 = some (.nilp) := by kernel_rfl
theorem in17 : (Try.prog.info? 17).map (fun i => (i.size, i.bytes)) = some (1, 8) := by kernel_rfl
theorem sz18 : sizeA Try.prog 18 = some 1 := by kernel_rfl
theorem ce18 : Try.prog.cellsOf 18 = 1 := by kernel_rfl
theorem ag18 : isAggA Try.prog 18 = some true := by kernel_rfl
theorem ze18 : zeroA Try.prog 18 = some (.agg [.nilp]) := by kernel_rfl
theorem in18 : (Try.prog.info? 18).map (fun i => (i.size, i.bytes)) = some (1, 8) := by kernel_rfl
theorem sz19 : sizeA Try.prog 19 = some 1 := by kernel_rfl
theorem ce19 : Try.prog.cellsOf 19 = 1 := by kernel_rfl
theorem ag19 : isAggA Try.prog 19 = some true := by kernel_rfl
theorem ze19 : zeroA Try.prog 19 = some (.agg [.nilp]) := by kernel_rfl
theorem in19 : (Try.prog.info? 19).map (fun i => (i.size, i.bytes)) = some (1, 8) := by kernel_rfl
theorem sz20 : sizeA Try.prog 20 = some 1 := by kernel_rfl
theorem ce20 : Try.prog.cellsOf 20 = 1 := by kernel_rfl
theorem ag20 : isAggA Try.prog 20 = some false := by kernel_rfl
theorem ze20 : zeroA Try.prog 20 = some (.nili) := by kernel_rfl
theorem in20 : (Try.prog.info? 20).map (fun i => (i.size, i.bytes)) = some (1, 16) := by kernel_rfl
theorem sz21 : sizeA Try.prog 21 = some 1 := by kernel_rfl
theorem ce21 : Try.prog.cellsOf 21 = 1 := by kernel_rfl
theorem ag21 : isAggA Try.prog 21 = some false := by kernel_rfl
theorem ze21 : zeroA Try.prog 21 = some (.int .i32 0) := by kernel_rfl
theorem in21 : (Try.prog.info? 21).map (fun i => (i.size, i.bytes)) = some (1, 4) := by kernel_rfl
theorem sz22 : sizeA Try.prog 22 = some 1 := by kernel_rfl
theorem ce22 : Try.prog.cellsOf 22 = 1 := by kernel_rfl
theorem ag22 : isAggA Try.prog 22 = some false := by kernel_rfl
theorem ze22 : zeroA Try.prog 22 = some (.int .u64 0) := by kernel_rfl
theorem in22 : (Try.prog.info? 22).map (fun i => (i.size, i.bytes)) = some (1, 8) := by kernel_rfl
theorem sz23 : sizeA Try.prog 23 = some 1 := by kernel_rfl
theorem ce23 : Try.prog.cellsOf 23 = 1 := by kernel_rfl
theorem ag23 : isAggA Try.prog 23 = some false := by kernel_rfl
theorem ze23 : zeroA Try.prog 23 = some (.int .i64 0) := by kernel_rfl
theorem in23 : (Try.prog.info? 23).map (fun i => (i.size, i.bytes)) = some (1, 8) := by kernel_rfl
theorem sz24 : sizeA Try.prog 24 = some 1 := by kernel_rfl
theorem ce24 : Try.prog.cellsOf 24 = 1 := by kernel_rfl
theorem ag24 : isAggA Try.prog 24 = some false := by kernel_rfl
theorem in24 : (Try.prog.info? 24).map (fun i => (i.size, i.bytes)) = some (1, 0) := by kernel_rfl
theorem sz25 : sizeA Try.prog 25 = some 1 := by kernel_rfl
theorem ce25 : Try.prog.cellsOf 25 = 1 := by kernel_rfl
theorem ag25 : isAggA Try.prog 25 = some false := by kernel_rfl
theorem ze25 : zeroA Try.prog 25 = some (.nilf) := by kernel_rfl
theorem in25 : (Try.prog.info? 25).map (fun i => (i.size, i.bytes)) = some (1, 8) := by kernel_rfl
theorem sz26 : sizeA Try.prog 26 = some 1 := by kernel_rfl
theorem ce26 : Try.prog.cellsOf 26 = 1 := by kernel_rfl
theorem ag26 : isAggA Try.prog 26 = some false := by kernel_rfl
theorem in26 : (Try.prog.info? 26).map (fun i => (i.size, i.bytes)) = some (1, 0) := by kernel_rfl
theorem sz27 : sizeA Try.prog 27 = some 1 := by kernel_rfl
theorem ce27 : Try.prog.cellsOf 27 = 1 := by kernel_rfl
theorem ag27 : isAggA Try.prog 27 = some false := by kernel_rfl
theorem ze27 : zeroA Try.prog 27 = some (.nilf) := by kernel_rfl
theorem in27 : (Try.prog.info? 27).map (fun i => (i.size, i.bytes)) = some (1, 8) := by kernel_rfl
theorem sz28 : sizeA Try.prog 28 = some 1 := by kernel_rfl
theorem ce28 : Try.prog.cellsOf 28 = 1 := by kernel_rfl
theorem ag28 : isAggA Try.prog 28 = some false := by kernel_rfl
theorem in28 : (Try.prog.info? 28).map (fun i => (i.size, i.bytes)) = some (1, 0) := by kernel_rfl
theorem sz29 : sizeA Try.prog 29 = some 1 := by kernel_rfl
theorem ce29 : Try.prog.cellsOf 29 = 1 := by kernel_rfl
theorem ag29 : isAggA Try.prog 29 = some false := by kernel_rfl
theorem ze29 : zeroA Try.prog 29 = some (.nilf) := by kernel_rfl
theorem in29 : (Try.prog.info? 29).map (fun i => (i.size, i.bytes)) = some (1, 8) := by kernel_rfl
theorem sz30 : sizeA Try.prog 30 = some 1 := by kernel_rfl
theorem ce30 : Try.prog.cellsOf 30 = 1 := by kernel_rfl
theorem ag30 : isAggA Try.prog 30 = some false := by kernel_rfl
theorem in30 : (Try.prog.info? 30).map (fun i => (i.size, i.bytes)) = some (1, 0) := by kernel_rfl
theorem sz31 : sizeA Try.prog 31 = some 1 := by kernel_rfl
theorem ce31 : Try.prog.cellsOf 31 = 1 := by kernel_rfl
theorem ag31 : isAggA Try.prog 31 = some false := by kernel_rfl
theorem ze31 : zeroA Try.prog 31 = some (.nilf) := by kernel_rfl
theorem in31 : (Try.prog.info? 31).map (fun i => (i.size, i.bytes)) = some (1, 8) := by kernel_rfl
theorem sz32 : sizeA Try.prog 32 = some 1 := by kernel_rfl
theorem ce32 : Try.prog.cellsOf 32 = 1 := by kernel_rfl
theorem ag32 : isAggA Try.prog 32 = some false := by kernel_rfl
theorem in32 : (Try.prog.info? 32).map (fun i => (i.size, i.bytes)) = some (1, 0) := by kernel_rfl
theorem sz33 : sizeA Try.prog 33 = some 1 := by kernel_rfl
theorem ce33 : Try.prog.cellsOf 33 = 1 := by kernel_rfl
theorem ag33 : isAggA Try.prog 33 = some false := by kernel_rfl
theorem ze33 : zeroA Try.prog 33 = some (.nilf) := by kernel_rfl
theorem in33 : (Try.prog.info? 33).map (fun i => (i.size, i.bytes)) = some (1, 8) := by kernel_rfl
theorem sz34 : sizeA Try.prog 34 = some 1 := by kernel_rfl
theorem ce34 : Try.prog.cellsOf 34 = 1 := by kernel_rfl
theorem ag34 : isAggA Try.prog 34 = some false := by kernel_rfl
theorem in34 : (Try.prog.info? 34).map (fun i => (i.size, i.bytes)) = some (1, 0) := by kernel_rfl
theorem sz35 : sizeA Try.prog 35 = some 1 := by kernel_rfl
theorem ce35 : Try.prog.cellsOf 35 = 1 := by kernel_rfl
theorem ag35 : isAggA Try.prog 35 = some false := by kernel_rfl
theorem ze35 : zeroA Try.prog 35 = some (.nilf) := by kernel_rfl
theorem in35 : (Try.prog.info? 35).map (fun i => (i.size, i.bytes)) = some (1, 8) := by kernel_rfl
theorem sz36 : sizeA Try.prog 36 = some 1 := by kernel_rfl
theorem ce36 : Try.prog.cellsOf 36 = 1 := by kernel_rfl
theorem ag36 : isAggA Try.prog 36 = some false := by kernel_rfl
theorem ze36 : zeroA Try.prog 36 = some (.nilf) := by kernel_rfl
theorem in36 : (Try.prog.info? 36).map (fun i => (i.size, i.bytes)) = some (1, 8) := by kernel_rfl
theorem sz37 : sizeA Try.prog 37 = some 1 := by kernel_rfl
theorem ce37 : Try.prog.cellsOf 37 = 1 := by kernel_rfl
theorem ag37 : isAggA Try.prog 37 = some false := by kernel_rfl
theorem ze37 : zeroA Try.prog 37 = some (.nilf) := by kernel_rfl
theorem in37 : (Try.prog.info? 37).map (fun i => (i.size, i.bytes)) = some (1, 8) := by kernel_rfl
theorem sz38 : sizeA Try.prog 38 = some 1 := by kernel_rfl
theorem ce38 : Try.prog.cellsOf 38 = 1 := by kernel_rfl
theorem ag38 : isAggA Try.prog 38 = some false := by kernel_rfl
theorem ze38 : zeroA Try.prog 38 = some (.nilf) := by kernel_rfl
theorem in38 : (Try.prog.info? 38).map (fun i => (i.size, i.bytes)) = some (1, 8) := by kernel_rfl
theorem sz39 : sizeA Try.prog 39 = some 1 := by kernel_rfl
theorem ce39 : Try.prog.cellsOf 39 = 1 := by kernel_rfl
theorem ag39 : isAggA Try.prog 39 = some false := by kernel_rfl
theorem ze39 : zeroA Try.prog 39 = some (.rsl none 0 0 []) := by kernel_rfl
theorem in39 : (Try.prog.info? 39).map (fun i => (i.size, i.bytes)) = some (1, 24) := by kernel_rfl
theorem sz40 : sizeA Try.prog 40 = some 1 := by kernel_rfl
theorem ce40 : Try.prog.cellsOf 40 = 1 := by kernel_rfl
theorem ag40 : isAggA Try.prog 40 = some false := by kernel_rfl
theorem ze40 : zeroA Try.prog 40 = some (.nilf) := by kernel_rfl
theorem in40 : (Try.prog.info? 40).map (fun i => (i.size, i.bytes)) = some (1, 8) := by kernel_rfl
theorem sz41 : sizeA Try.prog 41 = some 1 := by kernel_rfl
theorem ce41 : Try.prog.cellsOf 41 = 1 := by kernel_rfl
theorem ag41 : isAggA Try.prog 41 = some false := by kernel_rfl
theorem ze41 : zeroA Try.prog 41 = some (.nilf) := by kernel_rfl
theorem in41 : (Try.prog.info? 41).map (fun i => (i.size, i.bytes)) = some (1, 8) := by kernel_rfl
theorem sz42 : sizeA Try.prog 42 = some 1 := by kernel_rfl
theorem ce42 : Try.prog.cellsOf 42 = 1 := by kernel_rfl
theorem ag42 : isAggA Try.prog 42 = some false := by kernel_rfl
theorem ze42 : zeroA Try.prog 42 = some (.nilf) := by kernel_rfl
theorem in42 : (Try.prog.info? 42).map (fun i => (i.size, i.bytes)) = some (1, 8) := by kernel_rfl
theorem sz43 : sizeA Try.prog 43 = some 1 := by kernel_rfl
theorem ce43 : Try.prog.cellsOf 43 = 1 := by kernel_rfl
theorem ag43 : isAggA Try.prog 43 = some false := by kernel_rfl
theorem ze43 : zeroA Try.prog 43 = some (.nilf) := by kernel_rfl
theorem in43 : (Try.prog.info? 43).map (fun i => (i.size, i.bytes)) = some (1, 8) := by kernel_rfl
theorem sz44 : sizeA Try.prog 44 = some 1 := by kernel_rfl
theorem ce44 : Try.prog.cellsOf 44 = 1 := by kernel_rfl
theorem ag44 : isAggA Try.prog 44 = some false := by kernel_rfl
theorem ze44 : zeroA Try.prog 44 = some (.nilf) := by kernel_rfl
theorem in44 : (Try.prog.info? 44).map (fun i => (i.size, i.bytes)) = some (1, 8) := by kernel_rfl
theorem sz45 : sizeA Try.prog 45 = some 1 := by kernel_rfl
theorem ce45 : Try.prog.cellsOf 45 = 1 := by kernel_rfl
theorem ag45 : isAggA Try.prog 45 = some false := by kernel_rfl
theorem ze45 : zeroA Try.prog 45 = some (.nilf) := by kernel_rfl
theorem in45 : (Try.prog.info? 45).map (fun i => (i.size, i.bytes)) = some (1, 8) := by kernel_rfl
theorem sz46 : sizeA Try.prog 46 = some 1 := by kernel_rfl
theorem ce46 : Try.prog.cellsOf 46 = 1 := by kernel_rfl
theorem ag46 : isAggA Try.prog 46 = some false := by kernel_rfl
theorem ze46 : zeroA Try.prog 46 = some (.nilf) := by kernel_rfl
theorem in46 : (Try.prog.info? 46).map (fun i => (i.size, i.bytes)) = some (1, 8) := by kernel_rfl
theorem sz47 : sizeA Try.prog 47 = some 1 := by kernel_rfl
theorem ce47 : Try.prog.cellsOf 47 = 1 := by kernel_rfl
theorem ag47 : isAggA Try.prog 47 = some false := by kernel_rfl
theorem ze47 : zeroA Try.prog 47 = some (.nilf) := by kernel_rfl
theorem in47 : (Try.prog.info? 47).map (fun i => (i.size, i.bytes)) = some (1, 8) := by kernel_rfl
theorem sz48 : sizeA Try.prog 48 = some 2 := by kernel_rfl
theorem ce48 : Try.prog.cellsOf 48 = 2 := by kernel_rfl
theorem ag48 : isAggA Try.prog 48 = some true := by kernel_rfl
theorem ze48 : zeroA Try.prog 48 = some (.agg [.int .i64 0, .int .i64 0]) := by kernel_rfl
theorem in48 : (Try.prog.info? 48).map (fun i => (i.size, i.bytes)) = some (2, 16) := by kernel_rfl
theorem sz49 : sizeA Try.prog 49 = some 2 := by kernel_rfl
theorem ce49 : Try.prog.cellsOf 49 = 2 := by kernel_rfl
theorem ag49 : isAggA Try.prog 49 = some true := by kernel_rfl
theorem ze49 : zeroA Try.prog 49 = some (.agg [.int .i64 0, .int .i64 0]) := by kernel_rfl
theorem in49 : (Try.prog.info? 49).map (fun i => (i.size, i.bytes)) = some (2, 16) := by kernel_rfl
theorem sz50 : sizeA Try.prog 50 = some 1 := by kernel_rfl
theorem ce50 : Try.prog.cellsOf 50 = 1 := by kernel_rfl
theorem ag50 : isAggA Try.prog 50 = some false := by kernel_rfl
theorem ze50 : zeroA Try.prog 50 = some (.nilf) := by kernel_rfl
theorem in50 : (Try.prog.info? 50).map (fun i => (i.size, i.bytes)) = some (1, 8) := by kernel_rfl
theorem sz51 : sizeA Try.prog 51 = some 1 := by kernel_rfl
theorem ce51 : Try.prog.cellsOf 51 = 1 := by kernel_rfl
theorem ag51 : isAggA Try.prog 51 = some false := by kernel_rfl
theorem ze51 : zeroA Try.prog 51 = some (.nilf) := by kernel_rfl
theorem in51 : (Try.prog.info? 51).map (fun i => (i.size, i.bytes)) = some (1, 8) := by kernel_rfl
theorem sz52 : sizeA Try.prog 52 = some 1 := by kernel_rfl
theorem ce52 : Try.prog.cellsOf 52 = 1 := by kernel_rfl
theorem ag52 : isAggA Try.prog 52 = some false := by kernel_rfl
theorem ze52 : zeroA Try.prog 52 = some (.nilf) := by kernel_rfl
theorem in52 : (Try.prog.info? 52).map (fun i => (i.size, i.bytes)) = some (1, 8) := by kernel_rfl
theorem sz53 : sizeA Try.prog 53 = some 1 := by kernel_rfl
theorem ce53 : Try.prog.cellsOf 53 = 1 := by kernel_rfl
theorem ag53 : isAggA Try.prog 53 = some false := by kernel_rfl
theorem ze53 : zeroA Try.prog 53 = some (.int .u64 0) := by kernel_rfl
theorem in53 : (Try.prog.info? 53).map (fun i => (i.size, i.bytes)) = some (1, 8) := by kernel_rfl
theorem sz54 : sizeA Try.prog 54 = some 1 := by kernel_rfl
theorem ce54 : Try.prog.cellsOf 54 = 1 := by kernel_rfl
theorem ag54 : isAggA Try.prog 54 = some false := by kernel_rfl
theorem ze54 : zeroA Try.prog 54 = some (.nilf) := by kernel_rfl
theorem in54 : (Try.prog.info? 54).map (fun i => (i.size, i.bytes)) = some (1, 8) := by kernel_rfl
theorem sz55 : sizeA Try.prog 55 = some 1 := by kernel_rfl
theorem ce55 : Try.prog.cellsOf 55 = 1 := by kernel_rfl
theorem ag55 : isAggA Try.prog 55 = some false := by kernel_rfl
theorem ze55 : zeroA Try.prog 55 = some (.nilf) := by kernel_rfl
theorem in55 : (Try.prog.info? 55).map (fun i => (i.size, i.bytes)) = some (1, 8) := by kernel_rfl
theorem sz56 : sizeA Try.prog 56 = some 1 := by kernel_rfl
theorem ce56 : Try.prog.cellsOf 56 = 1 := by kernel_rfl
theorem ag56 : isAggA Try.prog 56 = some false := by kernel_rfl
theorem ze56 : zeroA Try.prog 56 = some (.nilf) := by kernel_rfl
theorem in56 : (Try.prog.info? 56).map (fun i => (i.size, i.bytes)) = some (1, 8) := by kernel_rfl
theorem sz57 : sizeA Try.prog 57 = some 1 := by kernel_rfl
theorem ce57 : Try.prog.cellsOf 57 = 1 := by kernel_rfl
theorem ag57 : isAggA Try.prog 57 = some false := by kernel_rfl
theorem ze57 : zeroA Try.prog 57 = some (.nilf) := by kernel_rfl
theorem in57 : (Try.prog.info? 57).map (fun i => (i.size, i.bytes)) = some (1, 8) := by kernel_rfl
theorem sz58 : sizeA Try.prog 58 = some 1 := by kernel_rfl
theorem ce58 : Try.prog.cellsOf 58 = 1 := by kernel_rfl
theorem ag58 : isAggA Try.prog 58 = some false := by kernel_rfl
theorem ze58 : zeroA Try.prog 58 = some (.nilf) := by kernel_rfl
theorem in58 : (Try.prog.info? 58).map (fun i => (i.size, i.bytes)) = some (1, 8) := by kernel_rfl
theorem sz59 : sizeA Try.prog 59 = some 1 := by kernel_rfl
theorem ce59 : Try.prog.cellsOf 59 = 1 := by kernel_rfl
theorem ag59 : isAggA Try.prog 59 = some false := by kernel_rfl
theorem ze59 : zeroA Try.prog 59 = some (.nilf) := by kernel_rfl
theorem in59 : (Try.prog.info? 59).map (fun i => (i.size, i.bytes)) = some (1, 8) := by kernel_rfl
theorem sz60 : sizeA Try.prog 60 = some 1 := by kernel_rfl
theorem ce60 : Try.prog.cellsOf 60 = 1 := by kernel_rfl
theorem ag60 : isAggA Try.prog 60 = some false := by kernel_rfl
theorem ze60 : zeroA Try.prog 60 = some (.nilf) := by kernel_rfl
theorem in60 : (Try.prog.info? 60).map (fun i => (i.size, i.bytes)) = some (1, 8) := by kernel_rfl
theorem sz61 : sizeA Try.prog 61 = some 1 := by kernel_rfl
theorem ce61 : Try.prog.cellsOf 61 = 1 := by kernel_rfl
theorem ag61 : isAggA Try.prog 61 = some false := by kernel_rfl
theorem ze61 : zeroA Try.prog 61 = some (.nilf) := by kernel_rfl
theorem in61 : (Try.prog.info? 61).map (fun i => (i.size, i.bytes)) = some (1, 8) := by kernel_rfl
theorem sz62 : sizeA Try.prog 62 = some 1 := by kernel_rfl
theorem ce62 : Try.prog.cellsOf 62 = 1 := by kernel_rfl
theorem ag62 : isAggA Try.prog 62 = some false := by kernel_rfl
theorem ze62 : zeroA Try.prog 62 = some (.nilf) := by kernel_rfl
theorem in62 : (Try.prog.info? 62).map (fun i => (i.size, i.bytes)) = some (1, 8) := by kernel_rfl
theorem sz63 : sizeA Try.prog 63 = some 1 := by kernel_rfl
theorem ce63 : Try.prog.cellsOf 63 = 1 := by kernel_rfl
theorem ag63 : isAggA Try.prog 63 = some false := by kernel_rfl
theorem ze63 : zeroA Try.prog 63 = some (.nilf) := by kernel_rfl
theorem in63 : (Try.prog.info? 63).map (fun i => (i.size, i.bytes)) = some (1, 8) := by kernel_rfl
theorem sz64 : sizeA Try.prog 64 = some 1 := by kernel_rfl
theorem ce64 : Try.prog.cellsOf 64 = 1 := by kernel_rfl
theorem ag64 : isAggA Try.prog 64 = some false := by kernel_rfl
theorem ze64 : zeroA Try.prog 64 = some (.nilf) := by kernel_rfl
theorem in64 : (Try.prog.info? 64).map (fun i => (i.size, i.bytes)) = some (1, 8) := by kernel_rfl
theorem sz65 : sizeA Try.prog 65 = some 1 := by kernel_rfl
theorem ce65 : Try.prog.cellsOf 65 = 1 := by kernel_rfl
theorem ag65 : isAggA Try.prog 65 = some false := by kernel_rfl
theorem ze65 : zeroA Try.prog 65 = some (.rsl none 0 0 []) := by kernel_rfl
theorem in65 : (Try.prog.info? 65).map (fun i => (i.size, i.bytes)) = some (1, 24) := by kernel_rfl
theorem sz66 : sizeA Try.prog 66 = some 1 := by kernel_rfl
theorem ce66 : Try.prog.cellsOf 66 = 1 := by kernel_rfl
theorem ag66 : isAggA Try.prog 66 = some false := by kernel_rfl
theorem ze66 : zeroA Try.prog 66 = some (.nilf) := by kernel_rfl
theorem in66 : (Try.prog.info? 66).map (fun i => (i.size, i.bytes)) = some (1, 8) := by kernel_rfl
theorem sz67 : sizeA Try.prog 67 = some 1 := by kernel_rfl
theorem ce67 : Try.prog.cellsOf 67 = 1 := by kernel_rfl
theorem ag67 : isAggA Try.prog 67 = some false := by kernel_rfl
theorem ze67 : zeroA Try.prog 67 = some (.nilf) := by kernel_rfl
theorem in67 : (Try.prog.info? 67).map (fun i => (i.size, i.bytes)) = some (1, 8) := by kernel_rfl
theorem sz68 : sizeA Try.prog 68 = some 1 := by kernel_rfl
theorem ce68 : Try.prog.cellsOf 68 = 1 := by kernel_rfl
theorem ag68 : isAggA Try.prog 68 = some false := by kernel_rfl
theorem ze68 : zeroA Try.prog 68 = some (.nilf) := by kernel_rfl
theorem in68 : (Try.prog.info? 68).map (fun i => (i.size, i.bytes)) = some (1, 8) := by kernel_rfl
theorem sz69 : sizeA Try.prog 69 = some 1 := by kernel_rfl
theorem ce69 : Try.prog.cellsOf 69 = 1 := by kernel_rfl
theorem ag69 : isAggA Try.prog 69 = some false := by kernel_rfl
theorem ze69 : zeroA Try.prog 69 = some (.nilf) := by kernel_rfl
theorem in69 : (Try.prog.info? 69).map (fun i => (i.size, i.bytes)) = some (1, 8) := by kernel_rfl
theorem sz70 : sizeA Try.prog 70 = some 1 := by kernel_rfl
theorem ce70 : Try.prog.cellsOf 70 = 1 := by kernel_rfl
theorem ag70 : isAggA Try.prog 70 = some false := by kernel_rfl
theorem ze70 : zeroA Try.prog 70 = some (.nilf) := by kernel_rfl
theorem in70 : (Try.prog.info? 70).map (fun i => (i.size, i.bytes)) = some (1, 8) := by kernel_rfl
theorem sz71 : sizeA Try.prog 71 = some 1 := by kernel_rfl
theorem ce71 : Try.prog.cellsOf 71 = 1 := by kernel_rfl
theorem ag71 : isAggA Try.prog 71 = some false := by kernel_rfl
theorem ze71 : zeroA Try.prog 71 = some (.nilf) := by kernel_rfl
theorem in71 : (Try.prog.info? 71).map (fun i => (i.size, i.bytes)) = some (1, 8) := by kernel_rfl
theorem sz72 : sizeA Try.prog 72 = some 1 := by kernel_rfl
theorem ce72 : Try.prog.cellsOf 72 = 1 := by kernel_rfl
theorem ag72 : isAggA Try.prog 72 = some false := by kernel_rfl
theorem ze72 : zeroA Try.prog 72 = some (.nilf) := by kernel_rfl
theorem in72 : (Try.prog.info? 72).map (fun i => (i.size, i.bytes)) = some (1, 8) := by kernel_rfl
theorem sz73 : sizeA Try.prog 73 = some 4 := by kernel_rfl
theorem ce73 : Try.prog.cellsOf 73 = 4 := by kernel_rfl
theorem ag73 : isAggA Try.prog 73 = some true := by kernel_rfl
theorem ze73 : zeroA Try.prog 73 = some (.agg [.nilp, .nilp, .nilp, .str ByteArray.empty]) := by kernel_rfl
theorem in73 : (Try.prog.info? 73).map (fun i => (i.size, i.bytes)) = some (4, 40) := by kernel_rfl
theorem sz74 : sizeA Try.prog 74 = some 4 := by kernel_rfl
theorem ce74 : Try.prog.cellsOf 74 = 4 := by kernel_rfl
theorem ag74 : isAggA Try.prog 74 = some true := by kernel_rfl
theorem ze74 : zeroA Try.prog 74 = some (.agg [.nilp, .nilp, .nilp, .str ByteArray.empty]) := by kernel_rfl
theorem in74 : (Try.prog.info? 74).map (fun i => (i.size, i.bytes)) = some (4, 40) := by kernel_rfl
theorem sz75 : sizeA Try.prog 75 = some 0 := by kernel_rfl
theorem ce75 : Try.prog.cellsOf 75 = 0 := by kernel_rfl
theorem ag75 : isAggA Try.prog 75 = some true := by kernel_rfl
theorem ze75 : zeroA Try.prog 75 = some (.agg []) := by kernel_rfl
theorem in75 : (Try.prog.info? 75).map (fun i => (i.size, i.bytes)) = some (0, 0) := by kernel_rfl
theorem sz76 : sizeA Try.prog 76 = some 0 := by kernel_rfl
theorem ce76 : Try.prog.cellsOf 76 = 0 := by kernel_rfl
theorem ag76 : isAggA Try.prog 76 = some true := by kernel_rfl
theorem ze76 : zeroA Try.prog 76 = some (.agg []) := by kernel_rfl
theorem in76 : (Try.prog.info? 76).map (fun i => (i.size, i.bytes)) = some (0, 0) := by kernel_rfl
theorem sz77 : sizeA Try.prog 77 = some 0 := by kernel_rfl
theorem ce77 : Try.prog.cellsOf 77 = 0 := by kernel_rfl
theorem ag77 : isAggA Try.prog 77 = some true := by kernel_rfl
theorem ze77 : zeroA Try.prog 77 = some (.agg []) := by kernel_rfl
theorem in77 : (Try.prog.info? 77).map (fun i => (i.size, i.bytes)) = some (0, 0) := by kernel_rfl
theorem sz78 : sizeA Try.prog 78 = some 1 := by kernel_rfl
theorem ce78 : Try.prog.cellsOf 78 = 1 := by kernel_rfl
theorem ag78 : isAggA Try.prog 78 = some false := by kernel_rfl
theorem ze78 : zeroA Try.prog 78 = some (.nilf) := by kernel_rfl
theorem in78 : (Try.prog.info? 78).map (fun i => (i.size, i.bytes)) = some (1, 8) := by kernel_rfl
theorem sz79 : sizeA Try.prog 79 = some 1 := by kernel_rfl
theorem ce79 : Try.prog.cellsOf 79 = 1 := by kernel_rfl
theorem ag79 : isAggA Try.prog 79 = some false := by kernel_rfl
theorem ze79 : zeroA Try.prog 79 = some (.int .u32 0) := by kernel_rfl
theorem in79 : (Try.prog.info? 79).map (fun i => (i.size, i.bytes)) = some (1, 4) := by kernel_rfl
theorem sz80 : sizeA Try.prog 80 = some 1 := by kernel_rfl
theorem ce80 : Try.prog.cellsOf 80 = 1 := by kernel_rfl
theorem ag80 : isAggA Try.prog 80 = some false := by kernel_rfl
theorem ze80 : zeroA Try.prog 80 = some (.int .u8 0) := by kernel_rfl
theorem in80 : (Try.prog.info? 80).map (fun i => (i.size, i.bytes)) = some (1, 1) := by kernel_rfl
theorem sz81 : sizeA Try.prog 81 = some 1 := by kernel_rfl
theorem ce81 : Try.prog.cellsOf 81 = 1 := by kernel_rfl
theorem ag81 : isAggA Try.prog 81 = some false := by kernel_rfl
theorem ze81 : zeroA Try.prog 81 = some (.int .u8 0) := by kernel_rfl
theorem in81 : (Try.prog.info? 81).map (fun i => (i.size, i.bytes)) = some (1, 1) := by kernel_rfl
theorem sz82 : sizeA Try.prog 82 = some 1 := by kernel_rfl
theorem ce82 : Try.prog.cellsOf 82 = 1 := by kernel_rfl
theorem ag82 : isAggA Try.prog 82 = some false := by kernel_rfl
theorem ze82 : zeroA Try.prog 82 = some (.nilf) := by kernel_rfl
theorem in82 : (Try.prog.info? 82).map (fun i => (i.size, i.bytes)) = some (1, 8) := by kernel_rfl
theorem sz83 : sizeA Try.prog 83 = some 1 := by kernel_rfl
theorem ce83 : Try.prog.cellsOf 83 = 1 := by kernel_rfl
theorem ag83 : isAggA Try.prog 83 = some false := by kernel_rfl
theorem ze83 : zeroA Try.prog 83 = some (.nilp) := by kernel_rfl
theorem in83 : (Try.prog.info? 83).map (fun i => (i.size, i.bytes)) = some (1, 8) := by kernel_rfl
theorem sz84 : sizeA Try.prog 84 = some 1 := by kernel_rfl
theorem ce84 : Try.prog.cellsOf 84 = 1 := by kernel_rfl
theorem ag84 : isAggA Try.prog 84 = some false := by kernel_rfl
theorem ze84 : zeroA Try.prog 84 = some (.int .i32 0) := by kernel_rfl
theorem in84 : (Try.prog.info? 84).map (fun i => (i.size, i.bytes)) = some (1, 4) := by kernel_rfl
theorem sz85 : sizeA Try.prog 85 = some 1 := by kernel_rfl
theorem ce85 : Try.prog.cellsOf 85 = 1 := by kernel_rfl
theorem ag85 : isAggA Try.prog 85 = some false := by kernel_rfl
theorem ze85 : zeroA Try.prog 85 = some (.int .i32 0) := by kernel_rfl
theorem in85 : (Try.prog.info? 85).map (fun i => (i.size, i.bytes)) = some (1, 4) := by kernel_rfl
theorem sz86 : sizeA Try.prog 86 = some 11 := by kernel_rfl
theorem ce86 : Try.prog.cellsOf 86 = 11 := by kernel_rfl
theorem ag86 : isAggA Try.prog 86 = some true := by kernel_rfl
theorem ze86 : zeroA Try.prog 86 = some (.agg [.int .u64 0, .int .u64 0, .int .u32 0, .int .u8 0, .int .u8 0, .int .u8 0, .int .u8 0, .nilf, .nilp, .int .i32 0, .int .i32 0]) := by kernel_rfl
theorem in86 : (Try.prog.info? 86).map (fun i => (i.size, i.bytes)) = some (11, 48) := by kernel_rfl
theorem sz87 : sizeA Try.prog 87 = some 11 := by kernel_rfl
theorem ce87 : Try.prog.cellsOf 87 = 11 := by kernel_rfl
theorem ag87 : isAggA Try.prog 87 = some true := by kernel_rfl
theorem ze87 : zeroA Try.prog 87 = some (.agg [.int .u64 0, .int .u64 0, .int .u32 0, .int .u8 0, .int .u8 0, .int .u8 0, .int .u8 0, .nilf, .nilp, .int .i32 0, .int .i32 0]) := by kernel_rfl
theorem in87 : (Try.prog.info? 87).map (fun i => (i.size, i.bytes)) = some (11, 48) := by kernel_rfl
theorem sz88 : sizeA Try.prog 88 = some 1 := by kernel_rfl
theorem ce88 : Try.prog.cellsOf 88 = 1 := by kernel_rfl
theorem ag88 : isAggA Try.prog 88 = some false := by kernel_rfl
theorem ze88 : zeroA Try.prog 88 = some (.nilp) := by kernel_rfl
theorem in88 : (Try.prog.info? 88).map (fun i => (i.size, i.bytes)) = some (1, 8) := by kernel_rfl
theorem dr4_14 : drawLen (regAt Try.f4 14) = some 10 := by kernel_rfl
theorem dr12_7 : drawLen (regAt Try.f12 7) = some 7 := by kernel_rfl
theorem dr14_6 : drawLen (regAt Try.f14 6) = some 6 := by kernel_rfl
theorem dr20_6 : drawLen (regAt Try.f20 6) = some 7 := by kernel_rfl
theorem dr22_4 : drawLen (regAt Try.f22 4) = some 8 := by kernel_rfl
theorem dr22_10 : drawLen (regAt Try.f22 10) = some 11 := by kernel_rfl
theorem dr24_9 : drawLen (regAt Try.f24 9) = some 11 := by kernel_rfl
theorem dr26_11 : drawLen (regAt Try.f26 11) = some 5 := by kernel_rfl
theorem dr27_8 : drawLen (regAt Try.f27 8) = some 21 := by kernel_rfl
theorem dr27_13 : drawLen (regAt Try.f27 13) = some 34 := by kernel_rfl
end Go.Proofs.Ytlbkcdfllglddaa.fmt
/-! The functions below the Format laws, 0: the interpreter's runs of the small ones. Conditions: none. -/
namespace Go.Proofs.Ytlbkcdfllglddaa.fmt
open Go Go.Ab
set_option maxRecDepth 100000
set_option linter.unusedSimpArgs false
set_option linter.unusedVariables false
instance : Env := noEnv
theorem nosumm (f : FuncId) (args : List AV) : Env.summ f args = none := rfl
attribute [local simp] ox ou ko ky kn kd oy_seq oy_ret oy_exit oy_skip oy_cond oy_block oy_region oy_draw dr_eq dre_some stl_some st_nil st_op ot ov os_same sy_nil sy_op nxt_normal nxt_ret nxt_exit blk_exit blk_normal blk_ret reg_some cnd_true cnd_false opr_some grd_true grd_false fin_ret fin_normal finv_some Region.wanted opA callV aop evalL evalO putE binA bi_add bi_sub bi_mul bi_eql bi_neq bi_lss bi_leq bi_gtr bi_geq unA ofVal ofLeaf resultsA tupA AV.rfL AV.rf yielded_yv yv_bool yv_undef yv_none og_n List.replicate Option.bind heapFree onlyReads
theorem wide_run (x : Int) (lo : Nat) (H : Heap) : callA Try.prog (om Try.prog) lo 45 [.int .i64 x] H = some (.bool (decide (1 ≤ x) && decide (x ≤ 64)), H) := by
  rw [call_eq Try.func45 rfl rfl]
  simp -implicitDefEqProofs only [Try.f45]
  by_cases h1 : 1 ≤ x <;> by_cases h2 : x ≤ 64 <;> simp -implicitDefEqProofs [h1, h2]
theorem in_run (x a b : Int) (lo : Nat) (H : Heap) : callA Try.prog (om Try.prog) lo 43 [.int .i64 x, .int .i64 a, .int .i64 b] H = some (.bool (decide (a ≤ x) && decide (x ≤ b)), H) := by
  rw [call_eq Try.func43 rfl rfl]
  simp -implicitDefEqProofs only [Try.f43]
  by_cases h1 : a ≤ x <;> by_cases h2 : x ≤ b <;> simp -implicitDefEqProofs [h1, h2]
theorem two_pow_lt {n m : Nat} (h : n < m) : 2 ^ n < 2 ^ m := Nat.pow_lt_pow_right (by decide) h
theorem two_pow_le {n m : Nat} (h : n ≤ m) : 2 ^ n ≤ 2 ^ m := Nat.pow_le_pow_right (by decide) h
theorem dbl (i : Nat) : (2 : Int) * ((2 ^ i : Nat) : Int) = ((2 ^ (i + 1) : Nat) : Int) := by rw [Nat.pow_succ]; push_cast; omega
theorem power_loop (cx : Ctx) (lo : Nat) (H : Heap) (n : Nat) (hn : n ≤ 62) : ∀ (m i : Nat) (x1 x2 x5 x6 x7 x8 x9 x10 x11 x12 : AV), i + m = n →
    ∃ y1 y2 y5 y6 y7 y8 y9 y10 y11 y12, om Try.prog cx lo (loopAt Try.f32 0) ⟨[.int .i64 n, x1, x2, .int .i64 ((2 ^ i : Nat) : Int), .int .i64 i, x5, x6, x7, x8, x9, x10, x11, x12], [], H⟩ =
      some (.exit 0, ⟨[.int .i64 n, y1, y2, .int .i64 ((2 ^ n : Nat) : Int), .int .i64 n, y5, y6, y7, y8, y9, y10, y11, y12], [], H⟩) := by
  simp -implicitDefEqProofs only [loopAt, loopIn, firstC, Try.f32, Option.getD, if_true]
  intro m
  induction m with
  | zero =>
    intro i x1 x2 x5 x6 x7 x8 x9 x10 x11 x12 hi
    obtain rfl : i = n := by omega
    rw [oy_loop]
    simp -implicitDefEqProofs
  | succ m ih =>
    intro i x1 x2 x5 x6 x7 x8 x9 x10 x11 x12 hi
    have e1 : (i : Int) < n := by omega
    have w1 : IntKind.i64.wrap ((i : Int) + 1) = ((i + 1 : Nat) : Int) := by rw [wi64 (by omega) (by omega)]; push_cast; rfl
    have hp := two_pow_lt (show i + 1 < 63 by omega)
    have w2 : IntKind.i64.wrap (2 * ((2 ^ i : Nat) : Int)) = ((2 ^ (i + 1) : Nat) : Int) := by rw [dbl, wi64_nat hp]
    rw [oy_loop]
    simp -implicitDefEqProofs only [ox, ou, ko, ky, kn, kd, oy_seq, oy_ret, oy_exit, oy_skip, oy_cond, oy_block, oy_region, oy_draw, dr_eq, dre_some, stl_some, st_nil, st_op, ot, ov, os_same, sy_nil, sy_op, nxt_normal, nxt_ret, nxt_exit, blk_exit, blk_normal, blk_ret, reg_some, cnd_true, cnd_false, opr_some, grd_true, grd_false, fin_ret, fin_normal, finv_some, Region.wanted, opA, callV, aop, evalL, evalO, putE, binA, bi_add, bi_sub, bi_mul, bi_eql, bi_neq, bi_lss, bi_leq, bi_gtr, bi_geq, unA, ofVal, ofLeaf, resultsA, tupA, AV.rfL, AV.rf, yielded_yv, yv_bool, yv_undef, yv_none, og_n, List.replicate, Option.bind, heapFree, onlyReads, List.set, List.getD, List.getElem?_cons_succ, List.getElem?_cons_zero, Option.getD, Option.map, decide_true, decide_false, if_true, if_false, Bool.false_eq_true, Bool.not_true, Bool.not_false, beq_self_eq_true, Bool.true_and, Bool.and_true, Bool.and_self, Bool.false_and, Bool.and_false, Bool.true_or, Bool.or_true, Bool.false_or, Bool.or_false, Bool.or_self, List.length_cons, List.length_nil, List.cons_append, List.nil_append, ite_self, List.getElem?_toArray, Option.bind_some, Option.bind_none, og_tt, og_ff, og_tf, og_ft, Int.reduceBNe, Int.reduceBEq, Int.reduceLT, Int.reduceLE, e1, w1, w2]
    exact ih (i + 1) _ _ _ _ _ _ _ _ _ _ (by omega)
end Go.Proofs.Ytlbkcdfllglddaa.fmt
/-! The functions below the Format laws, 1: runs of the small ones, with loops. Conditions: none. -/
namespace Go.Proofs.Ytlbkcdfllglddaa.fmt
open Go Go.Ab
set_option maxRecDepth 100000
set_option linter.unusedSimpArgs false
set_option linter.unusedVariables false
attribute [local simp] ox ou ko ky kn kd oy_seq oy_ret oy_exit oy_skip oy_cond oy_block oy_region oy_draw dr_eq dre_some stl_some st_nil st_op ot ov os_same sy_nil sy_op nxt_normal nxt_ret nxt_exit blk_exit blk_normal blk_ret reg_some cnd_true cnd_false opr_some grd_true grd_false fin_ret fin_normal finv_some Region.wanted opA callV aop evalL evalO putE binA bi_add bi_sub bi_mul bi_eql bi_neq bi_lss bi_leq bi_gtr bi_geq unA ofVal ofLeaf resultsA tupA AV.rfL AV.rf yielded_yv yv_bool yv_undef yv_none og_n List.replicate Option.bind heapFree onlyReads
theorem c0 : ((0 : Nat) : Int) = 0 := rfl
theorem c1 : ((1 : Nat) : Int) = 1 := rfl
theorem power_run (n : Nat) (hn : n ≤ 62) (lo : Nat) (H : Heap) : callA Try.prog (om Try.prog) lo 32 [.int .i64 n] H = some (.int .i64 ((2 ^ n : Nat) : Int), H) := by
  obtain ⟨y1, y2, y5, y6, y7, y8, y9, y10, y11, y12, h⟩ := power_loop ⟨32, none⟩ H.next H n hn n 0 undefA (.int .i64 0) undefA undefA undefA undefA undefA undefA undefA undefA (by omega)
  rw [call_eq Try.func32 rfl rfl]
  simp -implicitDefEqProofs only [loopAt, loopIn, firstC, Try.f32, Option.getD, if_true, Nat.pow_zero] at h ⊢
  simp -implicitDefEqProofs only [ox, ou, ko, ky, kn, kd, oy_seq, oy_ret, oy_exit, oy_skip, oy_cond, oy_block, oy_region, oy_draw, dr_eq, dre_some, stl_some, st_nil, st_op, ot, ov, os_same, sy_nil, sy_op, nxt_normal, nxt_ret, nxt_exit, blk_exit, blk_normal, blk_ret, reg_some, cnd_true, cnd_false, opr_some, grd_true, grd_false, fin_ret, fin_normal, finv_some, Region.wanted, opA, callV, aop, evalL, evalO, putE, binA, bi_add, bi_sub, bi_mul, bi_eql, bi_neq, bi_lss, bi_leq, bi_gtr, bi_geq, unA, ofVal, ofLeaf, resultsA, tupA, AV.rfL, AV.rf, yielded_yv, yv_bool, yv_undef, yv_none, og_n, List.replicate, Option.bind, heapFree, onlyReads, List.set, List.getD, List.getElem?_cons_succ, List.getElem?_cons_zero, Option.getD, Option.map, decide_true, decide_false, if_true, if_false, Bool.false_eq_true, Bool.not_true, Bool.not_false, beq_self_eq_true, Bool.true_and, Bool.and_true, Bool.and_self, Bool.false_and, Bool.and_false, Bool.true_or, Bool.or_true, Bool.false_or, Bool.or_false, Bool.or_self, List.length_cons, List.length_nil, List.cons_append, List.nil_append, ite_self, List.getElem?_toArray, Option.bind_some, Option.bind_none, og_tt, og_ff, og_tf, og_ft, Int.reduceBNe, Int.reduceBEq, Int.reduceLT, Int.reduceLE, List.length_cons, List.length_nil, List.cons_append, List.nil_append, Bool.true_and, c0, c1] at h ⊢
  simp -implicitDefEqProofs only [ox, ou, ko, ky, kn, kd, oy_seq, oy_ret, oy_exit, oy_skip, oy_cond, oy_block, oy_region, oy_draw, dr_eq, dre_some, stl_some, st_nil, st_op, ot, ov, os_same, sy_nil, sy_op, nxt_normal, nxt_ret, nxt_exit, blk_exit, blk_normal, blk_ret, reg_some, cnd_true, cnd_false, opr_some, grd_true, grd_false, fin_ret, fin_normal, finv_some, Region.wanted, opA, callV, aop, evalL, evalO, putE, binA, bi_add, bi_sub, bi_mul, bi_eql, bi_neq, bi_lss, bi_leq, bi_gtr, bi_geq, unA, ofVal, ofLeaf, resultsA, tupA, AV.rfL, AV.rf, yielded_yv, yv_bool, yv_undef, yv_none, og_n, List.replicate, Option.bind, heapFree, onlyReads, List.set, List.getD, List.getElem?_cons_succ, List.getElem?_cons_zero, Option.getD, Option.map, decide_true, decide_false, if_true, if_false, Bool.false_eq_true, Bool.not_true, Bool.not_false, beq_self_eq_true, Bool.true_and, Bool.and_true, Bool.and_self, Bool.false_and, Bool.and_false, Bool.true_or, Bool.or_true, Bool.false_or, Bool.or_false, Bool.or_self, List.length_cons, List.length_nil, List.cons_append, List.nil_append, ite_self, List.getElem?_toArray, Option.bind_some, Option.bind_none, og_tt, og_ff, og_tf, og_ft, Int.reduceBNe, Int.reduceBEq, Int.reduceLT, Int.reduceLE, h]
theorem value_loop (cx : Ctx) (lo : Nat) (H : Heap) (n : Nat) (hn : n ≤ 63) : ∀ (m i : Nat) (x1 x2 x5 x6 x7 x8 x9 x10 x11 x12 : AV), i + m = n →
    ∃ y1 y2 y5 y6 y7 y8 y9 y10 y11 y12, om Try.prog cx lo (loopAt Try.f40 0) ⟨[.int .i64 n, x1, x2, .int .u64 ((2 ^ i : Nat) : Int), .int .i64 i, x5, x6, x7, x8, x9, x10, x11, x12], [], H⟩ =
      some (.exit 0, ⟨[.int .i64 n, y1, y2, .int .u64 ((2 ^ n : Nat) : Int), .int .i64 n, y5, y6, y7, y8, y9, y10, y11, y12], [], H⟩) := by
  simp -implicitDefEqProofs only [loopAt, loopIn, firstC, Try.f40, Option.getD, if_true]
  intro m
  induction m with
  | zero =>
    intro i x1 x2 x5 x6 x7 x8 x9 x10 x11 x12 hi
    obtain rfl : i = n := by omega
    rw [oy_loop]
    simp -implicitDefEqProofs
  | succ m ih =>
    intro i x1 x2 x5 x6 x7 x8 x9 x10 x11 x12 hi
    have e1 : (i : Int) < n := by omega
    have w1 : IntKind.i64.wrap ((i : Int) + 1) = ((i + 1 : Nat) : Int) := by rw [wi64 (by omega) (by omega)]; push_cast; rfl
    have hp := two_pow_lt (show i + 1 < 64 by omega)
    have w2 : IntKind.u64.wrap (2 * ((2 ^ i : Nat) : Int)) = ((2 ^ (i + 1) : Nat) : Int) := by rw [dbl, wrap_u64_lt hp]
    rw [oy_loop]
    simp -implicitDefEqProofs only [ox, ou, ko, ky, kn, kd, oy_seq, oy_ret, oy_exit, oy_skip, oy_cond, oy_block, oy_region, oy_draw, dr_eq, dre_some, stl_some, st_nil, st_op, ot, ov, os_same, sy_nil, sy_op, nxt_normal, nxt_ret, nxt_exit, blk_exit, blk_normal, blk_ret, reg_some, cnd_true, cnd_false, opr_some, grd_true, grd_false, fin_ret, fin_normal, finv_some, Region.wanted, opA, callV, aop, evalL, evalO, putE, binA, bi_add, bi_sub, bi_mul, bi_eql, bi_neq, bi_lss, bi_leq, bi_gtr, bi_geq, unA, ofVal, ofLeaf, resultsA, tupA, AV.rfL, AV.rf, yielded_yv, yv_bool, yv_undef, yv_none, og_n, List.replicate, Option.bind, heapFree, onlyReads, List.set, List.getD, List.getElem?_cons_succ, List.getElem?_cons_zero, Option.getD, Option.map, decide_true, decide_false, if_true, if_false, Bool.false_eq_true, Bool.not_true, Bool.not_false, beq_self_eq_true, Bool.true_and, Bool.and_true, Bool.and_self, Bool.false_and, Bool.and_false, Bool.true_or, Bool.or_true, Bool.false_or, Bool.or_false, Bool.or_self, List.length_cons, List.length_nil, List.cons_append, List.nil_append, ite_self, List.getElem?_toArray, Option.bind_some, Option.bind_none, og_tt, og_ff, og_tf, og_ft, Int.reduceBNe, Int.reduceBEq, Int.reduceLT, Int.reduceLE, e1, w1, w2]
    exact ih (i + 1) _ _ _ _ _ _ _ _ _ _ (by omega)
theorem value_run (n : Nat) (hn : n ≤ 63) (lo : Nat) (H : Heap) : callA Try.prog (om Try.prog) lo 40 [.int .i64 n] H = some (.int .u64 ((2 ^ n : Nat) : Int), H) := by
  obtain ⟨y1, y2, y5, y6, y7, y8, y9, y10, y11, y12, h⟩ := value_loop ⟨40, none⟩ H.next H n hn n 0 undefA (.int .u64 0) undefA undefA undefA undefA undefA undefA undefA undefA (by omega)
  rw [call_eq Try.func40 rfl rfl]
  simp -implicitDefEqProofs only [loopAt, loopIn, firstC, Try.f40, Option.getD, if_true, Nat.pow_zero] at h ⊢
  simp -implicitDefEqProofs only [ox, ou, ko, ky, kn, kd, oy_seq, oy_ret, oy_exit, oy_skip, oy_cond, oy_block, oy_region, oy_draw, dr_eq, dre_some, stl_some, st_nil, st_op, ot, ov, os_same, sy_nil, sy_op, nxt_normal, nxt_ret, nxt_exit, blk_exit, blk_normal, blk_ret, reg_some, cnd_true, cnd_false, opr_some, grd_true, grd_false, fin_ret, fin_normal, finv_some, Region.wanted, opA, callV, aop, evalL, evalO, putE, binA, bi_add, bi_sub, bi_mul, bi_eql, bi_neq, bi_lss, bi_leq, bi_gtr, bi_geq, unA, ofVal, ofLeaf, resultsA, tupA, AV.rfL, AV.rf, yielded_yv, yv_bool, yv_undef, yv_none, og_n, List.replicate, Option.bind, heapFree, onlyReads, List.set, List.getD, List.getElem?_cons_succ, List.getElem?_cons_zero, Option.getD, Option.map, decide_true, decide_false, if_true, if_false, Bool.false_eq_true, Bool.not_true, Bool.not_false, beq_self_eq_true, Bool.true_and, Bool.and_true, Bool.and_self, Bool.false_and, Bool.and_false, Bool.true_or, Bool.or_true, Bool.false_or, Bool.or_false, Bool.or_self, List.length_cons, List.length_nil, List.cons_append, List.nil_append, ite_self, List.getElem?_toArray, Option.bind_some, Option.bind_none, og_tt, og_ff, og_tf, og_ft, Int.reduceBNe, Int.reduceBEq, Int.reduceLT, Int.reduceLE, List.length_cons, List.length_nil, List.cons_append, List.nil_append, Bool.true_and, c0, c1] at h ⊢
  simp -implicitDefEqProofs only [ox, ou, ko, ky, kn, kd, oy_seq, oy_ret, oy_exit, oy_skip, oy_cond, oy_block, oy_region, oy_draw, dr_eq, dre_some, stl_some, st_nil, st_op, ot, ov, os_same, sy_nil, sy_op, nxt_normal, nxt_ret, nxt_exit, blk_exit, blk_normal, blk_ret, reg_some, cnd_true, cnd_false, opr_some, grd_true, grd_false, fin_ret, fin_normal, finv_some, Region.wanted, opA, callV, aop, evalL, evalO, putE, binA, bi_add, bi_sub, bi_mul, bi_eql, bi_neq, bi_lss, bi_leq, bi_gtr, bi_geq, unA, ofVal, ofLeaf, resultsA, tupA, AV.rfL, AV.rf, yielded_yv, yv_bool, yv_undef, yv_none, og_n, List.replicate, Option.bind, heapFree, onlyReads, List.set, List.getD, List.getElem?_cons_succ, List.getElem?_cons_zero, Option.getD, Option.map, decide_true, decide_false, if_true, if_false, Bool.false_eq_true, Bool.not_true, Bool.not_false, beq_self_eq_true, Bool.true_and, Bool.and_true, Bool.and_self, Bool.false_and, Bool.and_false, Bool.true_or, Bool.or_true, Bool.false_or, Bool.or_false, Bool.or_self, List.length_cons, List.length_nil, List.cons_append, List.nil_append, ite_self, List.getElem?_toArray, Option.bind_some, Option.bind_none, og_tt, og_ff, og_tf, og_ft, Int.reduceBNe, Int.reduceBEq, Int.reduceLT, Int.reduceLE, h]
theorem half (x i : Nat) : ((x / 2 ^ i : Nat) : Int).tdiv 2 = ((x / 2 ^ (i + 1) : Nat) : Int) := by
  rw [Nat.pow_succ, ← Nat.div_div_eq_div_mul]
  rw [Int.tdiv_eq_ediv_of_nonneg (Int.natCast_nonneg _)]; rfl
theorem bit_loop (cx : Ctx) (lo : Nat) (H : Heap) (x n : Nat) (hx : x < 2 ^ 64) (hn : n ≤ 100) : ∀ (m i : Nat) (x2 x3 x4 x6 x7 x8 x9 x10 x11 x12 x13 x14 x15 : AV), i + m = n →
    ∃ y2 y3 y4 y6 y7 y8 y9 y10 y11 y12 y13 y14 y15, om Try.prog cx lo (loopAt Try.f42 0) ⟨[.int .u64 ((x / 2 ^ i : Nat) : Int), .int .i64 n, x2, x3, x4, .int .i64 i, x6, x7, x8, x9, x10, x11, x12, x13, x14, x15], [], H⟩ =
      some (.exit 0, ⟨[.int .u64 ((x / 2 ^ n : Nat) : Int), .int .i64 n, y2, y3, y4, .int .i64 n, y6, y7, y8, y9, y10, y11, y12, y13, y14, y15], [], H⟩) := by
  simp -implicitDefEqProofs only [loopAt, loopIn, firstC, Try.f42, Option.getD, if_true]
  intro m
  induction m with
  | zero =>
    intro i x2 x3 x4 x6 x7 x8 x9 x10 x11 x12 x13 x14 x15 hi
    obtain rfl : i = n := by omega
    rw [oy_loop]
    simp -implicitDefEqProofs
  | succ m ih =>
    intro i x2 x3 x4 x6 x7 x8 x9 x10 x11 x12 x13 x14 x15 hi
    have e1 : (i : Int) < n := by omega
    have w1 : IntKind.i64.wrap ((i : Int) + 1) = ((i + 1 : Nat) : Int) := by rw [wi64 (by omega) (by omega)]; push_cast; rfl
    have w2 : IntKind.u64.wrap (((x / 2 ^ i : Nat) : Int).tdiv 2) = ((x / 2 ^ (i + 1) : Nat) : Int) := by
      rw [half, wrap_u64_lt (Nat.lt_of_le_of_lt (Nat.div_le_self _ _) hx)]
    have q : binIntA .quo .u64 ((x / 2 ^ i : Nat) : Int) 2 = some (.int .u64 (IntKind.u64.wrap (((x / 2 ^ i : Nat) : Int).tdiv 2))) := bi_quo (by decide)
    rw [oy_loop]
    simp -implicitDefEqProofs only [ox, ou, ko, ky, kn, kd, oy_seq, oy_ret, oy_exit, oy_skip, oy_cond, oy_block, oy_region, oy_draw, dr_eq, dre_some, stl_some, st_nil, st_op, ot, ov, os_same, sy_nil, sy_op, nxt_normal, nxt_ret, nxt_exit, blk_exit, blk_normal, blk_ret, reg_some, cnd_true, cnd_false, opr_some, grd_true, grd_false, fin_ret, fin_normal, finv_some, Region.wanted, opA, callV, aop, evalL, evalO, putE, binA, bi_add, bi_sub, bi_mul, bi_eql, bi_neq, bi_lss, bi_leq, bi_gtr, bi_geq, unA, ofVal, ofLeaf, resultsA, tupA, AV.rfL, AV.rf, yielded_yv, yv_bool, yv_undef, yv_none, og_n, List.replicate, Option.bind, heapFree, onlyReads, List.set, List.getD, List.getElem?_cons_succ, List.getElem?_cons_zero, Option.getD, Option.map, decide_true, decide_false, if_true, if_false, Bool.false_eq_true, Bool.not_true, Bool.not_false, beq_self_eq_true, Bool.true_and, Bool.and_true, Bool.and_self, Bool.false_and, Bool.and_false, Bool.true_or, Bool.or_true, Bool.false_or, Bool.or_false, Bool.or_self, List.length_cons, List.length_nil, List.cons_append, List.nil_append, ite_self, List.getElem?_toArray, Option.bind_some, Option.bind_none, og_tt, og_ff, og_tf, og_ft, Int.reduceBNe, Int.reduceBEq, Int.reduceLT, Int.reduceLE, e1, w1, w2, q]
    exact ih (i + 1) _ _ _ _ _ _ _ _ _ _ _ _ _ (by omega)
theorem below_loop (cx : Ctx) (lo : Nat) (H : Heap) (x n : Nat) (hx : x < 2 ^ 64) (hn : n ≤ 1000) : ∀ (m i : Nat) (x2 x3 x4 x6 x7 x8 x9 x10 x11 x12 x13 x14 : AV), i + m = n →
    ∃ y2 y3 y4 y6 y7 y8 y9 y10 y11 y12 y13 y14, om Try.prog cx lo (loopAt Try.f46 0) ⟨[.int .u64 ((x / 2 ^ i : Nat) : Int), .int .i64 n, x2, x3, x4, .int .i64 i, x6, x7, x8, x9, x10, x11, x12, x13, x14], [], H⟩ =
      some (.exit 0, ⟨[.int .u64 ((x / 2 ^ n : Nat) : Int), .int .i64 n, y2, y3, y4, .int .i64 n, y6, y7, y8, y9, y10, y11, y12, y13, y14], [], H⟩) := by
  simp -implicitDefEqProofs only [loopAt, loopIn, firstC, Try.f46, Option.getD, if_true]
  intro m
  induction m with
  | zero =>
    intro i x2 x3 x4 x6 x7 x8 x9 x10 x11 x12 x13 x14 hi
    obtain rfl : i = n := by omega
    rw [oy_loop]
    simp -implicitDefEqProofs
  | succ m ih =>
    intro i x2 x3 x4 x6 x7 x8 x9 x10 x11 x12 x13 x14 hi
    have e1 : (i : Int) < n := by omega
    have w1 : IntKind.i64.wrap ((i : Int) + 1) = ((i + 1 : Nat) : Int) := by rw [wi64 (by omega) (by omega)]; push_cast; rfl
    have w2 : IntKind.u64.wrap (((x / 2 ^ i : Nat) : Int).tdiv 2) = ((x / 2 ^ (i + 1) : Nat) : Int) := by
      rw [half, wrap_u64_lt (Nat.lt_of_le_of_lt (Nat.div_le_self _ _) hx)]
    have q : binIntA .quo .u64 ((x / 2 ^ i : Nat) : Int) 2 = some (.int .u64 (IntKind.u64.wrap (((x / 2 ^ i : Nat) : Int).tdiv 2))) := bi_quo (by decide)
    rw [oy_loop]
    simp -implicitDefEqProofs only [ox, ou, ko, ky, kn, kd, oy_seq, oy_ret, oy_exit, oy_skip, oy_cond, oy_block, oy_region, oy_draw, dr_eq, dre_some, stl_some, st_nil, st_op, ot, ov, os_same, sy_nil, sy_op, nxt_normal, nxt_ret, nxt_exit, blk_exit, blk_normal, blk_ret, reg_some, cnd_true, cnd_false, opr_some, grd_true, grd_false, fin_ret, fin_normal, finv_some, Region.wanted, opA, callV, aop, evalL, evalO, putE, binA, bi_add, bi_sub, bi_mul, bi_eql, bi_neq, bi_lss, bi_leq, bi_gtr, bi_geq, unA, ofVal, ofLeaf, resultsA, tupA, AV.rfL, AV.rf, yielded_yv, yv_bool, yv_undef, yv_none, og_n, List.replicate, Option.bind, heapFree, onlyReads, List.set, List.getD, List.getElem?_cons_succ, List.getElem?_cons_zero, Option.getD, Option.map, decide_true, decide_false, if_true, if_false, Bool.false_eq_true, Bool.not_true, Bool.not_false, beq_self_eq_true, Bool.true_and, Bool.and_true, Bool.and_self, Bool.false_and, Bool.and_false, Bool.true_or, Bool.or_true, Bool.false_or, Bool.or_false, Bool.or_self, List.length_cons, List.length_nil, List.cons_append, List.nil_append, ite_self, List.getElem?_toArray, Option.bind_some, Option.bind_none, og_tt, og_ff, og_tf, og_ft, Int.reduceBNe, Int.reduceBEq, Int.reduceLT, Int.reduceLE, e1, w1, w2, q]
    exact ih (i + 1) _ _ _ _ _ _ _ _ _ _ _ _ (by omega)
theorem below_run (x n : Nat) (hx : x < 2 ^ 64) (hn : n ≤ 1000) (lo : Nat) (H : Heap) : callA Try.prog (om Try.prog) lo 46 [.int .u64 x, .int .i64 n] H = some (.bool (decide (x < 2 ^ n)), H) := by
  obtain ⟨y2, y3, y4, y6, y7, y8, y9, y10, y11, y12, y13, y14, h⟩ := below_loop ⟨46, none⟩ H.next H x n hx hn n 0 undefA undefA (.bool false) undefA undefA undefA undefA undefA undefA undefA undefA undefA (by omega)
  rw [call_eq Try.func46 rfl rfl]
  have e : (((x / 2 ^ n : Nat) : Int) == 0) = decide (x < 2 ^ n) := by
    have := Nat.div_eq_zero_iff (a := x) (b := 2 ^ n)
    have h2 : 2 ^ n ≠ 0 := by have := Nat.two_pow_pos n; omega
    rw [Bool.eq_iff_iff]
    simp only [beq_iff_eq, decide_eq_true_eq]
    omega
  simp -implicitDefEqProofs only [loopAt, loopIn, firstC, Try.f46, Option.getD, if_true, Nat.pow_zero, Nat.div_one] at h ⊢
  simp -implicitDefEqProofs only [ox, ou, ko, ky, kn, kd, oy_seq, oy_ret, oy_exit, oy_skip, oy_cond, oy_block, oy_region, oy_draw, dr_eq, dre_some, stl_some, st_nil, st_op, ot, ov, os_same, sy_nil, sy_op, nxt_normal, nxt_ret, nxt_exit, blk_exit, blk_normal, blk_ret, reg_some, cnd_true, cnd_false, opr_some, grd_true, grd_false, fin_ret, fin_normal, finv_some, Region.wanted, opA, callV, aop, evalL, evalO, putE, binA, bi_add, bi_sub, bi_mul, bi_eql, bi_neq, bi_lss, bi_leq, bi_gtr, bi_geq, unA, ofVal, ofLeaf, resultsA, tupA, AV.rfL, AV.rf, yielded_yv, yv_bool, yv_undef, yv_none, og_n, List.replicate, Option.bind, heapFree, onlyReads, List.set, List.getD, List.getElem?_cons_succ, List.getElem?_cons_zero, Option.getD, Option.map, decide_true, decide_false, if_true, if_false, Bool.false_eq_true, Bool.not_true, Bool.not_false, beq_self_eq_true, Bool.true_and, Bool.and_true, Bool.and_self, Bool.false_and, Bool.and_false, Bool.true_or, Bool.or_true, Bool.false_or, Bool.or_false, Bool.or_self, List.length_cons, List.length_nil, List.cons_append, List.nil_append, ite_self, List.getElem?_toArray, Option.bind_some, Option.bind_none, og_tt, og_ff, og_tf, og_ft, Int.reduceBNe, Int.reduceBEq, Int.reduceLT, Int.reduceLE, List.length_cons, List.length_nil, List.cons_append, List.nil_append, Bool.true_and, c0, c1] at h ⊢
  simp -implicitDefEqProofs only [ox, ou, ko, ky, kn, kd, oy_seq, oy_ret, oy_exit, oy_skip, oy_cond, oy_block, oy_region, oy_draw, dr_eq, dre_some, stl_some, st_nil, st_op, ot, ov, os_same, sy_nil, sy_op, nxt_normal, nxt_ret, nxt_exit, blk_exit, blk_normal, blk_ret, reg_some, cnd_true, cnd_false, opr_some, grd_true, grd_false, fin_ret, fin_normal, finv_some, Region.wanted, opA, callV, aop, evalL, evalO, putE, binA, bi_add, bi_sub, bi_mul, bi_eql, bi_neq, bi_lss, bi_leq, bi_gtr, bi_geq, unA, ofVal, ofLeaf, resultsA, tupA, AV.rfL, AV.rf, yielded_yv, yv_bool, yv_undef, yv_none, og_n, List.replicate, Option.bind, heapFree, onlyReads, List.set, List.getD, List.getElem?_cons_succ, List.getElem?_cons_zero, Option.getD, Option.map, decide_true, decide_false, if_true, if_false, Bool.false_eq_true, Bool.not_true, Bool.not_false, beq_self_eq_true, Bool.true_and, Bool.and_true, Bool.and_self, Bool.false_and, Bool.and_false, Bool.true_or, Bool.or_true, Bool.false_or, Bool.or_false, Bool.or_self, List.length_cons, List.length_nil, List.cons_append, List.nil_append, ite_self, List.getElem?_toArray, Option.bind_some, Option.bind_none, og_tt, og_ff, og_tf, og_ft, Int.reduceBNe, Int.reduceBEq, Int.reduceLT, Int.reduceLE, h, e]
theorem bit_run (x n : Nat) (hx : x < 2 ^ 64) (hn : n ≤ 100) (lo : Nat) (H : Heap) : callA Try.prog (om Try.prog) lo 42 [.int .u64 x, .int .i64 n] H = some (.int .i64 ((x / 2 ^ n % 2 : Nat) : Int), H) := by
  obtain ⟨y2, y3, y4, y6, y7, y8, y9, y10, y11, y12, y13, y14, y15, h⟩ := bit_loop ⟨42, none⟩ H.next H x n hx hn n 0 undefA undefA (.int .i64 0) undefA undefA undefA undefA undefA undefA undefA undefA undefA undefA (by omega)
  rw [call_eq Try.func42 rfl rfl]
  have q : binIntA .rem .u64 ((x / 2 ^ n : Nat) : Int) 2 = some (.int .u64 ((x / 2 ^ n % 2 : Nat) : Int)) := by
    rw [bi_rem (by decide), Int.tmod_eq_emod_of_nonneg (Int.natCast_nonneg _)]; rfl
  have w : IntKind.i64.wrap ((x / 2 ^ n % 2 : Nat) : Int) = ((x / 2 ^ n % 2 : Nat) : Int) := wi64_nat (Nat.lt_of_lt_of_le (Nat.mod_lt _ (by decide)) (by decide))
  simp -implicitDefEqProofs only [loopAt, loopIn, firstC, Try.f42, Option.getD, if_true, Nat.pow_zero, Nat.div_one] at h ⊢
  simp -implicitDefEqProofs only [ox, ou, ko, ky, kn, kd, oy_seq, oy_ret, oy_exit, oy_skip, oy_cond, oy_block, oy_region, oy_draw, dr_eq, dre_some, stl_some, st_nil, st_op, ot, ov, os_same, sy_nil, sy_op, nxt_normal, nxt_ret, nxt_exit, blk_exit, blk_normal, blk_ret, reg_some, cnd_true, cnd_false, opr_some, grd_true, grd_false, fin_ret, fin_normal, finv_some, Region.wanted, opA, callV, aop, evalL, evalO, putE, binA, bi_add, bi_sub, bi_mul, bi_eql, bi_neq, bi_lss, bi_leq, bi_gtr, bi_geq, unA, ofVal, ofLeaf, resultsA, tupA, AV.rfL, AV.rf, yielded_yv, yv_bool, yv_undef, yv_none, og_n, List.replicate, Option.bind, heapFree, onlyReads, List.set, List.getD, List.getElem?_cons_succ, List.getElem?_cons_zero, Option.getD, Option.map, decide_true, decide_false, if_true, if_false, Bool.false_eq_true, Bool.not_true, Bool.not_false, beq_self_eq_true, Bool.true_and, Bool.and_true, Bool.and_self, Bool.false_and, Bool.and_false, Bool.true_or, Bool.or_true, Bool.false_or, Bool.or_false, Bool.or_self, List.length_cons, List.length_nil, List.cons_append, List.nil_append, ite_self, List.getElem?_toArray, Option.bind_some, Option.bind_none, og_tt, og_ff, og_tf, og_ft, Int.reduceBNe, Int.reduceBEq, Int.reduceLT, Int.reduceLE, List.length_cons, List.length_nil, List.cons_append, List.nil_append, Bool.true_and, c0, c1] at h ⊢
  simp -implicitDefEqProofs only [ox, ou, ko, ky, kn, kd, oy_seq, oy_ret, oy_exit, oy_skip, oy_cond, oy_block, oy_region, oy_draw, dr_eq, dre_some, stl_some, st_nil, st_op, ot, ov, os_same, sy_nil, sy_op, nxt_normal, nxt_ret, nxt_exit, blk_exit, blk_normal, blk_ret, reg_some, cnd_true, cnd_false, opr_some, grd_true, grd_false, fin_ret, fin_normal, finv_some, Region.wanted, opA, callV, aop, evalL, evalO, putE, binA, bi_add, bi_sub, bi_mul, bi_eql, bi_neq, bi_lss, bi_leq, bi_gtr, bi_geq, unA, ofVal, ofLeaf, resultsA, tupA, AV.rfL, AV.rf, yielded_yv, yv_bool, yv_undef, yv_none, og_n, List.replicate, Option.bind, heapFree, onlyReads, List.set, List.getD, List.getElem?_cons_succ, List.getElem?_cons_zero, Option.getD, Option.map, decide_true, decide_false, if_true, if_false, Bool.false_eq_true, Bool.not_true, Bool.not_false, beq_self_eq_true, Bool.true_and, Bool.and_true, Bool.and_self, Bool.false_and, Bool.and_false, Bool.true_or, Bool.or_true, Bool.false_or, Bool.or_false, Bool.or_self, List.length_cons, List.length_nil, List.cons_append, List.nil_append, ite_self, List.getElem?_toArray, Option.bind_some, Option.bind_none, og_tt, og_ff, og_tf, og_ft, Int.reduceBNe, Int.reduceBEq, Int.reduceLT, Int.reduceLE, h, q, convertA, Try.underlying22, Try.underlying3, w]
end Go.Proofs.Ytlbkcdfllglddaa.fmt
/-! The functions below the Format laws, 2: the reference's numbers. Conditions: the bounds in each statement. -/
namespace Go.Proofs.Ytlbkcdfllglddaa.fmt
open Go Go.Ab
set_option maxRecDepth 100000
set_option linter.unusedSimpArgs false
set_option linter.unusedVariables false
attribute [local simp] ox ou ko ky kn kd oy_seq oy_ret oy_exit oy_skip oy_cond oy_block oy_region oy_draw dr_eq dre_some stl_some st_nil st_op ot ov os_same sy_nil sy_op nxt_normal nxt_ret nxt_exit blk_exit blk_normal blk_ret reg_some cnd_true cnd_false opr_some grd_true grd_false fin_ret fin_normal finv_some Region.wanted opA callV aop evalL evalO putE binA bi_add bi_sub bi_mul bi_eql bi_neq bi_lss bi_leq bi_gtr bi_geq unA ofVal ofLeaf resultsA tupA AV.rfL AV.rf yielded_yv yv_bool yv_undef yv_none og_n List.replicate Option.bind heapFree onlyReads
/-- a kind of numbers, a width and a scale -/
def numOk (kk w s : Int) : Bool := (decide (2 ≤ kk) && decide (kk ≤ 4)) && ((decide (1 ≤ w) && decide (w ≤ 32)) && (decide (0 ≤ s) && decide (s ≤ 3)))
theorem numOk_iff {kk w s : Int} : numOk kk w s = true ↔ 2 ≤ kk ∧ kk ≤ 4 ∧ 1 ≤ w ∧ w ≤ 32 ∧ 0 ≤ s ∧ s ≤ 3 := by simp [numOk, and_assoc]
def nLow (kk : Int) (w : Nat) : Int := if kk = 3 then 0 else -((2 ^ (w - 1) : Nat) : Int)
def nHigh (kk : Int) (w : Nat) : Int := if kk = 3 then ((2 ^ w : Nat) : Int) - 1 else ((2 ^ (w - 1) : Nat) : Int) - 1
/-- a number is in a field -/
def inF (kk : Int) (w s : Nat) (n : Int) : Bool := decide (n % ((2 ^ s : Nat) : Int) = 0) && (decide (nLow kk w ≤ n / ((2 ^ s : Nat) : Int)) && decide (n / ((2 ^ s : Nat) : Int) ≤ nHigh kk w))
theorem pw_bd {w n : Nat} (h : w ≤ n) : 1 ≤ 2 ^ w ∧ 2 ^ w ≤ 2 ^ n := ⟨Nat.two_pow_pos w, two_pow_le h⟩
theorem i64_bd {n : Nat} (h : n ≤ 4294967296) : (n : Int) ≤ 4294967296 := by omega

theorem number_run (kk w s : Int) (lo : Nat) (H : Heap) : callA Try.prog (om Try.prog) lo 30 [.int .u8 kk, .int .i64 w, .int .i64 s] H = some (.bool (numOk kk w s), H) := by
  rw [call_eq Try.func30 rfl rfl]
  simp -implicitDefEqProofs only [Try.f30]
  by_cases h : 2 ≤ kk ∧ kk ≤ 4
  · have e : numOk kk w s = ((decide (1 ≤ w) && decide (w ≤ 32)) && (decide (0 ≤ s) && decide (s ≤ 3))) := by simp [numOk, h.1, h.2]
    have i1 := fun H => in_run w 1 32 H.next H
    have i2 := fun H => in_run s 0 3 H.next H
    have hk : kk = 2 ∨ kk = 3 ∨ kk = 4 := by omega
    rw [e]
    generalize (decide (1 ≤ w) && decide (w ≤ 32)) = b1 at *
    generalize (decide (0 ≤ s) && decide (s ≤ 3)) = b2 at *
    have n3 : ((2 : Int) == 3) = false := rfl
    have n4 : ((2 : Int) == 4) = false := rfl
    rcases hk with rfl | rfl | rfl <;> cases b1 <;> simp -implicitDefEqProofs [i1, i2]
  · have e : numOk kk w s = false := by
      cases hn : numOk kk w s with
      | false => rfl
      | true => have := numOk_iff.1 hn; omega
    have h2 : (kk == 2) = false := by simp; omega
    have h3 : (kk == 3) = false := by simp; omega
    have h4 : (kk == 4) = false := by simp; omega
    rw [e]
    simp -implicitDefEqProofs only [ox, ou, ko, ky, kn, kd, oy_seq, oy_ret, oy_exit, oy_skip, oy_cond, oy_block, oy_region, oy_draw, dr_eq, dre_some, stl_some, st_nil, st_op, ot, ov, os_same, sy_nil, sy_op, nxt_normal, nxt_ret, nxt_exit, blk_exit, blk_normal, blk_ret, reg_some, cnd_true, cnd_false, opr_some, grd_true, grd_false, fin_ret, fin_normal, finv_some, Region.wanted, opA, callV, aop, evalL, evalO, putE, binA, bi_add, bi_sub, bi_mul, bi_eql, bi_neq, bi_lss, bi_leq, bi_gtr, bi_geq, unA, ofVal, ofLeaf, resultsA, tupA, AV.rfL, AV.rf, yielded_yv, yv_bool, yv_undef, yv_none, og_n, List.replicate, Option.bind, heapFree, onlyReads, List.set, List.getD, List.getElem?_cons_succ, List.getElem?_cons_zero, Option.getD, Option.map, decide_true, decide_false, if_true, if_false, Bool.false_eq_true, Bool.not_true, Bool.not_false, beq_self_eq_true, Bool.true_and, Bool.and_true, Bool.and_self, Bool.false_and, Bool.and_false, Bool.true_or, Bool.or_true, Bool.false_or, Bool.or_false, Bool.or_self, List.length_cons, List.length_nil, List.cons_append, List.nil_append, ite_self, List.getElem?_toArray, Option.bind_some, Option.bind_none, og_tt, og_ff, og_tf, og_ft, Int.reduceBNe, Int.reduceBEq, Int.reduceLT, Int.reduceLE, h2, h3, h4]
theorem ends_run (kk : Int) (w : Nat) (h1 : 1 ≤ w) (h2 : w ≤ 32) (lo : Nat) (H : Heap) : callA Try.prog (om Try.prog) lo 31 [.int .u8 kk, .int .i64 w] H = some (.tup [.int .i64 (nLow kk w), .int .i64 (nHigh kk w)], H) := by
  rw [call_eq Try.func31 rfl rfl]
  simp -implicitDefEqProofs only [Try.f31]
  have b1 := pw_bd h2
  have b2 := pw_bd (show w - 1 ≤ 32 by omega)
  have w1 : IntKind.i64.wrap ((w : Int) - 1) = ((w - 1 : Nat) : Int) := by rw [wi64 (by omega) (by omega)]; omega
  by_cases hk : kk = 3
  · subst hk
    have w2 : IntKind.i64.wrap (((2 ^ w : Nat) : Int) - 1) = ((2 ^ w : Nat) : Int) - 1 := wi64 (by omega) (by omega)
    simp -implicitDefEqProofs only [ox, ou, ko, ky, kn, kd, oy_seq, oy_ret, oy_exit, oy_skip, oy_cond, oy_block, oy_region, oy_draw, dr_eq, dre_some, stl_some, st_nil, st_op, ot, ov, os_same, sy_nil, sy_op, nxt_normal, nxt_ret, nxt_exit, blk_exit, blk_normal, blk_ret, reg_some, cnd_true, cnd_false, opr_some, grd_true, grd_false, fin_ret, fin_normal, finv_some, Region.wanted, opA, callV, aop, evalL, evalO, putE, binA, bi_add, bi_sub, bi_mul, bi_eql, bi_neq, bi_lss, bi_leq, bi_gtr, bi_geq, unA, ofVal, ofLeaf, resultsA, tupA, AV.rfL, AV.rf, yielded_yv, yv_bool, yv_undef, yv_none, og_n, List.replicate, Option.bind, heapFree, onlyReads, List.set, List.getD, List.getElem?_cons_succ, List.getElem?_cons_zero, Option.getD, Option.map, decide_true, decide_false, if_true, if_false, Bool.false_eq_true, Bool.not_true, Bool.not_false, beq_self_eq_true, Bool.true_and, Bool.and_true, Bool.and_self, Bool.false_and, Bool.and_false, Bool.true_or, Bool.or_true, Bool.false_or, Bool.or_false, Bool.or_self, List.length_cons, List.length_nil, List.cons_append, List.nil_append, ite_self, List.getElem?_toArray, Option.bind_some, Option.bind_none, og_tt, og_ff, og_tf, og_ft, Int.reduceBNe, Int.reduceBEq, Int.reduceLT, Int.reduceLE, power_run w (by omega), w2, nLow, nHigh]
  · have hk2 : (kk == 3) = false := by simp [hk]
    have w2 : IntKind.i64.wrap (((2 ^ (w - 1) : Nat) : Int) - 1) = ((2 ^ (w - 1) : Nat) : Int) - 1 := wi64 (by omega) (by omega)
    have w3 : IntKind.i64.wrap (0 - ((2 ^ (w - 1) : Nat) : Int)) = -((2 ^ (w - 1) : Nat) : Int) := by rw [wi64 (by omega) (by omega)]; omega
    simp -implicitDefEqProofs only [ox, ou, ko, ky, kn, kd, oy_seq, oy_ret, oy_exit, oy_skip, oy_cond, oy_block, oy_region, oy_draw, dr_eq, dre_some, stl_some, st_nil, st_op, ot, ov, os_same, sy_nil, sy_op, nxt_normal, nxt_ret, nxt_exit, blk_exit, blk_normal, blk_ret, reg_some, cnd_true, cnd_false, opr_some, grd_true, grd_false, fin_ret, fin_normal, finv_some, Region.wanted, opA, callV, aop, evalL, evalO, putE, binA, bi_add, bi_sub, bi_mul, bi_eql, bi_neq, bi_lss, bi_leq, bi_gtr, bi_geq, unA, ofVal, ofLeaf, resultsA, tupA, AV.rfL, AV.rf, yielded_yv, yv_bool, yv_undef, yv_none, og_n, List.replicate, Option.bind, heapFree, onlyReads, List.set, List.getD, List.getElem?_cons_succ, List.getElem?_cons_zero, Option.getD, Option.map, decide_true, decide_false, if_true, if_false, Bool.false_eq_true, Bool.not_true, Bool.not_false, beq_self_eq_true, Bool.true_and, Bool.and_true, Bool.and_self, Bool.false_and, Bool.and_false, Bool.true_or, Bool.or_true, Bool.false_or, Bool.or_false, Bool.or_self, List.length_cons, List.length_nil, List.cons_append, List.nil_append, ite_self, List.getElem?_toArray, Option.bind_some, Option.bind_none, og_tt, og_ff, og_tf, og_ft, Int.reduceBNe, Int.reduceBEq, Int.reduceLT, Int.reduceLE, hk2, w1, power_run (w - 1) (by omega), w2, w3, nLow, nHigh, hk]
theorem i64_ediv {n : Int} (hn : -9223372036854775808 ≤ n) (hn2 : n ≤ 9223372036854775807) {p : Int} (hp : 1 ≤ p) : -9223372036854775808 ≤ n / p ∧ n / p ≤ 9223372036854775807 := by
  constructor
  · rw [Int.le_ediv_iff_mul_le (by omega)]
    have : -9223372036854775808 * p ≤ -9223372036854775808 := by omega
    omega
  · by_cases h : 0 ≤ n
    · exact Int.le_trans (Int.ediv_le_self _ h) hn2
    · have := Int.ediv_neg_of_neg_of_pos (show n < 0 by omega) (show 0 < p by omega); omega
theorem inF_run (kk : Int) (w s : Nat) (n : Int) (h1 : 1 ≤ w) (h2 : w ≤ 32) (hs : s ≤ 3) (hn : -9223372036854775808 ≤ n) (hn2 : n ≤ 9223372036854775807) (lo : Nat) (H : Heap) :
    callA Try.prog (om Try.prog) lo 34 [.int .u8 kk, .int .i64 w, .int .i64 s, .int .i64 n] H = some (.bool (inF kk w s n), H) := by
  rw [call_eq Try.func34 rfl rfl]
  simp -implicitDefEqProofs only [Try.f34]
  have b := pw_bd hs
  have hp : ((2 ^ s : Nat) : Int) ≠ 0 := by omega
  have q1 : binIntA .rem .i64 n ((2 ^ s : Nat) : Int) = some (.int .i64 (n.tmod ((2 ^ s : Nat) : Int))) := bi_rem hp
  have q2 : binIntA .quo .i64 n ((2 ^ s : Nat) : Int) = some (.int .i64 (IntKind.i64.wrap (n.tdiv ((2 ^ s : Nat) : Int)))) := bi_quo hp
  by_cases hd : n % ((2 ^ s : Nat) : Int) = 0
  · have hdv := Int.dvd_of_emod_eq_zero hd
    have e1 : n.tmod ((2 ^ s : Nat) : Int) = 0 := Int.tmod_eq_zero_of_dvd hdv
    have e2 : n.tdiv ((2 ^ s : Nat) : Int) = n / ((2 ^ s : Nat) : Int) := Int.tdiv_eq_ediv_of_dvd hdv
    have b3 := i64_ediv hn hn2 (show (1 : Int) ≤ ((2 ^ s : Nat) : Int) by omega)
    simp -implicitDefEqProofs only [ox, ou, ko, ky, kn, kd, oy_seq, oy_ret, oy_exit, oy_skip, oy_cond, oy_block, oy_region, oy_draw, dr_eq, dre_some, stl_some, st_nil, st_op, ot, ov, os_same, sy_nil, sy_op, nxt_normal, nxt_ret, nxt_exit, blk_exit, blk_normal, blk_ret, reg_some, cnd_true, cnd_false, opr_some, grd_true, grd_false, fin_ret, fin_normal, finv_some, Region.wanted, opA, callV, aop, evalL, evalO, putE, binA, bi_add, bi_sub, bi_mul, bi_eql, bi_neq, bi_lss, bi_leq, bi_gtr, bi_geq, unA, ofVal, ofLeaf, resultsA, tupA, AV.rfL, AV.rf, yielded_yv, yv_bool, yv_undef, yv_none, og_n, List.replicate, Option.bind, heapFree, onlyReads, List.set, List.getD, List.getElem?_cons_succ, List.getElem?_cons_zero, Option.getD, Option.map, decide_true, decide_false, if_true, if_false, Bool.false_eq_true, Bool.not_true, Bool.not_false, beq_self_eq_true, Bool.true_and, Bool.and_true, Bool.and_self, Bool.false_and, Bool.and_false, Bool.true_or, Bool.or_true, Bool.false_or, Bool.or_false, Bool.or_self, List.length_cons, List.length_nil, List.cons_append, List.nil_append, ite_self, List.getElem?_toArray, Option.bind_some, Option.bind_none, og_tt, og_ff, og_tf, og_ft, Int.reduceBNe, Int.reduceBEq, Int.reduceLT, Int.reduceLE, ends_run kk w h1 h2, power_run s (by omega), q1, q2, e1, e2, wi64 b3.1 b3.2, in_run, inF, hd, List.getElem?_cons_succ, List.getElem?_cons_zero]
  · have e1 : (n.tmod ((2 ^ s : Nat) : Int) == 0) = false := by
      simp only [beq_eq_false_iff_ne, ne_eq]
      exact fun h => hd (Int.emod_eq_zero_of_dvd (Int.dvd_of_tmod_eq_zero h))
    simp -implicitDefEqProofs only [ox, ou, ko, ky, kn, kd, oy_seq, oy_ret, oy_exit, oy_skip, oy_cond, oy_block, oy_region, oy_draw, dr_eq, dre_some, stl_some, st_nil, st_op, ot, ov, os_same, sy_nil, sy_op, nxt_normal, nxt_ret, nxt_exit, blk_exit, blk_normal, blk_ret, reg_some, cnd_true, cnd_false, opr_some, grd_true, grd_false, fin_ret, fin_normal, finv_some, Region.wanted, opA, callV, aop, evalL, evalO, putE, binA, bi_add, bi_sub, bi_mul, bi_eql, bi_neq, bi_lss, bi_leq, bi_gtr, bi_geq, unA, ofVal, ofLeaf, resultsA, tupA, AV.rfL, AV.rf, yielded_yv, yv_bool, yv_undef, yv_none, og_n, List.replicate, Option.bind, heapFree, onlyReads, List.set, List.getD, List.getElem?_cons_succ, List.getElem?_cons_zero, Option.getD, Option.map, decide_true, decide_false, if_true, if_false, Bool.false_eq_true, Bool.not_true, Bool.not_false, beq_self_eq_true, Bool.true_and, Bool.and_true, Bool.and_self, Bool.false_and, Bool.and_false, Bool.true_or, Bool.or_true, Bool.false_or, Bool.or_false, Bool.or_self, List.length_cons, List.length_nil, List.cons_append, List.nil_append, ite_self, List.getElem?_toArray, Option.bind_some, Option.bind_none, og_tt, og_ff, og_tf, og_ft, Int.reduceBNe, Int.reduceBEq, Int.reduceLT, Int.reduceLE, ends_run kk w h1 h2, power_run s (by omega), q1, e1, in_run, inF, hd, List.getElem?_cons_succ, List.getElem?_cons_zero]
end Go.Proofs.Ytlbkcdfllglddaa.fmt
/-! The functions below the Format laws, 3: the reference's Range, Field, Number, Fit. Conditions: the bounds in each statement. -/
namespace Go.Proofs.Ytlbkcdfllglddaa.fmt
open Go Go.Ab
set_option maxRecDepth 100000
set_option linter.unusedSimpArgs false
set_option linter.unusedVariables false
def pow (s : Nat) : Int := ((2 ^ s : Nat) : Int)
def rngT (kk w s : Int) : AV := if numOk kk w s then .tup [.int .i64 (pow s.toNat * nLow kk w.toNat), .int .i64 (pow s.toNat * nHigh kk w.toNat), .int .i64 0] else .tup [.int .i64 0, .int .i64 0, .int .i64 2]
def fldT (kk w s n : Int) : AV := if numOk kk w s then (if inF kk w.toNat s.toNat n then .tup [.int .u64 (n / pow s.toNat % pow w.toNat), .int .i64 0] else .tup [.int .u64 0, .int .i64 24]) else .tup [.int .u64 0, .int .i64 2]
def numV (kk : Int) (w : Nat) (x : Nat) : Int := if nHigh kk w < x then (x : Int) - pow w else x
def numT (kk w s : Int) (x : Nat) : AV := if numOk kk w s then (if decide (x < 2 ^ w.toNat) then .tup [.int .i64 (pow s.toNat * numV kk w.toNat x), .int .i64 0] else .tup [.int .i64 0, .int .i64 24]) else .tup [.int .i64 0, .int .i64 2]
def fitFrom (kk : Int) (s : Nat) (n : Int) : Nat → Nat → Option Nat
  | 0, _ => none
  | m + 1, w => if inF kk w s n then some w else fitFrom kk s n m (w + 1)
def fitT (kk s n : Int) : AV := if numOk kk 1 s then (match fitFrom kk s.toNat n 32 1 with | some w => .tup [.int .i64 w, .int .i64 0] | none => .tup [.int .i64 0, .int .i64 24]) else .tup [.int .i64 0, .int .i64 2]
theorem ends_bd (kk : Int) {w : Nat} (h2 : w ≤ 32) : -2147483648 ≤ nLow kk w ∧ nLow kk w ≤ 0 ∧ 0 ≤ nHigh kk w ∧ nHigh kk w ≤ 4294967295 := by
  have b1 := pw_bd h2
  have b2 := pw_bd (show w - 1 ≤ 31 by omega)
  unfold nLow nHigh
  split <;> omega
theorem refRange_run (kk w s : Int) (lo : Nat) (H : Heap) : callA Try.prog (om Try.prog) lo 13 [.int .u8 kk, .int .i64 w, .int .i64 s] H = some (rngT kk w s, H) := by
  rw [call_eq Try.func13 rfl rfl]
  simp -implicitDefEqProofs only [Try.f13]
  cases hn : numOk kk w s with
  | false => simp -implicitDefEqProofs only [ox, ou, ko, ky, kn, kd, oy_seq, oy_ret, oy_exit, oy_skip, oy_cond, oy_block, oy_region, oy_draw, dr_eq, dre_some, stl_some, st_nil, st_op, ot, ov, os_same, sy_nil, sy_op, nxt_normal, nxt_ret, nxt_exit, blk_exit, blk_normal, blk_ret, reg_some, cnd_true, cnd_false, opr_some, grd_true, grd_false, fin_ret, fin_normal, finv_some, Region.wanted, opA, callV, aop, evalL, evalO, putE, binA, bi_add, bi_sub, bi_mul, bi_eql, bi_neq, bi_lss, bi_leq, bi_gtr, bi_geq, unA, ofVal, ofLeaf, resultsA, tupA, AV.rfL, AV.rf, yielded_yv, yv_bool, yv_undef, yv_none, og_n, List.replicate, Option.bind, heapFree, onlyReads, List.set, List.getD, List.getElem?_cons_succ, List.getElem?_cons_zero, Option.getD, Option.map, decide_true, decide_false, if_true, if_false, Bool.false_eq_true, Bool.not_true, Bool.not_false, beq_self_eq_true, Bool.true_and, Bool.and_true, Bool.and_self, Bool.false_and, Bool.and_false, Bool.true_or, Bool.or_true, Bool.false_or, Bool.or_false, Bool.or_self, List.length_cons, List.length_nil, List.cons_append, List.nil_append, ite_self, List.getElem?_toArray, Option.bind_some, Option.bind_none, og_tt, og_ff, og_tf, og_ft, Int.reduceBNe, Int.reduceBEq, Int.reduceLT, Int.reduceLE, number_run, hn, rngT]
  | true =>
    obtain ⟨_, _, hw, hw2, hs, hs2⟩ := numOk_iff.1 hn
    obtain ⟨w, rfl⟩ := Int.eq_ofNat_of_zero_le (show 0 ≤ w by omega)
    obtain ⟨s, rfl⟩ := Int.eq_ofNat_of_zero_le hs
    have b := ends_bd kk (show w ≤ 32 by omega)
    have hs3 : s = 0 ∨ s = 1 ∨ s = 2 ∨ s = 3 := by omega
    have w1 : IntKind.i64.wrap (((2 ^ s : Nat) : Int) * nLow kk w) = pow s * nLow kk w := wi64 (by rcases hs3 with rfl | rfl | rfl | rfl <;> omega) (by rcases hs3 with rfl | rfl | rfl | rfl <;> omega)
    have w2 : IntKind.i64.wrap (((2 ^ s : Nat) : Int) * nHigh kk w) = pow s * nHigh kk w := wi64 (by rcases hs3 with rfl | rfl | rfl | rfl <;> omega) (by rcases hs3 with rfl | rfl | rfl | rfl <;> omega)
    simp -implicitDefEqProofs only [ox, ou, ko, ky, kn, kd, oy_seq, oy_ret, oy_exit, oy_skip, oy_cond, oy_block, oy_region, oy_draw, dr_eq, dre_some, stl_some, st_nil, st_op, ot, ov, os_same, sy_nil, sy_op, nxt_normal, nxt_ret, nxt_exit, blk_exit, blk_normal, blk_ret, reg_some, cnd_true, cnd_false, opr_some, grd_true, grd_false, fin_ret, fin_normal, finv_some, Region.wanted, opA, callV, aop, evalL, evalO, putE, binA, bi_add, bi_sub, bi_mul, bi_eql, bi_neq, bi_lss, bi_leq, bi_gtr, bi_geq, unA, ofVal, ofLeaf, resultsA, tupA, AV.rfL, AV.rf, yielded_yv, yv_bool, yv_undef, yv_none, og_n, List.replicate, Option.bind, heapFree, onlyReads, List.set, List.getD, List.getElem?_cons_succ, List.getElem?_cons_zero, Option.getD, Option.map, decide_true, decide_false, if_true, if_false, Bool.false_eq_true, Bool.not_true, Bool.not_false, beq_self_eq_true, Bool.true_and, Bool.and_true, Bool.and_self, Bool.false_and, Bool.and_false, Bool.true_or, Bool.or_true, Bool.false_or, Bool.or_false, Bool.or_self, List.length_cons, List.length_nil, List.cons_append, List.nil_append, ite_self, List.getElem?_toArray, Option.bind_some, Option.bind_none, og_tt, og_ff, og_tf, og_ft, Int.reduceBNe, Int.reduceBEq, Int.reduceLT, Int.reduceLE, number_run, hn, ends_run kk w (by omega) (by omega), power_run s (by omega), w1, w2, rngT, Int.toNat_natCast]
theorem refField_run (kk w s n : Int) (hn1 : -9223372036854775808 ≤ n) (hn2 : n ≤ 9223372036854775807) (lo : Nat) (H : Heap) : callA Try.prog (om Try.prog) lo 15 [.int .u8 kk, .int .i64 w, .int .i64 s, .int .i64 n] H = some (fldT kk w s n, H) := by
  rw [call_eq Try.func15 rfl rfl]
  simp -implicitDefEqProofs only [Try.f15]
  cases hn : numOk kk w s with
  | false => simp -implicitDefEqProofs only [ox, ou, ko, ky, kn, kd, oy_seq, oy_ret, oy_exit, oy_skip, oy_cond, oy_block, oy_region, oy_draw, dr_eq, dre_some, stl_some, st_nil, st_op, ot, ov, os_same, sy_nil, sy_op, nxt_normal, nxt_ret, nxt_exit, blk_exit, blk_normal, blk_ret, reg_some, cnd_true, cnd_false, opr_some, grd_true, grd_false, fin_ret, fin_normal, finv_some, Region.wanted, opA, callV, aop, evalL, evalO, putE, binA, bi_add, bi_sub, bi_mul, bi_eql, bi_neq, bi_lss, bi_leq, bi_gtr, bi_geq, unA, ofVal, ofLeaf, resultsA, tupA, AV.rfL, AV.rf, yielded_yv, yv_bool, yv_undef, yv_none, og_n, List.replicate, Option.bind, heapFree, onlyReads, List.set, List.getD, List.getElem?_cons_succ, List.getElem?_cons_zero, Option.getD, Option.map, decide_true, decide_false, if_true, if_false, Bool.false_eq_true, Bool.not_true, Bool.not_false, beq_self_eq_true, Bool.true_and, Bool.and_true, Bool.and_self, Bool.false_and, Bool.and_false, Bool.true_or, Bool.or_true, Bool.false_or, Bool.or_false, Bool.or_self, List.length_cons, List.length_nil, List.cons_append, List.nil_append, ite_self, List.getElem?_toArray, Option.bind_some, Option.bind_none, og_tt, og_ff, og_tf, og_ft, Int.reduceBNe, Int.reduceBEq, Int.reduceLT, Int.reduceLE, number_run, hn, fldT]
  | true =>
    obtain ⟨_, _, hw, hw2, hs, hs2⟩ := numOk_iff.1 hn
    obtain ⟨w, rfl⟩ := Int.eq_ofNat_of_zero_le (show 0 ≤ w by omega)
    obtain ⟨s, rfl⟩ := Int.eq_ofNat_of_zero_le hs
    have hi := inF_run kk w s n (by omega) (by omega) (by omega) hn1 hn2
    cases hf : inF kk w s n with
    | false => simp -implicitDefEqProofs only [ox, ou, ko, ky, kn, kd, oy_seq, oy_ret, oy_exit, oy_skip, oy_cond, oy_block, oy_region, oy_draw, dr_eq, dre_some, stl_some, st_nil, st_op, ot, ov, os_same, sy_nil, sy_op, nxt_normal, nxt_ret, nxt_exit, blk_exit, blk_normal, blk_ret, reg_some, cnd_true, cnd_false, opr_some, grd_true, grd_false, fin_ret, fin_normal, finv_some, Region.wanted, opA, callV, aop, evalL, evalO, putE, binA, bi_add, bi_sub, bi_mul, bi_eql, bi_neq, bi_lss, bi_leq, bi_gtr, bi_geq, unA, ofVal, ofLeaf, resultsA, tupA, AV.rfL, AV.rf, yielded_yv, yv_bool, yv_undef, yv_none, og_n, List.replicate, Option.bind, heapFree, onlyReads, List.set, List.getD, List.getElem?_cons_succ, List.getElem?_cons_zero, Option.getD, Option.map, decide_true, decide_false, if_true, if_false, Bool.false_eq_true, Bool.not_true, Bool.not_false, beq_self_eq_true, Bool.true_and, Bool.and_true, Bool.and_self, Bool.false_and, Bool.and_false, Bool.true_or, Bool.or_true, Bool.false_or, Bool.or_false, Bool.or_self, List.length_cons, List.length_nil, List.cons_append, List.nil_append, ite_self, List.getElem?_toArray, Option.bind_some, Option.bind_none, og_tt, og_ff, og_tf, og_ft, Int.reduceBNe, Int.reduceBEq, Int.reduceLT, Int.reduceLE, number_run, hn, hi, hf, fldT, Int.toNat_natCast]
    | true =>
      have b := pw_bd (show s ≤ 3 by omega)
      have bw := pw_bd (show w ≤ 32 by omega)
      have be := ends_bd kk (show w ≤ 32 by omega)
      have hp : ((2 ^ s : Nat) : Int) ≠ 0 := by omega
      have hf' := hf
      simp only [inF, Bool.and_eq_true, decide_eq_true_eq] at hf'
      obtain ⟨f1, f2, f3⟩ := hf'
      have q2 : binIntA .quo .i64 n ((2 ^ s : Nat) : Int) = some (.int .i64 (n / ((2 ^ s : Nat) : Int))) := by
        rw [bi_quo hp, Int.tdiv_eq_ediv_of_dvd (Int.dvd_of_emod_eq_zero f1), wi64 (by omega) (by omega)]
      obtain ⟨k, hk⟩ : ∃ k, k = n / ((2 ^ s : Nat) : Int) := ⟨_, rfl⟩
      rw [← hk] at q2 f2 f3
      have hbw : nHigh kk w < ((2 ^ w : Nat) : Int) ∧ -((2 ^ w : Nat) : Int) ≤ nLow kk w := by
        have b2 := two_pow_le (show w - 1 ≤ w by omega)
        have b3 := Nat.two_pow_pos (w - 1)
        unfold nHigh nLow; split <;> omega
      by_cases hneg : k < 0
      · have w1 : IntKind.i64.wrap (k + ((2 ^ w : Nat) : Int)) = k + ((2 ^ w : Nat) : Int) := wi64 (by omega) (by omega)
        have w2 : IntKind.u64.wrap (k + ((2 ^ w : Nat) : Int)) = n / pow s % pow w := by
          obtain ⟨j, hj⟩ := Int.eq_ofNat_of_zero_le (show 0 ≤ k + ((2 ^ w : Nat) : Int) by omega)
          rw [hj, wrap_u64_lt (by omega), ← hj, pow, pow, ← hk]
          rw [← Int.add_emod_right]
          exact (Int.emod_eq_of_lt (by omega) (by omega)).symm
        simp -implicitDefEqProofs only [ox, ou, ko, ky, kn, kd, oy_seq, oy_ret, oy_exit, oy_skip, oy_cond, oy_block, oy_region, oy_draw, dr_eq, dre_some, stl_some, st_nil, st_op, ot, ov, os_same, sy_nil, sy_op, nxt_normal, nxt_ret, nxt_exit, blk_exit, blk_normal, blk_ret, reg_some, cnd_true, cnd_false, opr_some, grd_true, grd_false, fin_ret, fin_normal, finv_some, Region.wanted, opA, callV, aop, evalL, evalO, putE, binA, bi_add, bi_sub, bi_mul, bi_eql, bi_neq, bi_lss, bi_leq, bi_gtr, bi_geq, unA, ofVal, ofLeaf, resultsA, tupA, AV.rfL, AV.rf, yielded_yv, yv_bool, yv_undef, yv_none, og_n, List.replicate, Option.bind, heapFree, onlyReads, List.set, List.getD, List.getElem?_cons_succ, List.getElem?_cons_zero, Option.getD, Option.map, decide_true, decide_false, if_true, if_false, Bool.false_eq_true, Bool.not_true, Bool.not_false, beq_self_eq_true, Bool.true_and, Bool.and_true, Bool.and_self, Bool.false_and, Bool.and_false, Bool.true_or, Bool.or_true, Bool.false_or, Bool.or_false, Bool.or_self, List.length_cons, List.length_nil, List.cons_append, List.nil_append, ite_self, List.getElem?_toArray, Option.bind_some, Option.bind_none, og_tt, og_ff, og_tf, og_ft, Int.reduceBNe, Int.reduceBEq, Int.reduceLT, Int.reduceLE, number_run, hn, hi, hf, power_run s (by omega), power_run w (by omega), q2, hneg, w1, w2, fldT, Int.toNat_natCast, convertA, Try.underlying3, Try.underlying22]
      · have w2 : IntKind.u64.wrap k = n / pow s % pow w := by
          obtain ⟨j, hj⟩ := Int.eq_ofNat_of_zero_le (show 0 ≤ k by omega)
          rw [hj, wrap_u64_lt (by omega), ← hj, pow, pow, ← hk]
          exact (Int.emod_eq_of_lt (by omega) (by omega)).symm
        simp -implicitDefEqProofs only [ox, ou, ko, ky, kn, kd, oy_seq, oy_ret, oy_exit, oy_skip, oy_cond, oy_block, oy_region, oy_draw, dr_eq, dre_some, stl_some, st_nil, st_op, ot, ov, os_same, sy_nil, sy_op, nxt_normal, nxt_ret, nxt_exit, blk_exit, blk_normal, blk_ret, reg_some, cnd_true, cnd_false, opr_some, grd_true, grd_false, fin_ret, fin_normal, finv_some, Region.wanted, opA, callV, aop, evalL, evalO, putE, binA, bi_add, bi_sub, bi_mul, bi_eql, bi_neq, bi_lss, bi_leq, bi_gtr, bi_geq, unA, ofVal, ofLeaf, resultsA, tupA, AV.rfL, AV.rf, yielded_yv, yv_bool, yv_undef, yv_none, og_n, List.replicate, Option.bind, heapFree, onlyReads, List.set, List.getD, List.getElem?_cons_succ, List.getElem?_cons_zero, Option.getD, Option.map, decide_true, decide_false, if_true, if_false, Bool.false_eq_true, Bool.not_true, Bool.not_false, beq_self_eq_true, Bool.true_and, Bool.and_true, Bool.and_self, Bool.false_and, Bool.and_false, Bool.true_or, Bool.or_true, Bool.false_or, Bool.or_false, Bool.or_self, List.length_cons, List.length_nil, List.cons_append, List.nil_append, ite_self, List.getElem?_toArray, Option.bind_some, Option.bind_none, og_tt, og_ff, og_tf, og_ft, Int.reduceBNe, Int.reduceBEq, Int.reduceLT, Int.reduceLE, number_run, hn, hi, hf, power_run s (by omega), q2, hneg, w2, fldT, Int.toNat_natCast, convertA, Try.underlying3, Try.underlying22]
theorem refBelow_run (x n : Nat) (hx : x < 2 ^ 64) (hn : n ≤ 1000) (lo : Nat) (H : Heap) : callA Try.prog (om Try.prog) lo 36 [.int .u64 x, .int .i64 n] H = some (.bool (decide (x < 2 ^ n)), H) := by
  rw [call_eq Try.func36 rfl rfl]
  simp -implicitDefEqProofs only [Try.f36]
  simp -implicitDefEqProofs only [ox, ou, ko, ky, kn, kd, oy_seq, oy_ret, oy_exit, oy_skip, oy_cond, oy_block, oy_region, oy_draw, dr_eq, dre_some, stl_some, st_nil, st_op, ot, ov, os_same, sy_nil, sy_op, nxt_normal, nxt_ret, nxt_exit, blk_exit, blk_normal, blk_ret, reg_some, cnd_true, cnd_false, opr_some, grd_true, grd_false, fin_ret, fin_normal, finv_some, Region.wanted, opA, callV, aop, evalL, evalO, putE, binA, bi_add, bi_sub, bi_mul, bi_eql, bi_neq, bi_lss, bi_leq, bi_gtr, bi_geq, unA, ofVal, ofLeaf, resultsA, tupA, AV.rfL, AV.rf, yielded_yv, yv_bool, yv_undef, yv_none, og_n, List.replicate, Option.bind, heapFree, onlyReads, List.set, List.getD, List.getElem?_cons_succ, List.getElem?_cons_zero, Option.getD, Option.map, decide_true, decide_false, if_true, if_false, Bool.false_eq_true, Bool.not_true, Bool.not_false, beq_self_eq_true, Bool.true_and, Bool.and_true, Bool.and_self, Bool.false_and, Bool.and_false, Bool.true_or, Bool.or_true, Bool.false_or, Bool.or_false, Bool.or_self, List.length_cons, List.length_nil, List.cons_append, List.nil_append, ite_self, List.getElem?_toArray, Option.bind_some, Option.bind_none, og_tt, og_ff, og_tf, og_ft, Int.reduceBNe, Int.reduceBEq, Int.reduceLT, Int.reduceLE, below_run x n hx hn]
theorem refNumber_run (kk w s : Int) (x : Nat) (hx : x < 2 ^ 64) (lo : Nat) (H : Heap) : callA Try.prog (om Try.prog) lo 17 [.int .u8 kk, .int .i64 w, .int .i64 s, .int .u64 x] H = some (numT kk w s x, H) := by
  rw [call_eq Try.func17 rfl rfl]
  simp -implicitDefEqProofs only [Try.f17]
  cases hn : numOk kk w s with
  | false => simp -implicitDefEqProofs only [ox, ou, ko, ky, kn, kd, oy_seq, oy_ret, oy_exit, oy_skip, oy_cond, oy_block, oy_region, oy_draw, dr_eq, dre_some, stl_some, st_nil, st_op, ot, ov, os_same, sy_nil, sy_op, nxt_normal, nxt_ret, nxt_exit, blk_exit, blk_normal, blk_ret, reg_some, cnd_true, cnd_false, opr_some, grd_true, grd_false, fin_ret, fin_normal, finv_some, Region.wanted, opA, callV, aop, evalL, evalO, putE, binA, bi_add, bi_sub, bi_mul, bi_eql, bi_neq, bi_lss, bi_leq, bi_gtr, bi_geq, unA, ofVal, ofLeaf, resultsA, tupA, AV.rfL, AV.rf, yielded_yv, yv_bool, yv_undef, yv_none, og_n, List.replicate, Option.bind, heapFree, onlyReads, List.set, List.getD, List.getElem?_cons_succ, List.getElem?_cons_zero, Option.getD, Option.map, decide_true, decide_false, if_true, if_false, Bool.false_eq_true, Bool.not_true, Bool.not_false, beq_self_eq_true, Bool.true_and, Bool.and_true, Bool.and_self, Bool.false_and, Bool.and_false, Bool.true_or, Bool.or_true, Bool.false_or, Bool.or_false, Bool.or_self, List.length_cons, List.length_nil, List.cons_append, List.nil_append, ite_self, List.getElem?_toArray, Option.bind_some, Option.bind_none, og_tt, og_ff, og_tf, og_ft, Int.reduceBNe, Int.reduceBEq, Int.reduceLT, Int.reduceLE, number_run, hn, numT]
  | true =>
    obtain ⟨_, _, hw, hw2, hs, hs2⟩ := numOk_iff.1 hn
    obtain ⟨w, rfl⟩ := Int.eq_ofNat_of_zero_le (show 0 ≤ w by omega)
    obtain ⟨s, rfl⟩ := Int.eq_ofNat_of_zero_le hs
    have hb := refBelow_run x w hx (by omega)
    by_cases hxw : x < 2 ^ w
    · have bw := pw_bd (show w ≤ 32 by omega)
      have be := ends_bd kk (show w ≤ 32 by omega)
      have b := pw_bd (show s ≤ 3 by omega)
      have hs3 : s = 0 ∨ s = 1 ∨ s = 2 ∨ s = 3 := by omega
      have w0 : IntKind.i64.wrap (x : Int) = x := wi64 (by omega) (by omega)
      by_cases hh : nHigh kk w < x
      · have w1 : IntKind.i64.wrap ((x : Int) - ((2 ^ w : Nat) : Int)) = (x : Int) - ((2 ^ w : Nat) : Int) := wi64 (by omega) (by omega)
        have w2 : IntKind.i64.wrap (((x : Int) - ((2 ^ w : Nat) : Int)) * ((2 ^ s : Nat) : Int)) = pow s * ((x : Int) - pow w) := by
          rw [Int.mul_comm]
          exact wi64 (by rcases hs3 with rfl | rfl | rfl | rfl <;> omega) (by rcases hs3 with rfl | rfl | rfl | rfl <;> omega)
        simp -implicitDefEqProofs only [ox, ou, ko, ky, kn, kd, oy_seq, oy_ret, oy_exit, oy_skip, oy_cond, oy_block, oy_region, oy_draw, dr_eq, dre_some, stl_some, st_nil, st_op, ot, ov, os_same, sy_nil, sy_op, nxt_normal, nxt_ret, nxt_exit, blk_exit, blk_normal, blk_ret, reg_some, cnd_true, cnd_false, opr_some, grd_true, grd_false, fin_ret, fin_normal, finv_some, Region.wanted, opA, callV, aop, evalL, evalO, putE, binA, bi_add, bi_sub, bi_mul, bi_eql, bi_neq, bi_lss, bi_leq, bi_gtr, bi_geq, unA, ofVal, ofLeaf, resultsA, tupA, AV.rfL, AV.rf, yielded_yv, yv_bool, yv_undef, yv_none, og_n, List.replicate, Option.bind, heapFree, onlyReads, List.set, List.getD, List.getElem?_cons_succ, List.getElem?_cons_zero, Option.getD, Option.map, decide_true, decide_false, if_true, if_false, Bool.false_eq_true, Bool.not_true, Bool.not_false, beq_self_eq_true, Bool.true_and, Bool.and_true, Bool.and_self, Bool.false_and, Bool.and_false, Bool.true_or, Bool.or_true, Bool.false_or, Bool.or_false, Bool.or_self, List.length_cons, List.length_nil, List.cons_append, List.nil_append, ite_self, List.getElem?_toArray, Option.bind_some, Option.bind_none, og_tt, og_ff, og_tf, og_ft, Int.reduceBNe, Int.reduceBEq, Int.reduceLT, Int.reduceLE, number_run, hn, hb, hxw, w0, ends_run kk w (by omega) (by omega), hh, w1, w2, power_run s (by omega), power_run w (by omega), numT, numV, Int.toNat_natCast, convertA, Try.underlying3, Try.underlying22]
      · have w2 : IntKind.i64.wrap ((x : Int) * ((2 ^ s : Nat) : Int)) = pow s * (x : Int) := by
          rw [Int.mul_comm]
          exact wi64 (by rcases hs3 with rfl | rfl | rfl | rfl <;> omega) (by rcases hs3 with rfl | rfl | rfl | rfl <;> omega)
        simp -implicitDefEqProofs only [ox, ou, ko, ky, kn, kd, oy_seq, oy_ret, oy_exit, oy_skip, oy_cond, oy_block, oy_region, oy_draw, dr_eq, dre_some, stl_some, st_nil, st_op, ot, ov, os_same, sy_nil, sy_op, nxt_normal, nxt_ret, nxt_exit, blk_exit, blk_normal, blk_ret, reg_some, cnd_true, cnd_false, opr_some, grd_true, grd_false, fin_ret, fin_normal, finv_some, Region.wanted, opA, callV, aop, evalL, evalO, putE, binA, bi_add, bi_sub, bi_mul, bi_eql, bi_neq, bi_lss, bi_leq, bi_gtr, bi_geq, unA, ofVal, ofLeaf, resultsA, tupA, AV.rfL, AV.rf, yielded_yv, yv_bool, yv_undef, yv_none, og_n, List.replicate, Option.bind, heapFree, onlyReads, List.set, List.getD, List.getElem?_cons_succ, List.getElem?_cons_zero, Option.getD, Option.map, decide_true, decide_false, if_true, if_false, Bool.false_eq_true, Bool.not_true, Bool.not_false, beq_self_eq_true, Bool.true_and, Bool.and_true, Bool.and_self, Bool.false_and, Bool.and_false, Bool.true_or, Bool.or_true, Bool.false_or, Bool.or_false, Bool.or_self, List.length_cons, List.length_nil, List.cons_append, List.nil_append, ite_self, List.getElem?_toArray, Option.bind_some, Option.bind_none, og_tt, og_ff, og_tf, og_ft, Int.reduceBNe, Int.reduceBEq, Int.reduceLT, Int.reduceLE, number_run, hn, hb, hxw, w0, ends_run kk w (by omega) (by omega), hh, w2, power_run s (by omega), numT, numV, Int.toNat_natCast, convertA, Try.underlying3, Try.underlying22]
    · simp -implicitDefEqProofs only [ox, ou, ko, ky, kn, kd, oy_seq, oy_ret, oy_exit, oy_skip, oy_cond, oy_block, oy_region, oy_draw, dr_eq, dre_some, stl_some, st_nil, st_op, ot, ov, os_same, sy_nil, sy_op, nxt_normal, nxt_ret, nxt_exit, blk_exit, blk_normal, blk_ret, reg_some, cnd_true, cnd_false, opr_some, grd_true, grd_false, fin_ret, fin_normal, finv_some, Region.wanted, opA, callV, aop, evalL, evalO, putE, binA, bi_add, bi_sub, bi_mul, bi_eql, bi_neq, bi_lss, bi_leq, bi_gtr, bi_geq, unA, ofVal, ofLeaf, resultsA, tupA, AV.rfL, AV.rf, yielded_yv, yv_bool, yv_undef, yv_none, og_n, List.replicate, Option.bind, heapFree, onlyReads, List.set, List.getD, List.getElem?_cons_succ, List.getElem?_cons_zero, Option.getD, Option.map, decide_true, decide_false, if_true, if_false, Bool.false_eq_true, Bool.not_true, Bool.not_false, beq_self_eq_true, Bool.true_and, Bool.and_true, Bool.and_self, Bool.false_and, Bool.and_false, Bool.true_or, Bool.or_true, Bool.false_or, Bool.or_false, Bool.or_self, List.length_cons, List.length_nil, List.cons_append, List.nil_append, ite_self, List.getElem?_toArray, Option.bind_some, Option.bind_none, og_tt, og_ff, og_tf, og_ft, Int.reduceBNe, Int.reduceBEq, Int.reduceLT, Int.reduceLE, number_run, hn, hb, hxw, numT, Int.toNat_natCast]
/-- how the loop of Fit ends -/
def FitPost (kk : Int) (s : Nat) (n : Int) (m w : Nat) (H : Heap) (r : Option (Ex × St)) : Prop := ∃ y3 y4 y5 y8 y9 y10 y11 y12 y13 y14 y15 y16 y17 y18 y19 y20 y21 y22, r =
      some (match fitFrom kk s n m w with
        | some v => (.ret, ⟨[.int .u8 kk, .int .i64 s, .int .i64 n, y3, y4, y5, .int .i64 v, .int .i64 0, y8, y9, y10, y11, y12, y13, y14, y15, y16, y17, y18, y19, y20, y21, y22], [], H⟩)
        | none => (.exit 0, ⟨[.int .u8 kk, .int .i64 s, .int .i64 n, y3, y4, y5, .int .i64 0, .int .i64 0, y8, y9, y10, y11, y12, y13, y14, y15, y16, y17, y18, y19, y20, y21, y22], [], H⟩))
theorem refFit_loop (cx : Ctx) (lo : Nat) (H : Heap) (kk : Int) (s : Nat) (hs : s ≤ 3) (n : Int) (hn1 : -9223372036854775808 ≤ n) (hn2 : n ≤ 9223372036854775807) : ∀ (m w : Nat) {x3 x4 x5 x9 x10 x11 x12 x13 x14 x15 x16 x17 x18 x19 x20 x21 x22 : AV}, w + m = 33 → 1 ≤ w →
    FitPost kk s n m w H (om Try.prog cx lo (loopAt Try.f19 0) ⟨[.int .u8 kk, .int .i64 s, .int .i64 n, x3, x4, x5, .int .i64 0, .int .i64 0, .int .i64 w, x9, x10, x11, x12, x13, x14, x15, x16, x17, x18, x19, x20, x21, x22], [], H⟩) := by
  simp -implicitDefEqProofs only [loopAt, loopIn, firstC, Try.f19, Option.getD, if_true]
  unfold FitPost
  intro m
  induction m with
  | zero =>
    intro w x3 x4 x5 x9 x10 x11 x12 x13 x14 x15 x16 x17 x18 x19 x20 x21 x22 hw h1
    have e1 : ¬ ((w : Int) ≤ 32) := by omega
    rw [oy_loop]
    simp -implicitDefEqProofs only [ox, ou, ko, ky, kn, kd, oy_seq, oy_ret, oy_exit, oy_skip, oy_cond, oy_block, oy_region, oy_draw, dr_eq, dre_some, stl_some, st_nil, st_op, ot, ov, os_same, sy_nil, sy_op, nxt_normal, nxt_ret, nxt_exit, blk_exit, blk_normal, blk_ret, reg_some, cnd_true, cnd_false, opr_some, grd_true, grd_false, fin_ret, fin_normal, finv_some, Region.wanted, opA, callV, aop, evalL, evalO, putE, binA, bi_add, bi_sub, bi_mul, bi_eql, bi_neq, bi_lss, bi_leq, bi_gtr, bi_geq, unA, ofVal, ofLeaf, resultsA, tupA, AV.rfL, AV.rf, yielded_yv, yv_bool, yv_undef, yv_none, og_n, List.replicate, Option.bind, heapFree, onlyReads, List.set, List.getD, List.getElem?_cons_succ, List.getElem?_cons_zero, Option.getD, Option.map, decide_true, decide_false, if_true, if_false, Bool.false_eq_true, Bool.not_true, Bool.not_false, beq_self_eq_true, Bool.true_and, Bool.and_true, Bool.and_self, Bool.false_and, Bool.and_false, Bool.true_or, Bool.or_true, Bool.false_or, Bool.or_false, Bool.or_self, List.length_cons, List.length_nil, List.cons_append, List.nil_append, ite_self, List.getElem?_toArray, Option.bind_some, Option.bind_none, og_tt, og_ff, og_tf, og_ft, Int.reduceBNe, Int.reduceBEq, Int.reduceLT, Int.reduceLE, e1, fitFrom]
    exact ⟨_, _, _, _, _, _, _, _, _, _, _, _, _, _, _, _, _, _, rfl⟩
  | succ m ih =>
    intro w x3 x4 x5 x9 x10 x11 x12 x13 x14 x15 x16 x17 x18 x19 x20 x21 x22 hw h1
    have e1 : (w : Int) ≤ 32 := by omega
    have w1 : IntKind.i64.wrap ((w : Int) + 1) = ((w + 1 : Nat) : Int) := by rw [wi64 (by omega) (by omega)]; push_cast; rfl
    have hi := inF_run kk w s n (by omega) (by omega) (by omega) hn1 hn2
    cases hf : inF kk w s n with
    | true =>
      rw [oy_loop]
      simp -implicitDefEqProofs only [ox, ou, ko, ky, kn, kd, oy_seq, oy_ret, oy_exit, oy_skip, oy_cond, oy_block, oy_region, oy_draw, dr_eq, dre_some, stl_some, st_nil, st_op, ot, ov, os_same, sy_nil, sy_op, nxt_normal, nxt_ret, nxt_exit, blk_exit, blk_normal, blk_ret, reg_some, cnd_true, cnd_false, opr_some, grd_true, grd_false, fin_ret, fin_normal, finv_some, Region.wanted, opA, callV, aop, evalL, evalO, putE, binA, bi_add, bi_sub, bi_mul, bi_eql, bi_neq, bi_lss, bi_leq, bi_gtr, bi_geq, unA, ofVal, ofLeaf, resultsA, tupA, AV.rfL, AV.rf, yielded_yv, yv_bool, yv_undef, yv_none, og_n, List.replicate, Option.bind, heapFree, onlyReads, List.set, List.getD, List.getElem?_cons_succ, List.getElem?_cons_zero, Option.getD, Option.map, decide_true, decide_false, if_true, if_false, Bool.false_eq_true, Bool.not_true, Bool.not_false, beq_self_eq_true, Bool.true_and, Bool.and_true, Bool.and_self, Bool.false_and, Bool.and_false, Bool.true_or, Bool.or_true, Bool.false_or, Bool.or_false, Bool.or_self, List.length_cons, List.length_nil, List.cons_append, List.nil_append, ite_self, List.getElem?_toArray, Option.bind_some, Option.bind_none, og_tt, og_ff, og_tf, og_ft, Int.reduceBNe, Int.reduceBEq, Int.reduceLT, Int.reduceLE, e1, hi, hf, fitFrom]
      exact ⟨_, _, _, _, _, _, _, _, _, _, _, _, _, _, _, _, _, _, rfl⟩
    | false =>
      rw [oy_loop]
      simp -implicitDefEqProofs only [ox, ou, ko, ky, kn, kd, oy_seq, oy_ret, oy_exit, oy_skip, oy_cond, oy_block, oy_region, oy_draw, dr_eq, dre_some, stl_some, st_nil, st_op, ot, ov, os_same, sy_nil, sy_op, nxt_normal, nxt_ret, nxt_exit, blk_exit, blk_normal, blk_ret, reg_some, cnd_true, cnd_false, opr_some, grd_true, grd_false, fin_ret, fin_normal, finv_some, Region.wanted, opA, callV, aop, evalL, evalO, putE, binA, bi_add, bi_sub, bi_mul, bi_eql, bi_neq, bi_lss, bi_leq, bi_gtr, bi_geq, unA, ofVal, ofLeaf, resultsA, tupA, AV.rfL, AV.rf, yielded_yv, yv_bool, yv_undef, yv_none, og_n, List.replicate, Option.bind, heapFree, onlyReads, List.set, List.getD, List.getElem?_cons_succ, List.getElem?_cons_zero, Option.getD, Option.map, decide_true, decide_false, if_true, if_false, Bool.false_eq_true, Bool.not_true, Bool.not_false, beq_self_eq_true, Bool.true_and, Bool.and_true, Bool.and_self, Bool.false_and, Bool.and_false, Bool.true_or, Bool.or_true, Bool.false_or, Bool.or_false, Bool.or_self, List.length_cons, List.length_nil, List.cons_append, List.nil_append, ite_self, List.getElem?_toArray, Option.bind_some, Option.bind_none, og_tt, og_ff, og_tf, og_ft, Int.reduceBNe, Int.reduceBEq, Int.reduceLT, Int.reduceLE, e1, hi, hf, fitFrom, w1]
      exact ih (w + 1) (by omega) (by omega)
theorem refFit_run (kk s n : Int) (hn1 : -9223372036854775808 ≤ n) (hn2 : n ≤ 9223372036854775807) (lo : Nat) (H : Heap) : callA Try.prog (om Try.prog) lo 19 [.int .u8 kk, .int .i64 s, .int .i64 n] H = some (fitT kk s n, H) := by
  rw [call_eq Try.func19 rfl rfl]
  cases hn : numOk kk 1 s with
  | false =>
    simp -implicitDefEqProofs only [Try.f19]
    simp -implicitDefEqProofs only [ox, ou, ko, ky, kn, kd, oy_seq, oy_ret, oy_exit, oy_skip, oy_cond, oy_block, oy_region, oy_draw, dr_eq, dre_some, stl_some, st_nil, st_op, ot, ov, os_same, sy_nil, sy_op, nxt_normal, nxt_ret, nxt_exit, blk_exit, blk_normal, blk_ret, reg_some, cnd_true, cnd_false, opr_some, grd_true, grd_false, fin_ret, fin_normal, finv_some, Region.wanted, opA, callV, aop, evalL, evalO, putE, binA, bi_add, bi_sub, bi_mul, bi_eql, bi_neq, bi_lss, bi_leq, bi_gtr, bi_geq, unA, ofVal, ofLeaf, resultsA, tupA, AV.rfL, AV.rf, yielded_yv, yv_bool, yv_undef, yv_none, og_n, List.replicate, Option.bind, heapFree, onlyReads, List.set, List.getD, List.getElem?_cons_succ, List.getElem?_cons_zero, Option.getD, Option.map, decide_true, decide_false, if_true, if_false, Bool.false_eq_true, Bool.not_true, Bool.not_false, beq_self_eq_true, Bool.true_and, Bool.and_true, Bool.and_self, Bool.false_and, Bool.and_false, Bool.true_or, Bool.or_true, Bool.false_or, Bool.or_false, Bool.or_self, List.length_cons, List.length_nil, List.cons_append, List.nil_append, ite_self, List.getElem?_toArray, Option.bind_some, Option.bind_none, og_tt, og_ff, og_tf, og_ft, Int.reduceBNe, Int.reduceBEq, Int.reduceLT, Int.reduceLE, number_run, hn, fitT]
  | true =>
    obtain ⟨_, _, _, _, hs, hs2⟩ := numOk_iff.1 hn
    obtain ⟨s, rfl⟩ := Int.eq_ofNat_of_zero_le hs
    have L := fun cx lo H => @refFit_loop cx lo H kk s (by omega) n hn1 hn2 32 1
    simp -implicitDefEqProofs only [loopAt, loopIn, firstC, Try.f19, Option.getD, if_true, c1] at L ⊢
    simp -implicitDefEqProofs only [ox, ou, ko, ky, kn, kd, oy_seq, oy_ret, oy_exit, oy_skip, oy_cond, oy_block, oy_region, oy_draw, dr_eq, dre_some, stl_some, st_nil, st_op, ot, ov, os_same, sy_nil, sy_op, nxt_normal, nxt_ret, nxt_exit, blk_exit, blk_normal, blk_ret, reg_some, cnd_true, cnd_false, opr_some, grd_true, grd_false, fin_ret, fin_normal, finv_some, Region.wanted, opA, callV, aop, evalL, evalO, putE, binA, bi_add, bi_sub, bi_mul, bi_eql, bi_neq, bi_lss, bi_leq, bi_gtr, bi_geq, unA, ofVal, ofLeaf, resultsA, tupA, AV.rfL, AV.rf, yielded_yv, yv_bool, yv_undef, yv_none, og_n, List.replicate, Option.bind, heapFree, onlyReads, List.set, List.getD, List.getElem?_cons_succ, List.getElem?_cons_zero, Option.getD, Option.map, decide_true, decide_false, if_true, if_false, Bool.false_eq_true, Bool.not_true, Bool.not_false, beq_self_eq_true, Bool.true_and, Bool.and_true, Bool.and_self, Bool.false_and, Bool.and_false, Bool.true_or, Bool.or_true, Bool.false_or, Bool.or_false, Bool.or_self, List.length_cons, List.length_nil, List.cons_append, List.nil_append, ite_self, List.getElem?_toArray, Option.bind_some, Option.bind_none, og_tt, og_ff, og_tf, og_ft, Int.reduceBNe, Int.reduceBEq, Int.reduceLT, Int.reduceLE, number_run, hn]
    generalize hr : om Try.prog _ _ (Code.loop _) _ = r
    obtain ⟨y3, y4, y5, y8, y9, y10, y11, y12, y13, y14, y15, y16, y17, y18, y19, y20, y21, y22, rfl⟩ : FitPost kk s n 32 1 H r := by rw [← hr]; exact L _ _ _ (by first | trivial | omega) (by first | trivial | omega)
    clear hr L
    cases hf : fitFrom kk s n 32 1 with
    | some v => simp -implicitDefEqProofs only [ox, ou, ko, ky, kn, kd, oy_seq, oy_ret, oy_exit, oy_skip, oy_cond, oy_block, oy_region, oy_draw, dr_eq, dre_some, stl_some, st_nil, st_op, ot, ov, os_same, sy_nil, sy_op, nxt_normal, nxt_ret, nxt_exit, blk_exit, blk_normal, blk_ret, reg_some, cnd_true, cnd_false, opr_some, grd_true, grd_false, fin_ret, fin_normal, finv_some, Region.wanted, opA, callV, aop, evalL, evalO, putE, binA, bi_add, bi_sub, bi_mul, bi_eql, bi_neq, bi_lss, bi_leq, bi_gtr, bi_geq, unA, ofVal, ofLeaf, resultsA, tupA, AV.rfL, AV.rf, yielded_yv, yv_bool, yv_undef, yv_none, og_n, List.replicate, Option.bind, heapFree, onlyReads, List.set, List.getD, List.getElem?_cons_succ, List.getElem?_cons_zero, Option.getD, Option.map, decide_true, decide_false, if_true, if_false, Bool.false_eq_true, Bool.not_true, Bool.not_false, beq_self_eq_true, Bool.true_and, Bool.and_true, Bool.and_self, Bool.false_and, Bool.and_false, Bool.true_or, Bool.or_true, Bool.false_or, Bool.or_false, Bool.or_self, List.length_cons, List.length_nil, List.cons_append, List.nil_append, ite_self, List.getElem?_toArray, Option.bind_some, Option.bind_none, og_tt, og_ff, og_tf, og_ft, Int.reduceBNe, Int.reduceBEq, Int.reduceLT, Int.reduceLE, fitT, hf, hn, Int.toNat_natCast]
    | none => simp -implicitDefEqProofs only [ox, ou, ko, ky, kn, kd, oy_seq, oy_ret, oy_exit, oy_skip, oy_cond, oy_block, oy_region, oy_draw, dr_eq, dre_some, stl_some, st_nil, st_op, ot, ov, os_same, sy_nil, sy_op, nxt_normal, nxt_ret, nxt_exit, blk_exit, blk_normal, blk_ret, reg_some, cnd_true, cnd_false, opr_some, grd_true, grd_false, fin_ret, fin_normal, finv_some, Region.wanted, opA, callV, aop, evalL, evalO, putE, binA, bi_add, bi_sub, bi_mul, bi_eql, bi_neq, bi_lss, bi_leq, bi_gtr, bi_geq, unA, ofVal, ofLeaf, resultsA, tupA, AV.rfL, AV.rf, yielded_yv, yv_bool, yv_undef, yv_none, og_n, List.replicate, Option.bind, heapFree, onlyReads, List.set, List.getD, List.getElem?_cons_succ, List.getElem?_cons_zero, Option.getD, Option.map, decide_true, decide_false, if_true, if_false, Bool.false_eq_true, Bool.not_true, Bool.not_false, beq_self_eq_true, Bool.true_and, Bool.and_true, Bool.and_self, Bool.false_and, Bool.and_false, Bool.true_or, Bool.or_true, Bool.false_or, Bool.or_false, Bool.or_self, List.length_cons, List.length_nil, List.cons_append, List.nil_append, ite_self, List.getElem?_toArray, Option.bind_some, Option.bind_none, og_tt, og_ff, og_tf, og_ft, Int.reduceBNe, Int.reduceBEq, Int.reduceLT, Int.reduceLE, fitT, hf, hn, Int.toNat_natCast]
end Go.Proofs.Ytlbkcdfllglddaa.fmt
/-! The functions below the Format laws, 4: the program's numbers. Conditions: the bounds in each statement. -/
namespace Go.Proofs.Ytlbkcdfllglddaa.fmt
open Go Go.Ab
set_option maxRecDepth 100000
set_option linter.unusedSimpArgs false
set_option linter.unusedVariables false
attribute [local simp] ox ou ko ky kn kd oy_seq oy_ret oy_exit oy_skip oy_cond oy_block oy_region oy_draw dr_eq dre_some stl_some st_nil st_op ot ov os_same sy_nil sy_op nxt_normal nxt_ret nxt_exit blk_exit blk_normal blk_ret reg_some cnd_true cnd_false opr_some grd_true grd_false fin_ret fin_normal finv_some Region.wanted opA callV aop evalL evalO putE binA bi_add bi_sub bi_mul bi_eql bi_neq bi_lss bi_leq bi_gtr bi_geq unA ofVal ofLeaf resultsA tupA AV.rfL AV.rf yielded_yv yv_bool yv_undef yv_none og_n List.replicate Option.bind heapFree onlyReads
/-- how many bits a number has -/
def blen (x : Nat) : Nat := if x = 0 then 0 else Nat.log2 x + 1
theorem blen_le (x w : Nat) : blen x ≤ w ↔ x < 2 ^ w := by
  unfold blen
  split
  · rename_i h; subst h; exact ⟨fun _ => Nat.two_pow_pos w, fun _ => Nat.zero_le _⟩
  · rename_i h; exact (Nat.log2_lt h)
theorem blen_div {x k : Nat} (h : 2 ^ k ≤ x) : blen x = blen (x / 2 ^ k) + k := by
  have e : ∀ w, blen x ≤ w ↔ blen (x / 2 ^ k) + k ≤ w := by
    intro w
    rw [blen_le]
    by_cases hk : k ≤ w
    · have := blen_le (x / 2 ^ k) (w - k)
      have h2 : x / 2 ^ k < 2 ^ (w - k) ↔ x < 2 ^ w := by
        rw [Nat.div_lt_iff_lt_mul (Nat.two_pow_pos k), ← Nat.pow_add, Nat.sub_add_cancel hk]
      omega
    · have := two_pow_le (show w ≤ k by omega)
      omega
  have h1 := (e (blen x)).1 (Nat.le_refl _)
  have h2 := (e (blen (x / 2 ^ k) + k)).2 (Nat.le_refl _)
  omega
def strOf (ops : Array Oper) (i : Nat) : ByteArray := match ops[i]? with
  | some o => match o.op with | .index _ (.const (.string s)) _ => s | _ => ByteArray.empty
  | none => ByteArray.empty
theorem tab_len : (strOf (regAt Try.f37 10) 3).data.toList = (List.range 256).map fun v => UInt8.ofNat (blen v) := by decide +kernel
theorem tab_get (v : Nat) (h : v < 256) : (strOf (regAt Try.f37 10) 3).data.toList[v]? = some (UInt8.ofNat (blen v)) := by
  rw [tab_len, List.getElem?_map, List.getElem?_range h]; rfl
theorem blen_lt9 {v : Nat} (h : v < 256) : blen v ≤ 8 := (blen_le v 8).2 h
theorem len64_run (x : Nat) (hx : x < 2 ^ 64) (lo : Nat) (H : Heap) : callA Try.prog (om Try.prog) lo 37 [.int .u64 x] H = some (.int .i64 (blen x), H) := by
  have step : ∀ (y k c : Nat), y < 2 ^ (2 * k) → 1 ≤ k → k ≤ 32 → c ≤ 64 →
      blen y + c = blen (if 2 ^ k ≤ y then y / 2 ^ k else y) + (if 2 ^ k ≤ y then c + k else c) ∧ (if 2 ^ k ≤ y then y / 2 ^ k else y) < 2 ^ k := by
    intro y k c hy h1 h2 h3
    split
    · rename_i h
      refine ⟨by rw [blen_div h]; omega, ?_⟩
      rw [Nat.div_lt_iff_lt_mul (Nat.two_pow_pos k), ← Nat.pow_add]
      rwa [show k + k = 2 * k by omega]
    · exact ⟨rfl, by omega⟩
  obtain ⟨a1, a2⟩ := step x 32 0 hx (by decide) (by decide) (by decide)
  generalize hy1 : (if 2 ^ 32 ≤ x then x / 2 ^ 32 else x) = y1 at a1 a2
  generalize hc1 : (if 2 ^ 32 ≤ x then 0 + 32 else 0) = c1 at a1
  have hc1b : c1 ≤ 32 := by rw [← hc1]; split <;> omega
  obtain ⟨b1, b2⟩ := step y1 16 c1 a2 (by decide) (by decide) (by omega)
  generalize hy2 : (if 2 ^ 16 ≤ y1 then y1 / 2 ^ 16 else y1) = y2 at b1 b2
  generalize hc2 : (if 2 ^ 16 ≤ y1 then c1 + 16 else c1) = c2 at b1
  have hc2b : c2 ≤ 48 := by rw [← hc2]; split <;> omega
  obtain ⟨d1, d2⟩ := step y2 8 c2 b2 (by decide) (by decide) (by omega)
  generalize hy3 : (if 2 ^ 8 ≤ y2 then y2 / 2 ^ 8 else y2) = y3 at d1 d2
  generalize hc3 : (if 2 ^ 8 ≤ y2 then c2 + 8 else c2) = c3 at d1
  have hc3b : c3 ≤ 56 := by rw [← hc3]; split <;> omega
  have hb3 := blen_lt9 d2
  have ht := tab_get y3 d2
  have s1 : shiftA .shr .u64 (x : Int) 32 = some (.int .u64 ((x / 2 ^ 32 : Nat) : Int)) := u64_shr (y := 32) (by decide)
  have s2 : shiftA .shr .u64 (y1 : Int) 16 = some (.int .u64 ((y1 / 2 ^ 16 : Nat) : Int)) := u64_shr (y := 16) (by decide)
  have s3 : shiftA .shr .u64 (y2 : Int) 8 = some (.int .u64 ((y2 / 2 ^ 8 : Nat) : Int)) := u64_shr (y := 8) (by decide)
  have k1 : IntKind.u8.wrap (y3 : Int) = (y3 : Int) := by simp [IntKind.wrap, IntKind.bits, IntKind.signed]; omega
  have k2 : (UInt8.ofNat (blen y3)).toNat = blen y3 := by simp; omega
  have k3 : IntKind.i64.wrap ((blen y3 : Nat) : Int) = ((blen y3 : Nat) : Int) := wi64 (by omega) (by omega)
  have k4 : IntKind.i64.wrap ((c3 : Int) + ((blen y3 : Nat) : Int)) = ((blen x : Nat) : Int) := by rw [wi64 (by omega) (by omega)]; omega
  have k5 : IntKind.i64.wrap ((c1 : Int) + 16) = ((c1 + 16 : Nat) : Int) := by rw [wi64 (by omega) (by omega)]; push_cast; rfl
  have k6 : IntKind.i64.wrap ((c2 : Int) + 8) = ((c2 + 8 : Nat) : Int) := by rw [wi64 (by omega) (by omega)]; push_cast; rfl
  have k0 : (0 : Int) ≤ (y3 : Int) := by omega
  rw [call_eq Try.func37 rfl rfl]
  simp -implicitDefEqProofs +decide only [regAt, regIn, strOf, Try.f37, Option.getD, if_true, if_false, List.getElem?_toArray, List.getElem?_cons_succ, List.getElem?_cons_zero] at ht
  simp -implicitDefEqProofs only [Try.f37]
  by_cases h1 : 2 ^ 32 ≤ x
  all_goals by_cases h2 : 2 ^ 16 ≤ y1
  all_goals by_cases h3 : 2 ^ 8 ≤ y2
  all_goals
    simp only [h1, h2, h3, if_true, if_false] at hy1 hy2 hy3 hc1 hc2 hc3
    first | have g1 : decide ((4294967296 : Int) ≤ (x : Int)) = true := decide_eq_true (by omega) | have g1 : decide ((4294967296 : Int) ≤ (x : Int)) = false := decide_eq_false (by omega)
    first | have g2 : decide ((65536 : Int) ≤ (y1 : Int)) = true := decide_eq_true (by omega) | have g2 : decide ((65536 : Int) ≤ (y1 : Int)) = false := decide_eq_false (by omega)
    first | have g3 : decide ((256 : Int) ≤ (y2 : Int)) = true := decide_eq_true (by omega) | have g3 : decide ((256 : Int) ≤ (y2 : Int)) = false := decide_eq_false (by omega)
    have k7 : ∀ c : Int, c = c3 → IntKind.i64.wrap (c + ((blen y3 : Nat) : Int)) = ((blen x : Nat) : Int) := fun c h => by rw [h]; exact k4
    have q1 : IntKind.i64.wrap ((0 : Int) + 16) = 16 := by decide
    have q2 : IntKind.i64.wrap ((0 : Int) + 8) = 8 := by decide
    have q3 : IntKind.i64.wrap ((32 : Int) + 16) = 48 := by decide
    have q4 : IntKind.i64.wrap ((32 : Int) + 8) = 40 := by decide
    have q5 : IntKind.i64.wrap ((16 : Int) + 8) = 24 := by decide
    have q6 : IntKind.i64.wrap ((48 : Int) + 8) = 56 := by decide
    have r : ∃ c : Int, c = c3 ∧ (c = 0 ∨ c = 8 ∨ c = 16 ∨ c = 24 ∨ c = 32 ∨ c = 40 ∨ c = 48 ∨ c = 56) := ⟨c3, rfl, by omega⟩
    clear k4 k5 k6
    first | (obtain rfl : x = y1 := hy1) | rw [hy1] at s1
    first | (obtain rfl : y1 = y2 := hy2) | (obtain rfl : x = y2 := hy2) | rw [hy2] at s2
    first | (obtain rfl : y2 = y3 := hy3) | (obtain rfl : y1 = y3 := hy3) | (obtain rfl : x = y3 := hy3) | rw [hy3] at s3
    simp -implicitDefEqProofs only [ox, ou, ko, ky, kn, kd, oy_seq, oy_ret, oy_exit, oy_skip, oy_cond, oy_block, oy_region, oy_draw, dr_eq, dre_some, stl_some, st_nil, st_op, ot, ov, os_same, sy_nil, sy_op, nxt_normal, nxt_ret, nxt_exit, blk_exit, blk_normal, blk_ret, reg_some, cnd_true, cnd_false, opr_some, grd_true, grd_false, fin_ret, fin_normal, finv_some, Region.wanted, opA, callV, aop, evalL, evalO, putE, binA, bi_add, bi_sub, bi_mul, bi_eql, bi_neq, bi_lss, bi_leq, bi_gtr, bi_geq, unA, ofVal, ofLeaf, resultsA, tupA, AV.rfL, AV.rf, yielded_yv, yv_bool, yv_undef, yv_none, og_n, List.replicate, Option.bind, heapFree, onlyReads, List.set, List.getD, List.getElem?_cons_succ, List.getElem?_cons_zero, Option.getD, Option.map, decide_true, decide_false, if_true, if_false, Bool.false_eq_true, Bool.not_true, Bool.not_false, beq_self_eq_true, Bool.true_and, Bool.and_true, Bool.and_self, Bool.false_and, Bool.and_false, Bool.true_or, Bool.or_true, Bool.false_or, Bool.or_false, Bool.or_self, List.length_cons, List.length_nil, List.cons_append, List.nil_append, ite_self, List.getElem?_toArray, Option.bind_some, Option.bind_none, og_tt, og_ff, og_tf, og_ft, Int.reduceBNe, Int.reduceBEq, Int.reduceLT, Int.reduceLE, g1, g2, g3, s1, s2, s3, q1, q2, q3, q4, q5, q6, convertA, Try.underlying22, Try.underlying5, Try.underlying3, Try.underlying9, k1, indexA, k0, Int.toNat_natCast, ht, k2, k3]
    rw [k7 _ (by omega)]
end Go.Proofs.Ytlbkcdfllglddaa.fmt
/-! The functions below the Format laws, 5: the program's Range, Field, Number, Fit. Conditions: the bounds in each statement. -/
namespace Go.Proofs.Ytlbkcdfllglddaa.fmt
open Go Go.Ab
set_option maxRecDepth 100000
set_option linter.unusedSimpArgs false
set_option linter.unusedVariables false
attribute [local simp] ox ou ko ky kn kd oy_seq oy_ret oy_exit oy_skip oy_cond oy_block oy_region oy_draw dr_eq dre_some stl_some st_nil st_op ot ov os_same sy_nil sy_op nxt_normal nxt_ret nxt_exit blk_exit blk_normal blk_ret reg_some cnd_true cnd_false opr_some grd_true grd_false fin_ret fin_normal finv_some Region.wanted opA callV aop evalL evalO putE binA bi_add bi_sub bi_mul bi_eql bi_neq bi_lss bi_leq bi_gtr bi_geq unA ofVal ofLeaf resultsA tupA AV.rfL AV.rf yielded_yv yv_bool yv_undef yv_none og_n List.replicate Option.bind heapFree onlyReads
theorem fits_run (x : Nat) (hx : x < 2 ^ 64) (w : Nat) (lo : Nat) (H : Heap) : callA Try.prog (om Try.prog) lo 35 [.int .u64 x, .int .i64 w] H = some (.bool (decide (x < 2 ^ w)), H) := by
  rw [call_eq Try.func35 rfl rfl]
  simp -implicitDefEqProofs only [Try.f35]
  have e : decide ((blen x : Int) ≤ (w : Int)) = decide (x < 2 ^ w) := by rw [decide_eq_decide, ← blen_le]; omega
  simp -implicitDefEqProofs only [ox, ou, ko, ky, kn, kd, oy_seq, oy_ret, oy_exit, oy_skip, oy_cond, oy_block, oy_region, oy_draw, dr_eq, dre_some, stl_some, st_nil, st_op, ot, ov, os_same, sy_nil, sy_op, nxt_normal, nxt_ret, nxt_exit, blk_exit, blk_normal, blk_ret, reg_some, cnd_true, cnd_false, opr_some, grd_true, grd_false, fin_ret, fin_normal, finv_some, Region.wanted, opA, callV, aop, evalL, evalO, putE, binA, bi_add, bi_sub, bi_mul, bi_eql, bi_neq, bi_lss, bi_leq, bi_gtr, bi_geq, unA, ofVal, ofLeaf, resultsA, tupA, AV.rfL, AV.rf, yielded_yv, yv_bool, yv_undef, yv_none, og_n, List.replicate, Option.bind, heapFree, onlyReads, List.set, List.getD, List.getElem?_cons_succ, List.getElem?_cons_zero, Option.getD, Option.map, decide_true, decide_false, if_true, if_false, Bool.false_eq_true, Bool.not_true, Bool.not_false, beq_self_eq_true, Bool.true_and, Bool.and_true, Bool.and_self, Bool.false_and, Bool.and_false, Bool.true_or, Bool.or_true, Bool.false_or, Bool.or_false, Bool.or_self, List.length_cons, List.length_nil, List.cons_append, List.nil_append, ite_self, List.getElem?_toArray, Option.bind_some, Option.bind_none, og_tt, og_ff, og_tf, og_ft, Int.reduceBNe, Int.reduceBEq, Int.reduceLT, Int.reduceLE, len64_run x hx, e]
theorem bmask_run (w : Nat) (h1 : 1 ≤ w) (h2 : w ≤ 64) (lo : Nat) (H : Heap) : callA Try.prog (om Try.prog) lo 33 [.int .i64 w] H = some (.int .u64 ((2 ^ w - 1 : Nat) : Int), H) := by
  rw [call_eq Try.func33 rfl rfl]
  simp -implicitDefEqProofs only [Try.f33]
  have g : (decide ((1 : Int) ≤ w) && decide ((w : Int) ≤ 64)) = true := by simp; omega
  have w1 : IntKind.i64.wrap (64 - (w : Int)) = ((64 - w : Nat) : Int) := by rw [wi64 (by omega) (by omega)]; omega
  have hp : (2 : Nat) ^ 64 = 2 ^ w * 2 ^ (64 - w) := by rw [← Nat.pow_add]; congr 1; omega
  have s : shiftA .shr .u64 18446744073709551615 ((64 - w : Nat) : Int) = some (.int .u64 ((2 ^ w - 1 : Nat) : Int)) := by
    have := u64_shr (a := 18446744073709551615) (y := 64 - w) (by omega)
    rw [show ((18446744073709551615 : Nat) : Int) = 18446744073709551615 from rfl] at this
    rw [this]
    have e : 18446744073709551615 / 2 ^ (64 - w) = 2 ^ w - 1 := by
      have h3 := Nat.two_pow_pos (64 - w)
      have h4 := Nat.two_pow_pos w
      have h5 : 18446744073709551615 = 2 ^ 64 - 1 := by decide
      rw [h5, hp]
      apply Nat.div_eq_of_lt_le
      · rw [Nat.sub_mul]; omega
      · rw [Nat.sub_add_cancel h4]; have := Nat.mul_pos h4 h3; omega
    rw [e]
  simp -implicitDefEqProofs only [ox, ou, ko, ky, kn, kd, oy_seq, oy_ret, oy_exit, oy_skip, oy_cond, oy_block, oy_region, oy_draw, dr_eq, dre_some, stl_some, st_nil, st_op, ot, ov, os_same, sy_nil, sy_op, nxt_normal, nxt_ret, nxt_exit, blk_exit, blk_normal, blk_ret, reg_some, cnd_true, cnd_false, opr_some, grd_true, grd_false, fin_ret, fin_normal, finv_some, Region.wanted, opA, callV, aop, evalL, evalO, putE, binA, bi_add, bi_sub, bi_mul, bi_eql, bi_neq, bi_lss, bi_leq, bi_gtr, bi_geq, unA, ofVal, ofLeaf, resultsA, tupA, AV.rfL, AV.rf, yielded_yv, yv_bool, yv_undef, yv_none, og_n, List.replicate, Option.bind, heapFree, onlyReads, List.set, List.getD, List.getElem?_cons_succ, List.getElem?_cons_zero, Option.getD, Option.map, decide_true, decide_false, if_true, if_false, Bool.false_eq_true, Bool.not_true, Bool.not_false, beq_self_eq_true, Bool.true_and, Bool.and_true, Bool.and_self, Bool.false_and, Bool.and_false, Bool.true_or, Bool.or_true, Bool.false_or, Bool.or_false, Bool.or_self, List.length_cons, List.length_nil, List.cons_append, List.nil_append, ite_self, List.getElem?_toArray, Option.bind_some, Option.bind_none, og_tt, og_ff, og_tf, og_ft, Int.reduceBNe, Int.reduceBEq, Int.reduceLT, Int.reduceLE, wide_run, g, w1, s]
theorem within_run (a b x : Int) (t : TypeId) (blk : Nat) (lo : Nat) (H : Heap) (hH : H.get blk = some (.cells t [.int .i64 x])) :
    callA Try.prog (om Try.prog) lo 29 [.int .i64 a, .int .i64 b, .sl blk 0 1 1] H = some (.bool (decide (a ≤ x) && decide (x ≤ b)), H) := by
  rw [call_eq Try.func29 rfl rfl]
  simp -implicitDefEqProofs only [Try.f29]
  have w1 : IntKind.i64.wrap (1 : Int) = 1 := by decide
  by_cases h1 : a ≤ x
  · have e1 : ¬ x < a := by omega
    by_cases h2 : x ≤ b
    · have e2 : ¬ b < x := by omega
      simp -implicitDefEqProofs [h1, e1, h2, e2, w1, lenTA, indexAddrA, loadA, cellsAt, sz3, ag3, hH, Try.underlying65, oy_loop]
    · have e2 : b < x := by omega
      simp -implicitDefEqProofs [h1, e1, h2, e2, w1, lenTA, indexAddrA, loadA, cellsAt, sz3, ag3, hH, Try.underlying65, oy_loop]
  · have e1 : x < a := by omega
    simp -implicitDefEqProofs [h1, e1, w1, lenTA, indexAddrA, loadA, cellsAt, sz3, ag3, hH, Try.underlying65, oy_loop]
theorem within_push (a b x : Int) (t : TypeId) (lo : Nat) (H : Heap) :
    callA Try.prog (om Try.prog) lo 29 [.int .i64 a, .int .i64 b, .sl H.next 0 1 1] (H.push (.cells t [.int .i64 x])) = some (.bool (decide (a ≤ x) && decide (x ≤ b)), H.push (.cells t [.int .i64 x])) :=
  within_run a b x t _ lo _ (by rw [Heap.get_push, if_pos rfl])
theorem build1 (x : Int) (H : Heap) : buildSliceA Try.prog H 65 1 [(0, .int .i64 x)] = some (.sl H.next 0 1 1, H.push (.cells 3 [.int .i64 x])) := by
  simp -implicitDefEqProofs [buildSliceA, Try.underlying65, sz3, ze3, fillA, zerosA, setRange, leafs, leafA, AV.cells]
theorem range_run (kk w s : Int) (hk0 : 0 ≤ kk) (hk : kk ≤ 255) (lo : Nat) (H : Heap) : callA Try.prog (om Try.prog) lo 12 [.int .u8 kk, .int .i64 w, .int .i64 s] H = some (rngT kk w s, H) := by
  have d7 := dr12_7
  rw [call_eq Try.func12 rfl rfl]
  simp -implicitDefEqProofs +decide only [regAt, regIn, Option.getD, Try.f12, if_true, if_false] at d7
  simp -implicitDefEqProofs only [Try.f12]
  have w0 : IntKind.i64.wrap kk = kk := wi64 (by omega) (by omega)
  cases hn : numOk kk w s with
  | false =>
    have hT : rngT kk w s = .tup [.int .i64 0, .int .i64 0, .int .i64 2] := by simp [rngT, hn]
    rw [hT]
    unfold numOk at hn
    generalize hb1 : (decide (2 ≤ kk) && decide (kk ≤ 4)) = b1 at hn
    generalize hb2 : (decide (1 ≤ w) && decide (w ≤ 32)) = b2 at hn
    generalize hb3 : (decide (0 ≤ s) && decide (s ≤ 3)) = b3 at hn
    cases b1 with
    | false => simp -implicitDefEqProofs only [ox, ou, ko, ky, kn, kd, oy_seq, oy_ret, oy_exit, oy_skip, oy_cond, oy_block, oy_region, oy_draw, dr_eq, dre_some, stl_some, st_nil, st_op, ot, ov, os_same, sy_nil, sy_op, nxt_normal, nxt_ret, nxt_exit, blk_exit, blk_normal, blk_ret, reg_some, cnd_true, cnd_false, opr_some, grd_true, grd_false, fin_ret, fin_normal, finv_some, Region.wanted, opA, callV, aop, evalL, evalO, putE, binA, bi_add, bi_sub, bi_mul, bi_eql, bi_neq, bi_lss, bi_leq, bi_gtr, bi_geq, unA, ofVal, ofLeaf, resultsA, tupA, AV.rfL, AV.rf, yielded_yv, yv_bool, yv_undef, yv_none, og_n, List.replicate, Option.bind, heapFree, onlyReads, List.set, List.getD, List.getElem?_cons_succ, List.getElem?_cons_zero, Option.getD, Option.map, decide_true, decide_false, if_true, if_false, Bool.false_eq_true, Bool.not_true, Bool.not_false, beq_self_eq_true, Bool.true_and, Bool.and_true, Bool.and_self, Bool.false_and, Bool.and_false, Bool.true_or, Bool.or_true, Bool.false_or, Bool.or_false, Bool.or_self, List.length_cons, List.length_nil, List.cons_append, List.nil_append, ite_self, List.getElem?_toArray, Option.bind_some, Option.bind_none, og_tt, og_ff, og_tf, og_ft, Int.reduceBNe, Int.reduceBEq, Int.reduceLT, Int.reduceLE, evalParts, build1, within_push, w0, hb1, hb2, hb3, convertA, Try.underlying3, Try.underlying5]
    | true => cases b2 with
      | false => simp -implicitDefEqProofs only [ox, ou, ko, ky, kn, kd, oy_seq, oy_ret, oy_exit, oy_skip, oy_cond, oy_block, oy_region, oy_draw, dr_eq, dre_some, stl_some, st_nil, st_op, ot, ov, os_same, sy_nil, sy_op, nxt_normal, nxt_ret, nxt_exit, blk_exit, blk_normal, blk_ret, reg_some, cnd_true, cnd_false, opr_some, grd_true, grd_false, fin_ret, fin_normal, finv_some, Region.wanted, opA, callV, aop, evalL, evalO, putE, binA, bi_add, bi_sub, bi_mul, bi_eql, bi_neq, bi_lss, bi_leq, bi_gtr, bi_geq, unA, ofVal, ofLeaf, resultsA, tupA, AV.rfL, AV.rf, yielded_yv, yv_bool, yv_undef, yv_none, og_n, List.replicate, Option.bind, heapFree, onlyReads, List.set, List.getD, List.getElem?_cons_succ, List.getElem?_cons_zero, Option.getD, Option.map, decide_true, decide_false, if_true, if_false, Bool.false_eq_true, Bool.not_true, Bool.not_false, beq_self_eq_true, Bool.true_and, Bool.and_true, Bool.and_self, Bool.false_and, Bool.and_false, Bool.true_or, Bool.or_true, Bool.false_or, Bool.or_false, Bool.or_self, List.length_cons, List.length_nil, List.cons_append, List.nil_append, ite_self, List.getElem?_toArray, Option.bind_some, Option.bind_none, og_tt, og_ff, og_tf, og_ft, Int.reduceBNe, Int.reduceBEq, Int.reduceLT, Int.reduceLE, evalParts, build1, within_push, w0, hb1, hb2, hb3, convertA, Try.underlying3, Try.underlying5]
      | true => cases b3 with
        | false => simp -implicitDefEqProofs only [ox, ou, ko, ky, kn, kd, oy_seq, oy_ret, oy_exit, oy_skip, oy_cond, oy_block, oy_region, oy_draw, dr_eq, dre_some, stl_some, st_nil, st_op, ot, ov, os_same, sy_nil, sy_op, nxt_normal, nxt_ret, nxt_exit, blk_exit, blk_normal, blk_ret, reg_some, cnd_true, cnd_false, opr_some, grd_true, grd_false, fin_ret, fin_normal, finv_some, Region.wanted, opA, callV, aop, evalL, evalO, putE, binA, bi_add, bi_sub, bi_mul, bi_eql, bi_neq, bi_lss, bi_leq, bi_gtr, bi_geq, unA, ofVal, ofLeaf, resultsA, tupA, AV.rfL, AV.rf, yielded_yv, yv_bool, yv_undef, yv_none, og_n, List.replicate, Option.bind, heapFree, onlyReads, List.set, List.getD, List.getElem?_cons_succ, List.getElem?_cons_zero, Option.getD, Option.map, decide_true, decide_false, if_true, if_false, Bool.false_eq_true, Bool.not_true, Bool.not_false, beq_self_eq_true, Bool.true_and, Bool.and_true, Bool.and_self, Bool.false_and, Bool.and_false, Bool.true_or, Bool.or_true, Bool.false_or, Bool.or_false, Bool.or_self, List.length_cons, List.length_nil, List.cons_append, List.nil_append, ite_self, List.getElem?_toArray, Option.bind_some, Option.bind_none, og_tt, og_ff, og_tf, og_ft, Int.reduceBNe, Int.reduceBEq, Int.reduceLT, Int.reduceLE, evalParts, build1, within_push, w0, hb1, hb2, hb3, convertA, Try.underlying3, Try.underlying5]
        | true => cases hn
  | true =>
    obtain ⟨k1, k2, hw, hw2, hs, hs2⟩ := numOk_iff.1 hn
    have hb1 : (decide (2 ≤ kk) && decide (kk ≤ 4)) = true := by simp [k1, k2]
    have hb2 : (decide (1 ≤ w) && decide (w ≤ 32)) = true := by simp [hw, hw2]
    have hb3 : (decide (0 ≤ s) && decide (s ≤ 3)) = true := by simp [hs, hs2]
    obtain ⟨w, rfl⟩ := Int.eq_ofNat_of_zero_le (show 0 ≤ w by omega)
    obtain ⟨s, rfl⟩ := Int.eq_ofNat_of_zero_le hs
    have be := ends_bd kk (show w ≤ 32 by omega)
    have bw := pw_bd (show w ≤ 32 by omega)
    have hs3 : s = 0 ∨ s = 1 ∨ s = 2 ∨ s = 3 := by omega
    have hpw : (2 : Nat) ^ w = 2 * 2 ^ (w - 1) := by rw [← Nat.pow_succ']; congr 1; omega
    have x1 : shiftA .shl .i64 1 (w : Int) = some (.int .i64 ((2 ^ w : Nat) : Int)) := by
      have e : (1 : Int) * 2 ^ w = ((2 ^ w : Nat) : Int) := by simp
      rw [i64_shl (by omega) (by rw [e]; omega) (by rw [e]; omega), e]
    have x2 : IntKind.i64.wrap (((2 ^ w : Nat) : Int) - 1) = ((2 ^ w : Nat) : Int) - 1 := wi64 (by omega) (by omega)
    have xs : ∀ z : Int, -2147483648 ≤ z → z ≤ 4294967295 → shiftA .shl .i64 z (s : Int) = some (.int .i64 (pow s * z)) := by
      intro z h1 h2
      rw [i64_shl (by omega) (by rcases hs3 with rfl | rfl | rfl | rfl <;> omega) (by rcases hs3 with rfl | rfl | rfl | rfl <;> omega), Int.mul_comm]
      simp [pow]
    have y1 := xs (nLow kk w) (by omega) (by omega)
    have y2 := xs (nHigh kk w) (by omega) (by omega)
    by_cases hk3 : kk = 3
    · have e1 : nLow kk w = 0 := by simp [nLow, hk3]
      have e2 : nHigh kk w = ((2 ^ w : Nat) : Int) - 1 := by simp [nHigh, hk3]
      have n3 : (kk != 3) = false := by simp [hk3]
      rw [e1] at y1
      rw [e2] at y2
      simp -implicitDefEqProofs only [ox, ou, ko, ky, kn, kd, oy_seq, oy_ret, oy_exit, oy_skip, oy_cond, oy_block, oy_region, oy_draw, dr_eq, dre_some, stl_some, st_nil, st_op, ot, ov, os_same, sy_nil, sy_op, nxt_normal, nxt_ret, nxt_exit, blk_exit, blk_normal, blk_ret, reg_some, cnd_true, cnd_false, opr_some, grd_true, grd_false, fin_ret, fin_normal, finv_some, Region.wanted, opA, callV, aop, evalL, evalO, putE, binA, bi_add, bi_sub, bi_mul, bi_eql, bi_neq, bi_lss, bi_leq, bi_gtr, bi_geq, unA, ofVal, ofLeaf, resultsA, tupA, AV.rfL, AV.rf, yielded_yv, yv_bool, yv_undef, yv_none, og_n, List.replicate, Option.bind, heapFree, onlyReads, List.set, List.getD, List.getElem?_cons_succ, List.getElem?_cons_zero, Option.getD, Option.map, decide_true, decide_false, if_true, if_false, Bool.false_eq_true, Bool.not_true, Bool.not_false, beq_self_eq_true, Bool.true_and, Bool.and_true, Bool.and_self, Bool.false_and, Bool.and_false, Bool.true_or, Bool.or_true, Bool.false_or, Bool.or_false, Bool.or_self, List.length_cons, List.length_nil, List.cons_append, List.nil_append, ite_self, List.getElem?_toArray, Option.bind_some, Option.bind_none, og_tt, og_ff, og_tf, og_ft, Int.reduceBNe, Int.reduceBEq, Int.reduceLT, Int.reduceLE, evalParts, build1, within_push, w0, hb1, hb2, hb3, convertA, Try.underlying3, Try.underlying5, x1, x2, n3, d7, y1, y2, List.take, List.drop, rngT, hn, e1, e2, Int.toNat_natCast]
    · have e1 : nLow kk w = -((2 ^ (w - 1) : Nat) : Int) := by simp [nLow, hk3]
      have e2 : nHigh kk w = ((2 ^ (w - 1) : Nat) : Int) - 1 := by simp [nHigh, hk3]
      have n3 : (kk != 3) = true := by simp [hk3]
      have x3 : shiftA .shr .i64 (((2 ^ w : Nat) : Int) - 1) 1 = some (.int .i64 (nHigh kk w)) := by
        have := i64_shr (a := ((2 ^ w : Nat) : Int) - 1) (y := 1) (by decide)
        rw [show ((1 : Nat) : Int) = 1 from rfl] at this
        rw [this, e2]
        congr 2; omega
      have x4 : IntKind.i64.wrap (0 - nHigh kk w) = - nHigh kk w := by rw [wi64 (by omega) (by omega)]; omega
      have x5 : IntKind.i64.wrap (- nHigh kk w - 1) = nLow kk w := by rw [wi64 (by omega) (by omega)]; omega
      simp -implicitDefEqProofs only [ox, ou, ko, ky, kn, kd, oy_seq, oy_ret, oy_exit, oy_skip, oy_cond, oy_block, oy_region, oy_draw, dr_eq, dre_some, stl_some, st_nil, st_op, ot, ov, os_same, sy_nil, sy_op, nxt_normal, nxt_ret, nxt_exit, blk_exit, blk_normal, blk_ret, reg_some, cnd_true, cnd_false, opr_some, grd_true, grd_false, fin_ret, fin_normal, finv_some, Region.wanted, opA, callV, aop, evalL, evalO, putE, binA, bi_add, bi_sub, bi_mul, bi_eql, bi_neq, bi_lss, bi_leq, bi_gtr, bi_geq, unA, ofVal, ofLeaf, resultsA, tupA, AV.rfL, AV.rf, yielded_yv, yv_bool, yv_undef, yv_none, og_n, List.replicate, Option.bind, heapFree, onlyReads, List.set, List.getD, List.getElem?_cons_succ, List.getElem?_cons_zero, Option.getD, Option.map, decide_true, decide_false, if_true, if_false, Bool.false_eq_true, Bool.not_true, Bool.not_false, beq_self_eq_true, Bool.true_and, Bool.and_true, Bool.and_self, Bool.false_and, Bool.and_false, Bool.true_or, Bool.or_true, Bool.false_or, Bool.or_false, Bool.or_self, List.length_cons, List.length_nil, List.cons_append, List.nil_append, ite_self, List.getElem?_toArray, Option.bind_some, Option.bind_none, og_tt, og_ff, og_tf, og_ft, Int.reduceBNe, Int.reduceBEq, Int.reduceLT, Int.reduceLE, evalParts, build1, within_push, w0, hb1, hb2, hb3, convertA, Try.underlying3, Try.underlying5, x1, x2, n3, x3, x4, x5, d7, y1, y2, List.take, List.drop, rngT, hn, Int.toNat_natCast]
theorem field_run (kk w s n : Int) (hk0 : 0 ≤ kk) (hk : kk ≤ 255) (hn1 : -9223372036854775808 ≤ n) (hn2 : n ≤ 9223372036854775807) (lo : Nat) (H : Heap) :
    callA Try.prog (om Try.prog) lo 14 [.int .u8 kk, .int .i64 w, .int .i64 s, .int .i64 n] H = some (fldT kk w s n, H) := by
  have d6 := dr14_6
  rw [call_eq Try.func14 rfl rfl]
  simp -implicitDefEqProofs +decide only [regAt, regIn, Option.getD, Try.f14, if_true, if_false] at d6
  simp -implicitDefEqProofs only [Try.f14]
  have hr := range_run kk w s hk0 hk
  unfold rngT at hr
  cases hn : numOk kk w s with
  | false =>
    simp only [hn, Bool.false_eq_true, if_false] at hr
    simp -implicitDefEqProofs only [ox, ou, ko, ky, kn, kd, oy_seq, oy_ret, oy_exit, oy_skip, oy_cond, oy_block, oy_region, oy_draw, dr_eq, dre_some, stl_some, st_nil, st_op, ot, ov, os_same, sy_nil, sy_op, nxt_normal, nxt_ret, nxt_exit, blk_exit, blk_normal, blk_ret, reg_some, cnd_true, cnd_false, opr_some, grd_true, grd_false, fin_ret, fin_normal, finv_some, Region.wanted, opA, callV, aop, evalL, evalO, putE, binA, bi_add, bi_sub, bi_mul, bi_eql, bi_neq, bi_lss, bi_leq, bi_gtr, bi_geq, unA, ofVal, ofLeaf, resultsA, tupA, AV.rfL, AV.rf, yielded_yv, yv_bool, yv_undef, yv_none, og_n, List.replicate, Option.bind, heapFree, onlyReads, List.set, List.getD, List.getElem?_cons_succ, List.getElem?_cons_zero, Option.getD, Option.map, decide_true, decide_false, if_true, if_false, Bool.false_eq_true, Bool.not_true, Bool.not_false, beq_self_eq_true, Bool.true_and, Bool.and_true, Bool.and_self, Bool.false_and, Bool.and_false, Bool.true_or, Bool.or_true, Bool.false_or, Bool.or_false, Bool.or_self, List.length_cons, List.length_nil, List.cons_append, List.nil_append, ite_self, List.getElem?_toArray, Option.bind_some, Option.bind_none, og_tt, og_ff, og_tf, og_ft, Int.reduceBNe, Int.reduceBEq, Int.reduceLT, Int.reduceLE, hr, fldT, hn, List.getElem?_cons_succ, List.getElem?_cons_zero]
  | true =>
    simp only [hn, if_true] at hr
    obtain ⟨k1, k2, hw, hw2, hs, hs2⟩ := numOk_iff.1 hn
    obtain ⟨w, rfl⟩ := Int.eq_ofNat_of_zero_le (show 0 ≤ w by omega)
    obtain ⟨s, rfl⟩ := Int.eq_ofNat_of_zero_le hs
    simp only [Int.toNat_natCast] at hr
    have be := ends_bd kk (show w ≤ 32 by omega)
    have bw := pw_bd (show w ≤ 32 by omega)
    have bs := pw_bd (show s ≤ 3 by omega)
    have hs3 : s = 0 ∨ s = 1 ∨ s = 2 ∨ s = 3 := by omega
    obtain ⟨k, hk⟩ : ∃ k, k = n / pow s := ⟨_, rfl⟩
    obtain ⟨r, hr0⟩ : ∃ r, r = n % pow s := ⟨_, rfl⟩
    have hnk : n = pow s * k + r ∧ 0 ≤ r ∧ r < pow s := by
      have h1 := Int.mul_ediv_add_emod n (pow s)
      have h2 : pow s ≠ 0 := by unfold pow; omega
      have h3 := Int.emod_nonneg n h2
      have h4 := Int.emod_lt_of_pos n (show 0 < pow s by unfold pow; omega)
      rw [← hk, ← hr0] at h1; omega
    have x1 : shiftA .shr .i64 n (s : Int) = some (.int .i64 k) := by
      rw [i64_shr (by omega), hk]; simp [pow]
    have xb : -9223372036854775808 ≤ pow s * k ∧ pow s * k ≤ 9223372036854775807 := by
      rcases hs3 with rfl | rfl | rfl | rfl <;> simp only [pow] at hnk ⊢ <;> omega
    have x2 : shiftA .shl .i64 k (s : Int) = some (.int .i64 (pow s * k)) := by
      have e : k * 2 ^ s = pow s * k := by rw [Int.mul_comm]; simp [pow]
      rw [i64_shl (by omega) (by rw [e]; omega) (by rw [e]; omega), e]
    have hin : inF kk w s n = (decide (r = 0) && (decide (nLow kk w ≤ k) && decide (k ≤ nHigh kk w))) := by
      simp only [inF, hk, hr0, pow]
    by_cases c1 : n < pow s * nLow kk w
    · have hf : inF kk w s n = false := by
        rw [hin]; simp only [Bool.and_eq_false_iff, decide_eq_false_iff_not]
        right; left
        rcases hs3 with rfl | rfl | rfl | rfl <;> simp only [pow] at hnk c1 <;> omega
      simp -implicitDefEqProofs only [ox, ou, ko, ky, kn, kd, oy_seq, oy_ret, oy_exit, oy_skip, oy_cond, oy_block, oy_region, oy_draw, dr_eq, dre_some, stl_some, st_nil, st_op, ot, ov, os_same, sy_nil, sy_op, nxt_normal, nxt_ret, nxt_exit, blk_exit, blk_normal, blk_ret, reg_some, cnd_true, cnd_false, opr_some, grd_true, grd_false, fin_ret, fin_normal, finv_some, Region.wanted, opA, callV, aop, evalL, evalO, putE, binA, bi_add, bi_sub, bi_mul, bi_eql, bi_neq, bi_lss, bi_leq, bi_gtr, bi_geq, unA, ofVal, ofLeaf, resultsA, tupA, AV.rfL, AV.rf, yielded_yv, yv_bool, yv_undef, yv_none, og_n, List.replicate, Option.bind, heapFree, onlyReads, List.set, List.getD, List.getElem?_cons_succ, List.getElem?_cons_zero, Option.getD, Option.map, decide_true, decide_false, if_true, if_false, Bool.false_eq_true, Bool.not_true, Bool.not_false, beq_self_eq_true, Bool.true_and, Bool.and_true, Bool.and_self, Bool.false_and, Bool.and_false, Bool.true_or, Bool.or_true, Bool.false_or, Bool.or_false, Bool.or_self, List.length_cons, List.length_nil, List.cons_append, List.nil_append, ite_self, List.getElem?_toArray, Option.bind_some, Option.bind_none, og_tt, og_ff, og_tf, og_ft, Int.reduceBNe, Int.reduceBEq, Int.reduceLT, Int.reduceLE, hr, fldT, hn, hf, c1, Int.toNat_natCast, List.getElem?_cons_succ, List.getElem?_cons_zero, show (((0 : Int) != 0) = false) from rfl]
    · by_cases c2 : pow s * nHigh kk w < n
      · have hf : inF kk w s n = false ∨ r ≠ 0 := by
          by_cases hr : r = 0
          · left; rw [hin]; simp only [Bool.and_eq_false_iff, decide_eq_false_iff_not]
            right; right
            rcases hs3 with rfl | rfl | rfl | rfl <;> simp only [pow] at hnk c2 <;> omega
          · right; exact hr
        have hf : inF kk w s n = false := by
          rcases hf with h | h
          · exact h
          · rw [hin]; simp [h]
        simp -implicitDefEqProofs only [ox, ou, ko, ky, kn, kd, oy_seq, oy_ret, oy_exit, oy_skip, oy_cond, oy_block, oy_region, oy_draw, dr_eq, dre_some, stl_some, st_nil, st_op, ot, ov, os_same, sy_nil, sy_op, nxt_normal, nxt_ret, nxt_exit, blk_exit, blk_normal, blk_ret, reg_some, cnd_true, cnd_false, opr_some, grd_true, grd_false, fin_ret, fin_normal, finv_some, Region.wanted, opA, callV, aop, evalL, evalO, putE, binA, bi_add, bi_sub, bi_mul, bi_eql, bi_neq, bi_lss, bi_leq, bi_gtr, bi_geq, unA, ofVal, ofLeaf, resultsA, tupA, AV.rfL, AV.rf, yielded_yv, yv_bool, yv_undef, yv_none, og_n, List.replicate, Option.bind, heapFree, onlyReads, List.set, List.getD, List.getElem?_cons_succ, List.getElem?_cons_zero, Option.getD, Option.map, decide_true, decide_false, if_true, if_false, Bool.false_eq_true, Bool.not_true, Bool.not_false, beq_self_eq_true, Bool.true_and, Bool.and_true, Bool.and_self, Bool.false_and, Bool.and_false, Bool.true_or, Bool.or_true, Bool.false_or, Bool.or_false, Bool.or_self, List.length_cons, List.length_nil, List.cons_append, List.nil_append, ite_self, List.getElem?_toArray, Option.bind_some, Option.bind_none, og_tt, og_ff, og_tf, og_ft, Int.reduceBNe, Int.reduceBEq, Int.reduceLT, Int.reduceLE, hr, fldT, hn, hf, c1, c2, Int.toNat_natCast, List.getElem?_cons_succ, List.getElem?_cons_zero, show (((0 : Int) != 0) = false) from rfl]
      · by_cases c3 : r = 0
        · have e3 : (pow s * k != n) = false := by simp; omega
          have hf : inF kk w s n = true := by
            rw [hin]; simp only [Bool.and_eq_true, decide_eq_true_eq]
            refine ⟨c3, ?_, ?_⟩ <;> rcases hs3 with rfl | rfl | rfl | rfl <;> simp only [pow] at hnk c1 c2 <;> omega
          have hkm : ∃ j : Nat, IntKind.u64.wrap k = (j : Int) ∧ j < 2 ^ 64 ∧ (j : Int) = k % 18446744073709551616 := by
            refine ⟨(k % 18446744073709551616).toNat, ?_, ?_, ?_⟩
            · simp [IntKind.wrap, IntKind.bits, IntKind.signed]; omega
            · omega
            · omega
          obtain ⟨j, j1, j2, j3⟩ := hkm
          have a1 : binIntA .and .u64 (j : Int) ((2 ^ w - 1 : Nat) : Int) = some (.int .u64 (n / pow s % pow w)) := by
            rw [Go.Ab.u64_and j2 (by have := two_pow_lt (show w < 64 by omega); omega), Nat.and_two_pow_sub_one_eq_mod]
            congr 2
            rw [← hk]
            have e : ((j % 2 ^ w : Nat) : Int) = (j : Int) % pow w := by simp [pow]
            rw [e, j3]
            refine Int.emod_emod_of_dvd k ?_
            have : (18446744073709551616 : Int) = pow w * pow (64 - w) := by
              simp only [pow, ← Int.natCast_mul, ← Nat.pow_add]
              rw [show w + (64 - w) = 64 by omega]; rfl
            exact ⟨_, this⟩
          simp -implicitDefEqProofs only [ox, ou, ko, ky, kn, kd, oy_seq, oy_ret, oy_exit, oy_skip, oy_cond, oy_block, oy_region, oy_draw, dr_eq, dre_some, stl_some, st_nil, st_op, ot, ov, os_same, sy_nil, sy_op, nxt_normal, nxt_ret, nxt_exit, blk_exit, blk_normal, blk_ret, reg_some, cnd_true, cnd_false, opr_some, grd_true, grd_false, fin_ret, fin_normal, finv_some, Region.wanted, opA, callV, aop, evalL, evalO, putE, binA, bi_add, bi_sub, bi_mul, bi_eql, bi_neq, bi_lss, bi_leq, bi_gtr, bi_geq, unA, ofVal, ofLeaf, resultsA, tupA, AV.rfL, AV.rf, yielded_yv, yv_bool, yv_undef, yv_none, og_n, List.replicate, Option.bind, heapFree, onlyReads, List.set, List.getD, List.getElem?_cons_succ, List.getElem?_cons_zero, Option.getD, Option.map, decide_true, decide_false, if_true, if_false, Bool.false_eq_true, Bool.not_true, Bool.not_false, beq_self_eq_true, Bool.true_and, Bool.and_true, Bool.and_self, Bool.false_and, Bool.and_false, Bool.true_or, Bool.or_true, Bool.false_or, Bool.or_false, Bool.or_self, List.length_cons, List.length_nil, List.cons_append, List.nil_append, ite_self, List.getElem?_toArray, Option.bind_some, Option.bind_none, og_tt, og_ff, og_tf, og_ft, Int.reduceBNe, Int.reduceBEq, Int.reduceLT, Int.reduceLE, hr, fldT, hn, hf, c1, c2, x1, x2, e3, d6, convertA, Try.underlying3, Try.underlying22, j1, bmask_run w (by omega) (by omega), a1, List.take, List.drop, Int.toNat_natCast, List.getElem?_cons_succ, List.getElem?_cons_zero, show (((0 : Int) != 0) = false) from rfl]
        · have e3 : (pow s * k != n) = true := by simp; omega
          have hf : inF kk w s n = false := by rw [hin]; simp [c3]
          simp -implicitDefEqProofs only [ox, ou, ko, ky, kn, kd, oy_seq, oy_ret, oy_exit, oy_skip, oy_cond, oy_block, oy_region, oy_draw, dr_eq, dre_some, stl_some, st_nil, st_op, ot, ov, os_same, sy_nil, sy_op, nxt_normal, nxt_ret, nxt_exit, blk_exit, blk_normal, blk_ret, reg_some, cnd_true, cnd_false, opr_some, grd_true, grd_false, fin_ret, fin_normal, finv_some, Region.wanted, opA, callV, aop, evalL, evalO, putE, binA, bi_add, bi_sub, bi_mul, bi_eql, bi_neq, bi_lss, bi_leq, bi_gtr, bi_geq, unA, ofVal, ofLeaf, resultsA, tupA, AV.rfL, AV.rf, yielded_yv, yv_bool, yv_undef, yv_none, og_n, List.replicate, Option.bind, heapFree, onlyReads, List.set, List.getD, List.getElem?_cons_succ, List.getElem?_cons_zero, Option.getD, Option.map, decide_true, decide_false, if_true, if_false, Bool.false_eq_true, Bool.not_true, Bool.not_false, beq_self_eq_true, Bool.true_and, Bool.and_true, Bool.and_self, Bool.false_and, Bool.and_false, Bool.true_or, Bool.or_true, Bool.false_or, Bool.or_false, Bool.or_self, List.length_cons, List.length_nil, List.cons_append, List.nil_append, ite_self, List.getElem?_toArray, Option.bind_some, Option.bind_none, og_tt, og_ff, og_tf, og_ft, Int.reduceBNe, Int.reduceBEq, Int.reduceLT, Int.reduceLE, hr, fldT, hn, hf, c1, c2, x1, x2, e3, Int.toNat_natCast, List.getElem?_cons_succ, List.getElem?_cons_zero, show (((0 : Int) != 0) = false) from rfl]
theorem prgNumber_run (kk w s : Int) (x : Nat) (hx : x < 2 ^ 64) (hk0 : 0 ≤ kk) (hk : kk ≤ 255) (lo : Nat) (H : Heap) :
    callA Try.prog (om Try.prog) lo 16 [.int .u8 kk, .int .i64 w, .int .i64 s, .int .u64 x] H = some (numT kk w s x, H) := by
  rw [call_eq Try.func16 rfl rfl]
  simp -implicitDefEqProofs only [Try.f16]
  have hr := range_run kk w s hk0 hk
  unfold rngT at hr
  cases hn : numOk kk w s with
  | false =>
    simp only [hn, Bool.false_eq_true, if_false] at hr
    simp -implicitDefEqProofs only [ox, ou, ko, ky, kn, kd, oy_seq, oy_ret, oy_exit, oy_skip, oy_cond, oy_block, oy_region, oy_draw, dr_eq, dre_some, stl_some, st_nil, st_op, ot, ov, os_same, sy_nil, sy_op, nxt_normal, nxt_ret, nxt_exit, blk_exit, blk_normal, blk_ret, reg_some, cnd_true, cnd_false, opr_some, grd_true, grd_false, fin_ret, fin_normal, finv_some, Region.wanted, opA, callV, aop, evalL, evalO, putE, binA, bi_add, bi_sub, bi_mul, bi_eql, bi_neq, bi_lss, bi_leq, bi_gtr, bi_geq, unA, ofVal, ofLeaf, resultsA, tupA, AV.rfL, AV.rf, yielded_yv, yv_bool, yv_undef, yv_none, og_n, List.replicate, Option.bind, heapFree, onlyReads, List.set, List.getD, List.getElem?_cons_succ, List.getElem?_cons_zero, Option.getD, Option.map, decide_true, decide_false, if_true, if_false, Bool.false_eq_true, Bool.not_true, Bool.not_false, beq_self_eq_true, Bool.true_and, Bool.and_true, Bool.and_self, Bool.false_and, Bool.and_false, Bool.true_or, Bool.or_true, Bool.false_or, Bool.or_false, Bool.or_self, List.length_cons, List.length_nil, List.cons_append, List.nil_append, ite_self, List.getElem?_toArray, Option.bind_some, Option.bind_none, og_tt, og_ff, og_tf, og_ft, Int.reduceBNe, Int.reduceBEq, Int.reduceLT, Int.reduceLE, hr, numT, hn, List.getElem?_cons_succ, List.getElem?_cons_zero]
  | true =>
    simp only [hn, if_true] at hr
    obtain ⟨k1, k2, hw, hw2, hs, hs2⟩ := numOk_iff.1 hn
    obtain ⟨w, rfl⟩ := Int.eq_ofNat_of_zero_le (show 0 ≤ w by omega)
    obtain ⟨s, rfl⟩ := Int.eq_ofNat_of_zero_le hs
    simp only [Int.toNat_natCast] at hr
    have be := ends_bd kk (show w ≤ 32 by omega)
    have bw := pw_bd (show w ≤ 32 by omega)
    have bs := pw_bd (show s ≤ 3 by omega)
    have hs3 : s = 0 ∨ s = 1 ∨ s = 2 ∨ s = 3 := by omega
    by_cases hxw : x < 2 ^ w
    · have w0 : IntKind.i64.wrap (x : Int) = x := wi64 (by omega) (by omega)
      have xb : 0 ≤ pow s * (x : Int) ∧ pow s * (x : Int) ≤ 9223372036854775807 := by
        rcases hs3 with rfl | rfl | rfl | rfl <;> simp only [pow] <;> omega
      have x2 : shiftA .shl .i64 (x : Int) (s : Int) = some (.int .i64 (pow s * x)) := by
        have e : (x : Int) * 2 ^ s = pow s * x := by rw [Int.mul_comm]; simp [pow]
        rw [i64_shl (by omega) (by rw [e]; omega) (by rw [e]; omega), e]
      have x3 : IntKind.i64.wrap ((w : Int) + (s : Int)) = ((w + s : Nat) : Int) := by rw [wi64 (by omega) (by omega)]; push_cast; rfl
      have b4 := pw_bd (show w + s ≤ 35 by omega)
      have x4 : shiftA .shl .i64 1 ((w + s : Nat) : Int) = some (.int .i64 ((2 ^ (w + s) : Nat) : Int)) := by
        have e : (1 : Int) * 2 ^ (w + s) = ((2 ^ (w + s) : Nat) : Int) := by simp
        rw [i64_shl (by omega) (by rw [e]; omega) (by rw [e]; omega), e]
      have e5 : ((2 ^ (w + s) : Nat) : Int) = pow s * pow w := by
        simp only [pow, ← Int.natCast_mul, ← Nat.pow_add]; rw [Nat.add_comm]
      have x5 : IntKind.i64.wrap (pow s * (x : Int) - ((2 ^ (w + s) : Nat) : Int)) = pow s * ((x : Int) - pow w) := by
        rw [wi64 (by omega) (by omega), e5, Int.mul_sub]
      by_cases hh : nHigh kk w < x
      · have g : decide (pow s * nHigh kk w < pow s * (x : Int)) = true := by
          simp only [decide_eq_true_eq]; rcases hs3 with rfl | rfl | rfl | rfl <;> simp only [pow] <;> omega
        simp -implicitDefEqProofs only [ox, ou, ko, ky, kn, kd, oy_seq, oy_ret, oy_exit, oy_skip, oy_cond, oy_block, oy_region, oy_draw, dr_eq, dre_some, stl_some, st_nil, st_op, ot, ov, os_same, sy_nil, sy_op, nxt_normal, nxt_ret, nxt_exit, blk_exit, blk_normal, blk_ret, reg_some, cnd_true, cnd_false, opr_some, grd_true, grd_false, fin_ret, fin_normal, finv_some, Region.wanted, opA, callV, aop, evalL, evalO, putE, binA, bi_add, bi_sub, bi_mul, bi_eql, bi_neq, bi_lss, bi_leq, bi_gtr, bi_geq, unA, ofVal, ofLeaf, resultsA, tupA, AV.rfL, AV.rf, yielded_yv, yv_bool, yv_undef, yv_none, og_n, List.replicate, Option.bind, heapFree, onlyReads, List.set, List.getD, List.getElem?_cons_succ, List.getElem?_cons_zero, Option.getD, Option.map, decide_true, decide_false, if_true, if_false, Bool.false_eq_true, Bool.not_true, Bool.not_false, beq_self_eq_true, Bool.true_and, Bool.and_true, Bool.and_self, Bool.false_and, Bool.and_false, Bool.true_or, Bool.or_true, Bool.false_or, Bool.or_false, Bool.or_self, List.length_cons, List.length_nil, List.cons_append, List.nil_append, ite_self, List.getElem?_toArray, Option.bind_some, Option.bind_none, og_tt, og_ff, og_tf, og_ft, Int.reduceBNe, Int.reduceBEq, Int.reduceLT, Int.reduceLE, hr, hn, fits_run x hx, hxw, w0, x2, g, x3, x4, x5, hh, numT, numV, Int.toNat_natCast, convertA, Try.underlying3, Try.underlying22, List.getElem?_cons_succ, List.getElem?_cons_zero, show (((0 : Int) != 0) = false) from rfl]
      · have g : decide (pow s * nHigh kk w < pow s * (x : Int)) = false := by
          simp only [decide_eq_false_iff_not]; rcases hs3 with rfl | rfl | rfl | rfl <;> simp only [pow] <;> omega
        simp -implicitDefEqProofs only [ox, ou, ko, ky, kn, kd, oy_seq, oy_ret, oy_exit, oy_skip, oy_cond, oy_block, oy_region, oy_draw, dr_eq, dre_some, stl_some, st_nil, st_op, ot, ov, os_same, sy_nil, sy_op, nxt_normal, nxt_ret, nxt_exit, blk_exit, blk_normal, blk_ret, reg_some, cnd_true, cnd_false, opr_some, grd_true, grd_false, fin_ret, fin_normal, finv_some, Region.wanted, opA, callV, aop, evalL, evalO, putE, binA, bi_add, bi_sub, bi_mul, bi_eql, bi_neq, bi_lss, bi_leq, bi_gtr, bi_geq, unA, ofVal, ofLeaf, resultsA, tupA, AV.rfL, AV.rf, yielded_yv, yv_bool, yv_undef, yv_none, og_n, List.replicate, Option.bind, heapFree, onlyReads, List.set, List.getD, List.getElem?_cons_succ, List.getElem?_cons_zero, Option.getD, Option.map, decide_true, decide_false, if_true, if_false, Bool.false_eq_true, Bool.not_true, Bool.not_false, beq_self_eq_true, Bool.true_and, Bool.and_true, Bool.and_self, Bool.false_and, Bool.and_false, Bool.true_or, Bool.or_true, Bool.false_or, Bool.or_false, Bool.or_self, List.length_cons, List.length_nil, List.cons_append, List.nil_append, ite_self, List.getElem?_toArray, Option.bind_some, Option.bind_none, og_tt, og_ff, og_tf, og_ft, Int.reduceBNe, Int.reduceBEq, Int.reduceLT, Int.reduceLE, hr, hn, fits_run x hx, hxw, w0, x2, g, hh, numT, numV, Int.toNat_natCast, convertA, Try.underlying3, Try.underlying22, List.getElem?_cons_succ, List.getElem?_cons_zero, show (((0 : Int) != 0) = false) from rfl]
    · simp -implicitDefEqProofs only [ox, ou, ko, ky, kn, kd, oy_seq, oy_ret, oy_exit, oy_skip, oy_cond, oy_block, oy_region, oy_draw, dr_eq, dre_some, stl_some, st_nil, st_op, ot, ov, os_same, sy_nil, sy_op, nxt_normal, nxt_ret, nxt_exit, blk_exit, blk_normal, blk_ret, reg_some, cnd_true, cnd_false, opr_some, grd_true, grd_false, fin_ret, fin_normal, finv_some, Region.wanted, opA, callV, aop, evalL, evalO, putE, binA, bi_add, bi_sub, bi_mul, bi_eql, bi_neq, bi_lss, bi_leq, bi_gtr, bi_geq, unA, ofVal, ofLeaf, resultsA, tupA, AV.rfL, AV.rf, yielded_yv, yv_bool, yv_undef, yv_none, og_n, List.replicate, Option.bind, heapFree, onlyReads, List.set, List.getD, List.getElem?_cons_succ, List.getElem?_cons_zero, Option.getD, Option.map, decide_true, decide_false, if_true, if_false, Bool.false_eq_true, Bool.not_true, Bool.not_false, beq_self_eq_true, Bool.true_and, Bool.and_true, Bool.and_self, Bool.false_and, Bool.and_false, Bool.true_or, Bool.or_true, Bool.false_or, Bool.or_false, Bool.or_self, List.length_cons, List.length_nil, List.cons_append, List.nil_append, ite_self, List.getElem?_toArray, Option.bind_some, Option.bind_none, og_tt, og_ff, og_tf, og_ft, Int.reduceBNe, Int.reduceBEq, Int.reduceLT, Int.reduceLE, hr, hn, fits_run x hx, hxw, numT, Int.toNat_natCast, List.getElem?_cons_succ, List.getElem?_cons_zero, show (((0 : Int) != 0) = false) from rfl]
end Go.Proofs.Ytlbkcdfllglddaa.fmt
/-! The functions below the Format laws, 6: the program's Fit. Conditions: the bounds in each statement. -/
namespace Go.Proofs.Ytlbkcdfllglddaa.fmt
open Go Go.Ab
set_option maxRecDepth 100000
set_option linter.unusedSimpArgs false
set_option linter.unusedVariables false
attribute [local simp] ox ou ko ky kn kd oy_seq oy_ret oy_exit oy_skip oy_cond oy_block oy_region oy_draw dr_eq dre_some stl_some st_nil st_op ot ov os_same sy_nil sy_op nxt_normal nxt_ret nxt_exit blk_exit blk_normal blk_ret reg_some cnd_true cnd_false opr_some grd_true grd_false fin_ret fin_normal finv_some Region.wanted opA callV aop evalL evalO putE binA bi_add bi_sub bi_mul bi_eql bi_neq bi_lss bi_leq bi_gtr bi_geq unA ofVal ofLeaf resultsA tupA AV.rfL AV.rf yielded_yv yv_bool yv_undef yv_none og_n List.replicate Option.bind heapFree onlyReads
/-- the least width of a field for k, were there no limit -/
def fitV (kk k : Int) : Nat := if kk = 3 then max 1 (blen k.toNat) else if k < 0 then blen (-k - 1).toNat + 1 else blen k.toNat + 1
theorem fitV_pos (kk k : Int) : 1 ≤ fitV kk k := by
  unfold fitV
  by_cases h : kk = 3
  · rw [if_pos h]; omega
  · rw [if_neg h]; split <;> omega
theorem inF_fit {kk : Int} {w s : Nat} {n : Int} (hw : 1 ≤ w) :
    inF kk w s n = (decide (n % pow s = 0) && (decide (kk = 3 → 0 ≤ n / pow s) && decide (fitV kk (n / pow s) ≤ w))) := by
  have e0 : inF kk w s n = (decide (n % pow s = 0) && (decide (nLow kk w ≤ n / pow s) && decide (n / pow s ≤ nHigh kk w))) := rfl
  rw [e0]
  congr 1
  generalize n / pow s = k
  rw [Bool.eq_iff_iff]
  simp only [Bool.and_eq_true, decide_eq_true_eq]
  by_cases h3 : kk = 3
  · have e : (kk = 3 → 0 ≤ k) ↔ 0 ≤ k := ⟨fun f => f h3, fun f _ => f⟩
    rw [e]
    simp only [nLow, nHigh, fitV, h3, if_true]
    have := blen_le k.toNat w
    omega
  · have e : (kk = 3 → 0 ≤ k) ↔ True := ⟨fun _ => trivial, fun _ h => absurd h h3⟩
    rw [e, true_and]
    simp only [nLow, nHigh, fitV, h3, if_false]
    by_cases hk : k < 0
    · simp only [hk, if_true]
      have := blen_le (-k - 1).toNat (w - 1)
      omega
    · simp only [hk, if_false]
      have := blen_le k.toNat (w - 1)
      omega
theorem fitFrom_some {kk : Int} {s : Nat} {n : Int} {v : Nat} : ∀ (m w : Nat), (∀ u, w ≤ u → u < w + m → inF kk u s n = decide (v ≤ u)) → w ≤ v → v < w + m → fitFrom kk s n m w = some v
  | 0, w, _, _, h => absurd h (by omega)
  | m + 1, w, h, h1, h2 => by
    rw [fitFrom, h w (Nat.le_refl w) (by omega)]
    by_cases e : v ≤ w
    · obtain rfl : v = w := by omega
      simp
    · simp only [e, decide_false, Bool.false_eq_true, if_false]
      exact fitFrom_some m (w + 1) (fun u hu hu2 => h u (by omega) (by omega)) (by omega) (by omega)
theorem fitFrom_none {kk : Int} {s : Nat} {n : Int} : ∀ (m w : Nat), (∀ u, w ≤ u → u < w + m → inF kk u s n = false) → fitFrom kk s n m w = none
  | 0, w, _ => rfl
  | m + 1, w, h => by
    rw [fitFrom, h w (Nat.le_refl w) (by omega)]
    simp only [Bool.false_eq_true, if_false]
    exact fitFrom_none m (w + 1) (fun u hu hu2 => h u (by omega) (by omega))
/-- what Fit finds -/
theorem fitFrom_eq (kk : Int) (s : Nat) (n : Int) : fitFrom kk s n 32 1 = if inF kk 32 s n then some (fitV kk (n / pow s)) else none := by
  have hp := fitV_pos kk (n / pow s)
  cases h : inF kk 32 s n with
  | true =>
    have h2 := h
    rw [inF_fit (by decide)] at h2
    simp only [Bool.and_eq_true, decide_eq_true_eq] at h2
    obtain ⟨a, b, c⟩ := h2
    simp only [if_true]
    refine fitFrom_some 32 1 (fun u h1 h2 => ?_) hp (by omega)
    rw [inF_fit h1]
    have e : decide (kk = 3 → 0 ≤ n / pow s) = true := decide_eq_true b
    simp only [a, e, decide_true, Bool.true_and]
  | false =>
    simp only [Bool.false_eq_true, if_false]
    refine fitFrom_none 32 1 fun u h1 h2 => ?_
    rw [inF_fit h1]
    rw [inF_fit (by decide)] at h
    simp only [Bool.and_eq_false_iff, decide_eq_false_iff_not] at h ⊢
    rcases h with h | h | h
    · exact .inl h
    · exact .inr (.inl h)
    · exact .inr (.inr (by omega))
theorem numOk32 (kk s : Int) : numOk kk 32 s = numOk kk 1 s := by simp [numOk]
theorem fit_run (kk s n : Int) (hk0 : 0 ≤ kk) (hk : kk ≤ 255) (hn1 : -9223372036854775808 ≤ n) (hn2 : n ≤ 9223372036854775807) (lo : Nat) (H : Heap) :
    callA Try.prog (om Try.prog) lo 18 [.int .u8 kk, .int .i64 s, .int .i64 n] H = some (fitT kk s n, H) := by
  rw [call_eq Try.func18 rfl rfl]
  simp -implicitDefEqProofs only [Try.f18]
  have hr := field_run kk 32 s n hk0 hk hn1 hn2
  unfold fldT at hr
  rw [numOk32] at hr
  unfold fitT
  cases hn : numOk kk 1 s with
  | false =>
    simp only [hn, Bool.false_eq_true, if_false] at hr
    simp -implicitDefEqProofs only [ox, ou, ko, ky, kn, kd, oy_seq, oy_ret, oy_exit, oy_skip, oy_cond, oy_block, oy_region, oy_draw, dr_eq, dre_some, stl_some, st_nil, st_op, ot, ov, os_same, sy_nil, sy_op, nxt_normal, nxt_ret, nxt_exit, blk_exit, blk_normal, blk_ret, reg_some, cnd_true, cnd_false, opr_some, grd_true, grd_false, fin_ret, fin_normal, finv_some, Region.wanted, opA, callV, aop, evalL, evalO, putE, binA, bi_add, bi_sub, bi_mul, bi_eql, bi_neq, bi_lss, bi_leq, bi_gtr, bi_geq, unA, ofVal, ofLeaf, resultsA, tupA, AV.rfL, AV.rf, yielded_yv, yv_bool, yv_undef, yv_none, og_n, List.replicate, Option.bind, heapFree, onlyReads, List.set, List.getD, List.getElem?_cons_succ, List.getElem?_cons_zero, Option.getD, Option.map, decide_true, decide_false, if_true, if_false, Bool.false_eq_true, Bool.not_true, Bool.not_false, beq_self_eq_true, Bool.true_and, Bool.and_true, Bool.and_self, Bool.false_and, Bool.and_false, Bool.true_or, Bool.or_true, Bool.false_or, Bool.or_false, Bool.or_self, List.length_cons, List.length_nil, List.cons_append, List.nil_append, ite_self, List.getElem?_toArray, Option.bind_some, Option.bind_none, og_tt, og_ff, og_tf, og_ft, Int.reduceBNe, Int.reduceBEq, Int.reduceLT, Int.reduceLE, hr, List.getElem?_cons_succ, List.getElem?_cons_zero]
  | true =>
    simp only [hn, if_true] at hr
    obtain ⟨k1, k2, _, _, hs, hs2⟩ := numOk_iff.1 hn
    obtain ⟨s, rfl⟩ := Int.eq_ofNat_of_zero_le hs
    simp only [Int.toNat_natCast, show (32 : Int).toNat = 32 from rfl] at hr
    simp only [if_true, Int.toNat_natCast, fitFrom_eq]
    cases hf : inF kk 32 s n with
    | false =>
      simp only [hf, Bool.false_eq_true, if_false] at hr
      simp -implicitDefEqProofs only [ox, ou, ko, ky, kn, kd, oy_seq, oy_ret, oy_exit, oy_skip, oy_cond, oy_block, oy_region, oy_draw, dr_eq, dre_some, stl_some, st_nil, st_op, ot, ov, os_same, sy_nil, sy_op, nxt_normal, nxt_ret, nxt_exit, blk_exit, blk_normal, blk_ret, reg_some, cnd_true, cnd_false, opr_some, grd_true, grd_false, fin_ret, fin_normal, finv_some, Region.wanted, opA, callV, aop, evalL, evalO, putE, binA, bi_add, bi_sub, bi_mul, bi_eql, bi_neq, bi_lss, bi_leq, bi_gtr, bi_geq, unA, ofVal, ofLeaf, resultsA, tupA, AV.rfL, AV.rf, yielded_yv, yv_bool, yv_undef, yv_none, og_n, List.replicate, Option.bind, heapFree, onlyReads, List.set, List.getD, List.getElem?_cons_succ, List.getElem?_cons_zero, Option.getD, Option.map, decide_true, decide_false, if_true, if_false, Bool.false_eq_true, Bool.not_true, Bool.not_false, beq_self_eq_true, Bool.true_and, Bool.and_true, Bool.and_self, Bool.false_and, Bool.and_false, Bool.true_or, Bool.or_true, Bool.false_or, Bool.or_false, Bool.or_self, List.length_cons, List.length_nil, List.cons_append, List.nil_append, ite_self, List.getElem?_toArray, Option.bind_some, Option.bind_none, og_tt, og_ff, og_tf, og_ft, Int.reduceBNe, Int.reduceBEq, Int.reduceLT, Int.reduceLE, hr, List.getElem?_cons_succ, List.getElem?_cons_zero]
    | true =>
      simp only [hf, if_true] at hr
      rw [inF_fit (by decide)] at hf
      simp only [Bool.and_eq_true, decide_eq_true_eq] at hf
      obtain ⟨a, b, c⟩ := hf
      have bs := pw_bd (show s ≤ 3 by omega)
      have bk := i64_ediv hn1 hn2 (show (1 : Int) ≤ pow s by unfold pow; omega)
      have x1 : shiftA .shr .i64 n (s : Int) = some (.int .i64 (n / pow s)) := by
        rw [i64_shr (by omega)]; simp [pow]
      generalize n / pow s = k at *
      by_cases h3 : kk = 3
      · have g : (kk == 3) = true := by simp [h3]
        obtain ⟨j, rfl⟩ := Int.eq_ofNat_of_zero_le (b h3)
        have w1 : IntKind.u64.wrap (j : Int) = j := wrap_u64_lt (by omega)
        have e : fitV kk (j : Int) = max 1 (blen j) := by simp only [fitV, h3, if_true, Int.toNat_natCast]
        rw [e] at c ⊢
        have m : (if (blen j : Int) > 1 then (blen j : Int) else 1) = ((max 1 (blen j) : Nat) : Int) := by split <;> omega
        simp -implicitDefEqProofs only [ox, ou, ko, ky, kn, kd, oy_seq, oy_ret, oy_exit, oy_skip, oy_cond, oy_block, oy_region, oy_draw, dr_eq, dre_some, stl_some, st_nil, st_op, ot, ov, os_same, sy_nil, sy_op, nxt_normal, nxt_ret, nxt_exit, blk_exit, blk_normal, blk_ret, reg_some, cnd_true, cnd_false, opr_some, grd_true, grd_false, fin_ret, fin_normal, finv_some, Region.wanted, opA, callV, aop, evalL, evalO, putE, binA, bi_add, bi_sub, bi_mul, bi_eql, bi_neq, bi_lss, bi_leq, bi_gtr, bi_geq, unA, ofVal, ofLeaf, resultsA, tupA, AV.rfL, AV.rf, yielded_yv, yv_bool, yv_undef, yv_none, og_n, List.replicate, Option.bind, heapFree, onlyReads, List.set, List.getD, List.getElem?_cons_succ, List.getElem?_cons_zero, Option.getD, Option.map, decide_true, decide_false, if_true, if_false, Bool.false_eq_true, Bool.not_true, Bool.not_false, beq_self_eq_true, Bool.true_and, Bool.and_true, Bool.and_self, Bool.false_and, Bool.and_false, Bool.true_or, Bool.or_true, Bool.false_or, Bool.or_false, Bool.or_self, List.length_cons, List.length_nil, List.cons_append, List.nil_append, ite_self, List.getElem?_toArray, Option.bind_some, Option.bind_none, og_tt, og_ff, og_tf, og_ft, Int.reduceBNe, Int.reduceBEq, Int.reduceLT, Int.reduceLE, hr, x1, g, w1, len64_run j (by omega), maxA, m, convertA, Try.underlying3, Try.underlying22, List.getElem?_cons_succ, List.getElem?_cons_zero, show (((0 : Int) != 0) = false) from rfl]
      · have g : (kk == 3) = false := by simp [h3]
        by_cases hneg : k < 0
        · obtain ⟨j, hj⟩ := Int.eq_ofNat_of_zero_le (show 0 ≤ -k - 1 by omega)
          have e : fitV kk k = blen j + 1 := by simp only [fitV, h3, hneg, if_false, if_true, hj]; rfl
          rw [e] at c ⊢
          have x2 : unA .xor (.int .i64 k) = some (.int .i64 (j : Int)) := by
            have : IntKind.i64.wrap ((BitVec.ofInt 64 (-1) ^^^ BitVec.ofInt 64 k).toNat : Int) = (j : Int) := by
              have e1 : BitVec.ofInt 64 (-1) ^^^ BitVec.ofInt 64 k = ~~~ (BitVec.ofInt 64 k) := by
                have : BitVec.ofInt 64 (-1) = BitVec.allOnes 64 := by decide
                rw [this, BitVec.allOnes_xor]
              rw [e1, BitVec.toNat_not, BitVec.toNat_ofInt]
              have e2 : ((2 ^ 64 - 1 - (k % ((2 ^ 64 : Nat) : Int)).toNat : Nat) : Int) = j := by
                have : k % ((2 ^ 64 : Nat) : Int) = k + 18446744073709551616 := by
                  have h5 : (((2 : Nat) ^ 64 : Nat) : Int) = 18446744073709551616 := rfl
                  rw [h5]; omega
                rw [this]; omega
              rw [e2]; exact wi64 (by omega) (by omega)
            show some (AV.int .i64 (IntKind.i64.wrap ((BitVec.ofInt 64 (-1) ^^^ BitVec.ofInt 64 k).toNat : Int))) = _
            rw [this]
          have w1 : IntKind.u64.wrap (j : Int) = j := wrap_u64_lt (by omega)
          have w2 : IntKind.i64.wrap ((blen j : Int) + 1) = ((blen j + 1 : Nat) : Int) := by rw [wi64 (by omega) (by omega)]; push_cast; rfl
          simp -implicitDefEqProofs only [ox, ou, ko, ky, kn, kd, oy_seq, oy_ret, oy_skip, oy_cond, oy_region, sy_nil, sy_op, nxt_normal, nxt_ret, reg_some, cnd_true, cnd_false, opr_some, grd_true, grd_false, fin_ret, fin_normal, finv_some, ox, ou, ko, ky, kn, kd, oy_seq, oy_ret, oy_exit, oy_skip, oy_cond, oy_block, oy_region, oy_draw, dr_eq, dre_some, stl_some, st_nil, st_op, ot, ov, os_same, sy_nil, sy_op, nxt_normal, nxt_ret, nxt_exit, blk_exit, blk_normal, blk_ret, reg_some, cnd_true, cnd_false, opr_some, grd_true, grd_false, fin_ret, fin_normal, finv_some, Region.wanted, opA, callV, aop, evalL, evalO, putE, binA, bi_add, bi_sub, bi_mul, bi_eql, bi_neq, bi_lss, bi_leq, bi_gtr, bi_geq, ofVal, ofLeaf, resultsA, tupA, AV.rfL, AV.rf, yielded_yv, yv_bool, yv_undef, yv_none, og_n, List.replicate, Option.bind, heapFree, onlyReads, List.set, List.getD, List.getElem?_cons_succ, List.getElem?_cons_zero, Option.getD, Option.map, decide_true, decide_false, if_true, if_false, Bool.false_eq_true, Bool.not_true, Bool.not_false, beq_self_eq_true, Bool.true_and, Bool.and_true, Bool.and_self, Bool.false_and, Bool.and_false, Bool.true_or, Bool.or_true, Bool.false_or, Bool.or_false, Bool.or_self, List.length_cons, List.length_nil, List.cons_append, List.nil_append, ite_self, List.getElem?_toArray, Option.bind_some, Option.bind_none, og_tt, og_ff, og_tf, og_ft, Int.reduceBNe, Int.reduceBEq, Int.reduceLT, Int.reduceLE, hr, x1, g, hneg, x2, w1, w2, len64_run j (by omega), convertA, Try.underlying3, Try.underlying22, List.getElem?_cons_succ, List.getElem?_cons_zero, show (((0 : Int) != 0) = false) from rfl]
        · obtain ⟨j, rfl⟩ := Int.eq_ofNat_of_zero_le (show 0 ≤ k by omega)
          have e : fitV kk (j : Int) = blen j + 1 := by simp only [fitV, h3, hneg, if_false, Int.toNat_natCast]
          rw [e] at c ⊢
          have w1 : IntKind.u64.wrap (j : Int) = j := wrap_u64_lt (by omega)
          have w2 : IntKind.i64.wrap ((blen j : Int) + 1) = ((blen j + 1 : Nat) : Int) := by rw [wi64 (by omega) (by omega)]; push_cast; rfl
          simp -implicitDefEqProofs only [ox, ou, ko, ky, kn, kd, oy_seq, oy_ret, oy_exit, oy_skip, oy_cond, oy_block, oy_region, oy_draw, dr_eq, dre_some, stl_some, st_nil, st_op, ot, ov, os_same, sy_nil, sy_op, nxt_normal, nxt_ret, nxt_exit, blk_exit, blk_normal, blk_ret, reg_some, cnd_true, cnd_false, opr_some, grd_true, grd_false, fin_ret, fin_normal, finv_some, Region.wanted, opA, callV, aop, evalL, evalO, putE, binA, bi_add, bi_sub, bi_mul, bi_eql, bi_neq, bi_lss, bi_leq, bi_gtr, bi_geq, unA, ofVal, ofLeaf, resultsA, tupA, AV.rfL, AV.rf, yielded_yv, yv_bool, yv_undef, yv_none, og_n, List.replicate, Option.bind, heapFree, onlyReads, List.set, List.getD, List.getElem?_cons_succ, List.getElem?_cons_zero, Option.getD, Option.map, decide_true, decide_false, if_true, if_false, Bool.false_eq_true, Bool.not_true, Bool.not_false, beq_self_eq_true, Bool.true_and, Bool.and_true, Bool.and_self, Bool.false_and, Bool.and_false, Bool.true_or, Bool.or_true, Bool.false_or, Bool.or_false, Bool.or_self, List.length_cons, List.length_nil, List.cons_append, List.nil_append, ite_self, List.getElem?_toArray, Option.bind_some, Option.bind_none, og_tt, og_ff, og_tf, og_ft, Int.reduceBNe, Int.reduceBEq, Int.reduceLT, Int.reduceLE, hr, x1, g, hneg, w1, w2, len64_run j (by omega), convertA, Try.underlying3, Try.underlying22, List.getElem?_cons_succ, List.getElem?_cons_zero, show (((0 : Int) != 0) = false) from rfl]
end Go.Proofs.Ytlbkcdfllglddaa.fmt
/-! What all rows of the Format laws lean on: from a run of the interpreter to a call of the program. Conditions: none. -/
namespace Go.Proofs.Ytlbkcdfllglddaa.fmt
open Go Go.Ab Go.RowKit
set_option linter.unusedVariables false
def namesB (P : Program) : Bool := P.funcs.toList.all fun f => !(f.name == "runtime.NumGoroutine")
theorem names_of {P : Program} (h : namesB P = true) : ∀ (f : Nat) (fn : Func), P.funcs[f]? = some fn → (fn.name == "runtime.NumGoroutine") = false := by
  intro f fn hf
  have := List.all_eq_true.1 h fn (List.mem_of_getElem? (by simpa using hf))
  simpa using this
theorem summOK : SummOK Try.prog := fun f args v h => by cases h
theorem names : Names Try.prog := ⟨names_of (by kernel_rfl), summOK⟩
theorem mixed : Try.prog.follows .mixedOrders = true := by kernel_rfl
theorem own : ownKnob Try.prog.godebug = none := by kernel_rfl
theorem globOK (w : World) : GlobOK w w.heap.size := fun g v h => by cases h
/-- the numbering that nothing needs -/
def i0 : Inj := fun _ => (0, 0)
theorem walk_of {f : FuncId} {args : List AV} {vs : Array Value} {H : Heap} (h : callA Try.prog (om Try.prog) 0 f args Heap.empty = some (.bool true, H)) (W : World) (hargs : ∀ a ∈ args, a.OK W W.heap.size 0)
    (hv : (args.map (AV.conc i0)).toArray = vs) : Calls Try.prog f vs W fun e w' => e = .returned (.bool true) ∧ Below W.heap.size W w' := by
  obtain ⟨n, hn⟩ := callA_depth h
  subst hv
  exact (run_sound names mixed hn W (globOK W) hargs i0).mono fun e w' ⟨⟨ι, he⟩, hb⟩ => ⟨he, hb⟩
theorem wf_int {k : IntKind} {n : Int} (h : (Lit.int k n).wf = true) : k.min ≤ n ∧ n ≤ k.max := by
  simpa [Lit.wf] using h
theorem wf_u8 {n : Int} (h : (Lit.int .u8 n).wf = true) : 0 ≤ n ∧ n ≤ 255 := wf_int h
theorem wf_i64 {n : Int} (h : (Lit.int .i64 n).wf = true) : -9223372036854775808 ≤ n ∧ n ≤ 9223372036854775807 := wf_int h
theorem wf_u64 {n : Int} (h : (Lit.int .u64 n).wf = true) : ∃ x : Nat, n = (x : Int) ∧ x < 2 ^ 64 := by
  have h2 : 0 ≤ n ∧ n ≤ 18446744073709551615 := wf_int h
  exact ⟨n.toNat, by omega, by omega⟩
end Go.Proofs.Ytlbkcdfllglddaa.fmt
/-! The chapter's examples hold: alive returns true. The kernel reckons. Conditions: none. -/
namespace Go.Proofs.Ytlbkcdfllglddaa.fmt
open Go Go.Ab Go.RowKit
set_option linter.unusedVariables false
def isT : Option (AV × Heap) → Bool | some (.bool b, _) => b | _ => false
theorem isT_spec {o : Option (AV × Heap)} (h : isT o = true) : ∃ H, o = some (.bool true, H) := by
  unfold isT at h
  split at h
  · subst h; exact ⟨_, rfl⟩
  · cases h
theorem callA_lo {P : Program} {ex : ExF} {lo lo' : Nat} {f : FuncId} {args : List AV} {H : Heap} (h : AV.rfL args = true) : callA P ex lo f args H = callA P ex lo' f args H := by
  unfold callA; simp only [h, if_true]
theorem callA_own {P : Program} {ex : ExF} {lo : Nat} {f : FuncId} {args : List AV} {H H' : Heap} {v : AV} (h : AV.rfL args = true) (hv : v.rf = true) (hc : callA P ex lo f args H = some (v, H')) : H' = H := by
  unfold callA at hc
  simp only [h, Bool.true_and] at hc
  repeat' (split at hc)
  all_goals first | (cases hc; rfl) | (cases hc; contradiction) | (cases hc)
set_option maxRecDepth 100000 in
theorem reckoned : isT (callA Try.prog (exec Try.prog 1000) 0 28 [] Heap.empty) = true := by kernel_rfl
theorem alive_run (lo : Nat) : callA Try.prog (om Try.prog) lo 28 [] Heap.empty = some (.bool true, Heap.empty) := by
  obtain ⟨H, h⟩ := isT_spec reckoned
  have h2 : callA Try.prog (om Try.prog) 0 28 [] Heap.empty = some (.bool true, H) := (callA_fin h).mono fun _ _ _ _ _ h => om_of h
  have h3 := callA_own rfl rfl h2
  subst h3
  rw [callA_lo (lo' := 0) rfl]; exact h2
end Go.Proofs.Ytlbkcdfllglddaa.fmt
/-! FormatNumbers, the run: whatever numbers come in, the law returns true. Conditions: the numbers are of their kinds. -/
namespace Go.Proofs.Ytlbkcdfllglddaa.fmt
open Go Go.Ab
set_option maxRecDepth 100000
set_option linter.unusedSimpArgs false
set_option linter.unusedVariables false
attribute [local simp] ox ou ko ky kn kd oy_seq oy_ret oy_exit oy_skip oy_cond oy_block oy_region oy_draw dr_eq dre_some stl_some st_nil st_op ot ov os_same sy_nil sy_op nxt_normal nxt_ret nxt_exit blk_exit blk_normal blk_ret reg_some cnd_true cnd_false opr_some grd_true grd_false fin_ret fin_normal finv_some Region.wanted opA callV aop evalL evalO putE binA bi_add bi_sub bi_mul bi_eql bi_neq bi_lss bi_leq bi_gtr bi_geq unA ofVal ofLeaf resultsA tupA AV.rfL AV.rf yielded_yv yv_bool yv_undef yv_none og_n List.replicate Option.bind heapFree onlyReads
theorem rngT_tup (kk w s : Int) : ∃ a b c : Int, rngT kk w s = .tup [.int .i64 a, .int .i64 b, .int .i64 c] := by unfold rngT; split <;> exact ⟨_, _, _, rfl⟩
theorem fldT_tup (kk w s n : Int) : ∃ a c : Int, fldT kk w s n = .tup [.int .u64 a, .int .i64 c] := by unfold fldT; split <;> (try split) <;> exact ⟨_, _, rfl⟩
theorem numT_tup (kk w s : Int) (x : Nat) : ∃ a c : Int, numT kk w s x = .tup [.int .i64 a, .int .i64 c] := by unfold numT; split <;> (try split) <;> exact ⟨_, _, rfl⟩
theorem fitT_tup (kk s n : Int) : ∃ a c : Int, fitT kk s n = .tup [.int .i64 a, .int .i64 c] := by unfold fitT; split <;> (try split) <;> exact ⟨_, _, rfl⟩
theorem law3 (kk w s n : Int) (x : Nat) (hk0 : 0 ≤ kk) (hk : kk ≤ 255) (hn1 : -9223372036854775808 ≤ n) (hn2 : n ≤ 9223372036854775807) (hx : x < 2 ^ 64) (lo : Nat) (H : Heap) :
    callA Try.prog (om Try.prog) lo 3 [.int .u8 kk, .int .i64 w, .int .i64 s, .int .i64 n, .int .u64 x] H = some (.bool true, H) := by
  rw [call_eq Try.func3 rfl rfl]
  simp -implicitDefEqProofs only [Try.f3]
  obtain ⟨a, b, c, e1⟩ := rngT_tup kk w s
  obtain ⟨a2, c2, e2⟩ := fldT_tup kk w s n
  obtain ⟨a3, c3, e3⟩ := numT_tup kk w s x
  obtain ⟨a4, c4, e4⟩ := fitT_tup kk s n
  simp -implicitDefEqProofs only [ox, ou, ko, ky, kn, kd, oy_seq, oy_ret, oy_exit, oy_skip, oy_cond, oy_block, oy_region, oy_draw, dr_eq, dre_some, stl_some, st_nil, st_op, ot, ov, os_same, sy_nil, sy_op, nxt_normal, nxt_ret, nxt_exit, blk_exit, blk_normal, blk_ret, reg_some, cnd_true, cnd_false, opr_some, grd_true, grd_false, fin_ret, fin_normal, finv_some, Region.wanted, opA, callV, aop, evalL, evalO, putE, binA, bi_add, bi_sub, bi_mul, bi_eql, bi_neq, bi_lss, bi_leq, bi_gtr, bi_geq, unA, ofVal, ofLeaf, resultsA, tupA, AV.rfL, AV.rf, yielded_yv, yv_bool, yv_undef, yv_none, og_n, List.replicate, Option.bind, heapFree, onlyReads, List.set, List.getD, List.getElem?_cons_succ, List.getElem?_cons_zero, Option.getD, Option.map, decide_true, decide_false, if_true, if_false, Bool.false_eq_true, Bool.not_true, Bool.not_false, beq_self_eq_true, Bool.true_and, Bool.and_true, Bool.and_self, Bool.false_and, Bool.and_false, Bool.true_or, Bool.or_true, Bool.false_or, Bool.or_false, Bool.or_self, List.length_cons, List.length_nil, List.cons_append, List.nil_append, ite_self, List.getElem?_toArray, Option.bind_some, Option.bind_none, og_tt, og_ff, og_tf, og_ft, Int.reduceBNe, Int.reduceBEq, Int.reduceLT, Int.reduceLE, range_run kk w s hk0 hk, refRange_run kk w s, field_run kk w s n hk0 hk hn1 hn2, refField_run kk w s n hn1 hn2, prgNumber_run kk w s x hx hk0 hk, refNumber_run kk w s x hx, fit_run kk s n hk0 hk hn1 hn2, refFit_run kk s n hn1 hn2, e1, e2, e3, e4, List.getElem?_cons_succ, List.getElem?_cons_zero]
end Go.Proofs.Ytlbkcdfllglddaa.fmt
/-! FormatBack, FormatFits, FormatOrder, the runs: whatever numbers come in, the laws return true. Conditions: the numbers are of their kinds. -/
namespace Go.Proofs.Ytlbkcdfllglddaa.fmt
open Go Go.Ab
set_option maxRecDepth 100000
set_option linter.unusedSimpArgs false
set_option linter.unusedVariables false
attribute [local simp] ox ou ko ky kn kd oy_seq oy_ret oy_exit oy_skip oy_cond oy_block oy_region oy_draw dr_eq dre_some stl_some st_nil st_op ot ov os_same sy_nil sy_op nxt_normal nxt_ret nxt_exit blk_exit blk_normal blk_ret reg_some cnd_true cnd_false opr_some grd_true grd_false fin_ret fin_normal finv_some Region.wanted opA callV aop evalL evalO putE binA bi_add bi_sub bi_mul bi_eql bi_neq bi_lss bi_leq bi_gtr bi_geq unA ofVal ofLeaf resultsA tupA AV.rfL AV.rf yielded_yv yv_bool yv_undef yv_none og_n List.replicate Option.bind heapFree onlyReads
theorem pow_pos' (s : Nat) : 0 < pow s := by unfold pow; have := Nat.two_pow_pos s; omega
theorem ends_pow (kk : Int) {w : Nat} (h1 : 1 ≤ w) : nHigh kk w - nLow kk w = pow w - 1 ∧ nLow kk w ≤ 0 ∧ 0 ≤ nHigh kk w := by
  have e : (2 : Nat) ^ w = 2 * 2 ^ (w - 1) := by rw [← Nat.pow_succ']; congr 1; omega
  have := Nat.two_pow_pos (w - 1)
  unfold nHigh nLow pow
  split <;> omega
theorem numV_in (kk : Int) {w : Nat} (h1 : 1 ≤ w) {x : Nat} (hx : x < 2 ^ w) : nLow kk w ≤ numV kk w x ∧ numV kk w x ≤ nHigh kk w ∧ numV kk w x % pow w = x := by
  have e := ends_pow kk h1
  have hp : (x : Int) < pow w := by unfold pow; omega
  unfold numV
  split
  · refine ⟨by omega, by omega, ?_⟩
    rw [← Int.add_emod_right, show (x : Int) - pow w + pow w = x by omega]
    exact Int.emod_eq_of_lt (by omega) hp
  · exact ⟨by omega, by omega, Int.emod_eq_of_lt (by omega) hp⟩
theorem inF_mul (kk : Int) (w s : Nat) (k : Int) : inF kk w s (pow s * k) = (decide (nLow kk w ≤ k) && decide (k ≤ nHigh kk w)) := by
  have hp := pow_pos' s
  have e1 : pow s * k % pow s = 0 := Int.mul_emod_right _ _
  have e2 : pow s * k / pow s = k := Int.mul_ediv_cancel_left _ (by omega)
  have e0 : inF kk w s (pow s * k) = (decide (pow s * k % pow s = 0) && (decide (nLow kk w ≤ pow s * k / pow s) && decide (pow s * k / pow s ≤ nHigh kk w))) := rfl
  rw [e0, e1, e2]; simp
theorem inF_split {kk : Int} {w s : Nat} {n : Int} (h : inF kk w s n = true) : ∃ k, n = pow s * k ∧ nLow kk w ≤ k ∧ k ≤ nHigh kk w ∧ n / pow s = k := by
  have e0 : inF kk w s n = (decide (n % pow s = 0) && (decide (nLow kk w ≤ n / pow s) && decide (n / pow s ≤ nHigh kk w))) := rfl
  rw [e0] at h
  simp only [Bool.and_eq_true, decide_eq_true_eq] at h
  exact ⟨n / pow s, (Int.mul_ediv_cancel' (Int.dvd_of_emod_eq_zero h.1)).symm, h.2.1, h.2.2, rfl⟩
theorem mod_num (kk : Int) {w : Nat} (h1 : 1 ≤ w) {k : Int} (hl : nLow kk w ≤ k) (hh : k ≤ nHigh kk w) : ∃ x : Nat, k % pow w = x ∧ x < 2 ^ w ∧ numV kk w x = k := by
  have e := ends_pow kk h1
  by_cases hk : 0 ≤ k
  · obtain ⟨x, rfl⟩ := Int.eq_ofNat_of_zero_le hk
    have hp : (x : Int) < pow w := by omega
    refine ⟨x, Int.emod_eq_of_lt hk hp, by unfold pow at hp; omega, ?_⟩
    unfold numV; rw [if_neg (by omega)]
  · obtain ⟨x, hx⟩ := Int.eq_ofNat_of_zero_le (show 0 ≤ k + pow w by omega)
    have hp : (x : Int) < pow w := by omega
    refine ⟨x, ?_, by unfold pow at hp; omega, ?_⟩
    · rw [← Int.add_emod_right, hx]; exact Int.emod_eq_of_lt (by omega) hp
    · unfold numV; rw [if_pos (by omega)]; omega
theorem pow_mul_bd {s : Nat} (hs : s ≤ 3) {k a b : Int} (ha : a ≤ k) (hb : k ≤ b) (ha0 : a ≤ 0) (hb0 : 0 ≤ b) : 8 * a ≤ pow s * k ∧ pow s * k ≤ 8 * b := by
  have hs3 : s = 0 ∨ s = 1 ∨ s = 2 ∨ s = 3 := by omega
  rcases hs3 with rfl | rfl | rfl | rfl <;> simp only [pow] <;> omega

theorem law11 (kk w s n : Int) (x : Nat) (hk0 : 0 ≤ kk) (hk : kk ≤ 255) (hn1 : -9223372036854775808 ≤ n) (hn2 : n ≤ 9223372036854775807) (hx : x < 2 ^ 64) (lo : Nat) :
    callA Try.prog (om Try.prog) lo 11 [.int .u8 kk, .int .i64 w, .int .i64 s, .int .i64 n, .int .u64 x] Heap.empty = some (.bool true, Heap.empty) := by
  rw [call_eq Try.func11 rfl rfl]
  simp -implicitDefEqProofs only [Try.f11]
  have r14 := field_run kk w s n hk0 hk hn1 hn2
  have r16 := prgNumber_run kk w s x hx hk0 hk
  cases hn : numOk kk w s with
  | false =>
    simp only [fldT, numT, hn, Bool.false_eq_true, if_false] at r14 r16
    simp -implicitDefEqProofs only [ox, ou, ko, ky, kn, kd, oy_seq, oy_ret, oy_exit, oy_skip, oy_cond, oy_block, oy_region, oy_draw, dr_eq, dre_some, stl_some, st_nil, st_op, ot, ov, os_same, sy_nil, sy_op, nxt_normal, nxt_ret, nxt_exit, blk_exit, blk_normal, blk_ret, reg_some, cnd_true, cnd_false, opr_some, grd_true, grd_false, fin_ret, fin_normal, finv_some, Region.wanted, opA, callV, aop, evalL, evalO, putE, binA, bi_add, bi_sub, bi_mul, bi_eql, bi_neq, bi_lss, bi_leq, bi_gtr, bi_geq, unA, ofVal, ofLeaf, resultsA, tupA, AV.rfL, AV.rf, yielded_yv, yv_bool, yv_undef, yv_none, og_n, List.replicate, Option.bind, heapFree, onlyReads, List.set, List.getD, List.getElem?_cons_succ, List.getElem?_cons_zero, Option.getD, Option.map, decide_true, decide_false, if_true, if_false, Bool.false_eq_true, Bool.not_true, Bool.not_false, beq_self_eq_true, Bool.true_and, Bool.and_true, Bool.and_self, Bool.false_and, Bool.and_false, Bool.true_or, Bool.or_true, Bool.false_or, Bool.or_false, Bool.or_self, List.length_cons, List.length_nil, List.cons_append, List.nil_append, ite_self, List.getElem?_toArray, Option.bind_some, Option.bind_none, og_tt, og_ff, og_tf, og_ft, Int.reduceBNe, Int.reduceBEq, Int.reduceLT, Int.reduceLE, alive_run, r14, r16, List.getElem?_cons_succ, List.getElem?_cons_zero]
  | true =>
    obtain ⟨k1, k2, hw, hw2, hs, hs2⟩ := numOk_iff.1 hn
    obtain ⟨w, rfl⟩ := Int.eq_ofNat_of_zero_le (show 0 ≤ w by omega)
    obtain ⟨s, rfl⟩ := Int.eq_ofNat_of_zero_le hs
    have hw' : 1 ≤ w := by omega
    have be := ends_bd kk (show w ≤ 32 by omega)
    simp only [fldT, numT, hn, if_true, Int.toNat_natCast] at r14 r16
    -- back from the field of the number
    have hb : x < 2 ^ w → ∀ lo, callA Try.prog (om Try.prog) lo 14 [.int .u8 kk, .int .i64 w, .int .i64 s, .int .i64 (pow s * numV kk w x)] Heap.empty = some (.tup [.int .u64 x, .int .i64 0], Heap.empty) := by
      intro hxw lo
      obtain ⟨a, b, c⟩ := numV_in kk hw' hxw
      obtain ⟨p, q⟩ := pow_mul_bd (show s ≤ 3 by omega) a b be.2.1 be.2.2.1
      rw [field_run kk w s _ hk0 hk (by omega) (by omega)]
      have hp := pow_pos' s
      simp only [fldT, hn, if_true, Int.toNat_natCast, inF_mul, a, b, decide_true, Bool.and_self, Int.mul_ediv_cancel_left _ (show pow s ≠ 0 by omega), c]
    cases hf : inF kk w s n with
    | false =>
      simp only [hf, Bool.false_eq_true, if_false] at r14
      by_cases hxw : x < 2 ^ w
      · simp only [hxw, decide_true, if_true] at r16
        simp -implicitDefEqProofs only [ox, ou, ko, ky, kn, kd, oy_seq, oy_ret, oy_exit, oy_skip, oy_cond, oy_block, oy_region, oy_draw, dr_eq, dre_some, stl_some, st_nil, st_op, ot, ov, os_same, sy_nil, sy_op, nxt_normal, nxt_ret, nxt_exit, blk_exit, blk_normal, blk_ret, reg_some, cnd_true, cnd_false, opr_some, grd_true, grd_false, fin_ret, fin_normal, finv_some, Region.wanted, opA, callV, aop, evalL, evalO, putE, binA, bi_add, bi_sub, bi_mul, bi_eql, bi_neq, bi_lss, bi_leq, bi_gtr, bi_geq, unA, ofVal, ofLeaf, resultsA, tupA, AV.rfL, AV.rf, yielded_yv, yv_bool, yv_undef, yv_none, og_n, List.replicate, Option.bind, heapFree, onlyReads, List.set, List.getD, List.getElem?_cons_succ, List.getElem?_cons_zero, Option.getD, Option.map, decide_true, decide_false, if_true, if_false, Bool.false_eq_true, Bool.not_true, Bool.not_false, beq_self_eq_true, Bool.true_and, Bool.and_true, Bool.and_self, Bool.false_and, Bool.and_false, Bool.true_or, Bool.or_true, Bool.false_or, Bool.or_false, Bool.or_self, List.length_cons, List.length_nil, List.cons_append, List.nil_append, ite_self, List.getElem?_toArray, Option.bind_some, Option.bind_none, og_tt, og_ff, og_tf, og_ft, Int.reduceBNe, Int.reduceBEq, Int.reduceLT, Int.reduceLE, alive_run, r14, r16, hb hxw, List.getElem?_cons_succ, List.getElem?_cons_zero]
      · simp only [hxw, decide_false, Bool.false_eq_true, if_false] at r16
        simp -implicitDefEqProofs only [ox, ou, ko, ky, kn, kd, oy_seq, oy_ret, oy_exit, oy_skip, oy_cond, oy_block, oy_region, oy_draw, dr_eq, dre_some, stl_some, st_nil, st_op, ot, ov, os_same, sy_nil, sy_op, nxt_normal, nxt_ret, nxt_exit, blk_exit, blk_normal, blk_ret, reg_some, cnd_true, cnd_false, opr_some, grd_true, grd_false, fin_ret, fin_normal, finv_some, Region.wanted, opA, callV, aop, evalL, evalO, putE, binA, bi_add, bi_sub, bi_mul, bi_eql, bi_neq, bi_lss, bi_leq, bi_gtr, bi_geq, unA, ofVal, ofLeaf, resultsA, tupA, AV.rfL, AV.rf, yielded_yv, yv_bool, yv_undef, yv_none, og_n, List.replicate, Option.bind, heapFree, onlyReads, List.set, List.getD, List.getElem?_cons_succ, List.getElem?_cons_zero, Option.getD, Option.map, decide_true, decide_false, if_true, if_false, Bool.false_eq_true, Bool.not_true, Bool.not_false, beq_self_eq_true, Bool.true_and, Bool.and_true, Bool.and_self, Bool.false_and, Bool.and_false, Bool.true_or, Bool.or_true, Bool.false_or, Bool.or_false, Bool.or_self, List.length_cons, List.length_nil, List.cons_append, List.nil_append, ite_self, List.getElem?_toArray, Option.bind_some, Option.bind_none, og_tt, og_ff, og_tf, og_ft, Int.reduceBNe, Int.reduceBEq, Int.reduceLT, Int.reduceLE, alive_run, r14, r16, List.getElem?_cons_succ, List.getElem?_cons_zero]
    | true =>
      obtain ⟨k, e1, e2, e3, e4⟩ := inF_split hf
      obtain ⟨y, y1, y2, y3⟩ := mod_num kk hw' e2 e3
      have hy : y < 2 ^ 64 := Nat.lt_of_lt_of_le y2 (two_pow_le (by omega))
      have r16b := prgNumber_run kk w s y hy hk0 hk
      simp only [numT, hn, if_true, Int.toNat_natCast, y2, decide_true, y3, ← e1] at r16b
      simp only [hf, if_true, e4, y1] at r14
      by_cases hxw : x < 2 ^ w
      · simp only [hxw, decide_true, if_true] at r16
        simp -implicitDefEqProofs only [ox, ou, ko, ky, kn, kd, oy_seq, oy_ret, oy_exit, oy_skip, oy_cond, oy_block, oy_region, oy_draw, dr_eq, dre_some, stl_some, st_nil, st_op, ot, ov, os_same, sy_nil, sy_op, nxt_normal, nxt_ret, nxt_exit, blk_exit, blk_normal, blk_ret, reg_some, cnd_true, cnd_false, opr_some, grd_true, grd_false, fin_ret, fin_normal, finv_some, Region.wanted, opA, callV, aop, evalL, evalO, putE, binA, bi_add, bi_sub, bi_mul, bi_eql, bi_neq, bi_lss, bi_leq, bi_gtr, bi_geq, unA, ofVal, ofLeaf, resultsA, tupA, AV.rfL, AV.rf, yielded_yv, yv_bool, yv_undef, yv_none, og_n, List.replicate, Option.bind, heapFree, onlyReads, List.set, List.getD, List.getElem?_cons_succ, List.getElem?_cons_zero, Option.getD, Option.map, decide_true, decide_false, if_true, if_false, Bool.false_eq_true, Bool.not_true, Bool.not_false, beq_self_eq_true, Bool.true_and, Bool.and_true, Bool.and_self, Bool.false_and, Bool.and_false, Bool.true_or, Bool.or_true, Bool.false_or, Bool.or_false, Bool.or_self, List.length_cons, List.length_nil, List.cons_append, List.nil_append, ite_self, List.getElem?_toArray, Option.bind_some, Option.bind_none, og_tt, og_ff, og_tf, og_ft, Int.reduceBNe, Int.reduceBEq, Int.reduceLT, Int.reduceLE, alive_run, r14, r16, r16b, hb hxw, List.getElem?_cons_succ, List.getElem?_cons_zero, bne_self_eq_false]
      · simp only [hxw, decide_false, Bool.false_eq_true, if_false] at r16
        simp -implicitDefEqProofs only [ox, ou, ko, ky, kn, kd, oy_seq, oy_ret, oy_exit, oy_skip, oy_cond, oy_block, oy_region, oy_draw, dr_eq, dre_some, stl_some, st_nil, st_op, ot, ov, os_same, sy_nil, sy_op, nxt_normal, nxt_ret, nxt_exit, blk_exit, blk_normal, blk_ret, reg_some, cnd_true, cnd_false, opr_some, grd_true, grd_false, fin_ret, fin_normal, finv_some, Region.wanted, opA, callV, aop, evalL, evalO, putE, binA, bi_add, bi_sub, bi_mul, bi_eql, bi_neq, bi_lss, bi_leq, bi_gtr, bi_geq, unA, ofVal, ofLeaf, resultsA, tupA, AV.rfL, AV.rf, yielded_yv, yv_bool, yv_undef, yv_none, og_n, List.replicate, Option.bind, heapFree, onlyReads, List.set, List.getD, List.getElem?_cons_succ, List.getElem?_cons_zero, Option.getD, Option.map, decide_true, decide_false, if_true, if_false, Bool.false_eq_true, Bool.not_true, Bool.not_false, beq_self_eq_true, Bool.true_and, Bool.and_true, Bool.and_self, Bool.false_and, Bool.and_false, Bool.true_or, Bool.or_true, Bool.false_or, Bool.or_false, Bool.or_self, List.length_cons, List.length_nil, List.cons_append, List.nil_append, ite_self, List.getElem?_toArray, Option.bind_some, Option.bind_none, og_tt, og_ff, og_tf, og_ft, Int.reduceBNe, Int.reduceBEq, Int.reduceLT, Int.reduceLE, alive_run, r14, r16, r16b, List.getElem?_cons_succ, List.getElem?_cons_zero, bne_self_eq_false]
theorem eq4 (a b : Bool) : binA Try.prog .eql 4 (.bool a) (.bool b) = some (.bool (a == b)) := by
  simp -implicitDefEqProofs [binA, eqA, Try.underlying4]
theorem ne4 (a b : Bool) : binA Try.prog .neq 4 (.bool a) (.bool b) = some (.bool (!(a == b))) := by
  simp -implicitDefEqProofs [binA, eqA, Try.underlying4]
theorem law9 (kk s n w : Int) (hk0 : 0 ≤ kk) (hk : kk ≤ 255) (hn1 : -9223372036854775808 ≤ n) (hn2 : n ≤ 9223372036854775807) (lo : Nat) :
    callA Try.prog (om Try.prog) lo 9 [.int .u8 kk, .int .i64 s, .int .i64 n, .int .i64 w] Heap.empty = some (.bool true, Heap.empty) := by
  rw [call_eq Try.func9 rfl rfl]
  simp -implicitDefEqProofs only [Try.f9]
  have r18 := fit_run kk s n hk0 hk hn1 hn2
  have r14 := field_run kk w s n hk0 hk hn1 hn2
  have hno : numOk kk w s = (numOk kk 1 s && (decide (1 ≤ w) && decide (w ≤ 32))) := by
    simp only [numOk]
    by_cases a : 2 ≤ kk <;> by_cases b : kk ≤ 4 <;> by_cases c : 1 ≤ w <;> by_cases d : w ≤ 32 <;> simp [a, b, c, d]
  cases hn : numOk kk 1 s with
  | false =>
    rw [hn, Bool.false_and] at hno
    simp only [fldT, fitT, hn, hno, Bool.false_eq_true, if_false] at r14 r18
    simp -implicitDefEqProofs only [ox, ou, ko, ky, kn, kd, oy_seq, oy_ret, oy_exit, oy_skip, oy_cond, oy_block, oy_region, oy_draw, dr_eq, dre_some, stl_some, st_nil, st_op, ot, ov, os_same, sy_nil, sy_op, nxt_normal, nxt_ret, nxt_exit, blk_exit, blk_normal, blk_ret, reg_some, cnd_true, cnd_false, opr_some, grd_true, grd_false, fin_ret, fin_normal, finv_some, Region.wanted, opA, callV, aop, evalL, evalO, putE, binA, bi_add, bi_sub, bi_mul, bi_eql, bi_neq, bi_lss, bi_leq, bi_gtr, bi_geq, unA, ofVal, ofLeaf, resultsA, tupA, AV.rfL, AV.rf, yielded_yv, yv_bool, yv_undef, yv_none, og_n, List.replicate, Option.bind, heapFree, onlyReads, List.set, List.getD, List.getElem?_cons_succ, List.getElem?_cons_zero, Option.getD, Option.map, decide_true, decide_false, if_true, if_false, Bool.false_eq_true, Bool.not_true, Bool.not_false, beq_self_eq_true, Bool.true_and, Bool.and_true, Bool.and_self, Bool.false_and, Bool.and_false, Bool.true_or, Bool.or_true, Bool.false_or, Bool.or_false, Bool.or_self, List.length_cons, List.length_nil, List.cons_append, List.nil_append, ite_self, List.getElem?_toArray, Option.bind_some, Option.bind_none, og_tt, og_ff, og_tf, og_ft, Int.reduceBNe, Int.reduceBEq, Int.reduceLT, Int.reduceLE, alive_run, r14, r18, List.getElem?_cons_succ, List.getElem?_cons_zero]
  | true =>
    rw [hn, Bool.true_and] at hno
    obtain ⟨k1, k2, _, _, hs, hs2⟩ := numOk_iff.1 hn
    obtain ⟨s, rfl⟩ := Int.eq_ofNat_of_zero_le hs
    simp only [fitT, hn, if_true, Int.toNat_natCast, fitFrom_eq] at r18
    -- the field of a width in range, by the least width
    have key : ∀ u : Nat, 1 ≤ u → u ≤ 32 → inF kk u s n = (inF kk 32 s n && decide (fitV kk (n / pow s) ≤ u)) := by
      intro u h1 h2
      rw [inF_fit h1, inF_fit (by decide)]
      by_cases a : n % pow s = 0 <;> by_cases c : fitV kk (n / pow s) ≤ u <;> simp [a, c]
      · omega
    have hp := fitV_pos kk (n / pow s)
    cases hf : inF kk 32 s n with
    | false =>
      simp only [hf, Bool.false_eq_true, if_false] at r18
      have hfe : ∃ e : Int, (e != 0) = true ∧ fldT kk w s n = .tup [.int .u64 0, .int .i64 e] := by
        cases hb : (decide (1 ≤ w) && decide (w ≤ 32)) with
        | false => exact ⟨2, rfl, by simp only [fldT, hno, hb, Bool.false_eq_true, if_false]⟩
        | true =>
          have hb' := hb
          simp only [Bool.and_eq_true, decide_eq_true_eq] at hb'
          refine ⟨24, rfl, ?_⟩
          simp only [fldT, hno, hb, if_true, Int.toNat_natCast, key w.toNat (by omega) (by omega), hf, Bool.false_and, Bool.false_eq_true, if_false]
      obtain ⟨e, e1, e2⟩ := hfe
      rw [e2] at r14
      simp -implicitDefEqProofs only [ox, ou, ko, ky, kn, kd, oy_seq, oy_ret, oy_exit, oy_skip, oy_cond, oy_block, oy_region, oy_draw, dr_eq, dre_some, stl_some, st_nil, st_op, ot, ov, os_same, sy_nil, sy_op, nxt_normal, nxt_ret, nxt_exit, blk_exit, blk_normal, blk_ret, reg_some, cnd_true, cnd_false, opr_some, grd_true, grd_false, fin_ret, fin_normal, finv_some, Region.wanted, opA, callV, aop, evalL, evalO, putE, binA, bi_add, bi_sub, bi_mul, bi_eql, bi_neq, bi_lss, bi_leq, bi_gtr, bi_geq, unA, ofVal, ofLeaf, resultsA, tupA, AV.rfL, AV.rf, yielded_yv, yv_bool, yv_undef, yv_none, og_n, List.replicate, Option.bind, heapFree, onlyReads, List.set, List.getD, List.getElem?_cons_succ, List.getElem?_cons_zero, Option.getD, Option.map, decide_true, decide_false, if_true, if_false, Bool.false_eq_true, Bool.not_true, Bool.not_false, beq_self_eq_true, Bool.true_and, Bool.and_true, Bool.and_self, Bool.false_and, Bool.and_false, Bool.true_or, Bool.or_true, Bool.false_or, Bool.or_false, Bool.or_self, List.length_cons, List.length_nil, List.cons_append, List.nil_append, ite_self, List.getElem?_toArray, Option.bind_some, Option.bind_none, og_tt, og_ff, og_tf, og_ft, Int.reduceBNe, Int.reduceBEq, Int.reduceLT, Int.reduceLE, alive_run, r14, r18, e1, List.getElem?_cons_succ, List.getElem?_cons_zero]
    | true =>
      simp only [hf, if_true] at r18
      obtain ⟨v, hv⟩ : ∃ v, v = fitV kk (n / pow s) := ⟨_, rfl⟩
      rw [← hv] at r18 key hp
      have hv32 : v ≤ 32 := by
        have := hf
        rw [inF_fit (by decide), ← hv] at this
        simp only [Bool.and_eq_true, decide_eq_true_eq] at this
        exact this.2.2
      have r14v := field_run kk v s n hk0 hk hn1 hn2
      have hnv : numOk kk v s = true := numOk_iff.2 ⟨k1, k2, by omega, by omega, hs, hs2⟩
      simp only [fldT, hnv, if_true, Int.toNat_natCast, key v hp hv32, hf, Nat.le_refl, decide_true, Bool.and_self] at r14v
      have c1 : ¬ ((v : Int) < 1) := by omega
      have c2 : ¬ ((32 : Int) < v) := by omega
      by_cases d1 : w < 1
      · obtain ⟨a, e, e2⟩ := fldT_tup kk w s n
        rw [e2] at r14
        simp -implicitDefEqProofs only [ox, ou, ko, ky, kn, kd, oy_seq, oy_ret, oy_exit, oy_skip, oy_cond, oy_block, oy_region, oy_draw, dr_eq, dre_some, stl_some, st_nil, st_op, ot, ov, os_same, sy_nil, sy_op, nxt_normal, nxt_ret, nxt_exit, blk_exit, blk_normal, blk_ret, reg_some, cnd_true, cnd_false, opr_some, grd_true, grd_false, fin_ret, fin_normal, finv_some, Region.wanted, opA, callV, aop, evalL, evalO, putE, binA, bi_add, bi_sub, bi_mul, bi_eql, bi_neq, bi_lss, bi_leq, bi_gtr, bi_geq, unA, ofVal, ofLeaf, resultsA, tupA, AV.rfL, AV.rf, yielded_yv, yv_bool, yv_undef, yv_none, og_n, List.replicate, Option.bind, heapFree, onlyReads, List.set, List.getD, List.getElem?_cons_succ, List.getElem?_cons_zero, Option.getD, Option.map, decide_true, decide_false, if_true, if_false, Bool.false_eq_true, Bool.not_true, Bool.not_false, beq_self_eq_true, Bool.true_and, Bool.and_true, Bool.and_self, Bool.false_and, Bool.and_false, Bool.true_or, Bool.or_true, Bool.false_or, Bool.or_false, Bool.or_self, List.length_cons, List.length_nil, List.cons_append, List.nil_append, ite_self, List.getElem?_toArray, Option.bind_some, Option.bind_none, og_tt, og_ff, og_tf, og_ft, Int.reduceBNe, Int.reduceBEq, Int.reduceLT, Int.reduceLE, alive_run, r14, r18, r14v, c1, c2, d1, List.getElem?_cons_succ, List.getElem?_cons_zero]
      · by_cases d2 : 32 < w
        · obtain ⟨a, e, e2⟩ := fldT_tup kk w s n
          rw [e2] at r14
          simp -implicitDefEqProofs only [ox, ou, ko, ky, kn, kd, oy_seq, oy_ret, oy_exit, oy_skip, oy_cond, oy_block, oy_region, oy_draw, dr_eq, dre_some, stl_some, st_nil, st_op, ot, ov, os_same, sy_nil, sy_op, nxt_normal, nxt_ret, nxt_exit, blk_exit, blk_normal, blk_ret, reg_some, cnd_true, cnd_false, opr_some, grd_true, grd_false, fin_ret, fin_normal, finv_some, Region.wanted, opA, callV, aop, evalL, evalO, putE, binA, bi_add, bi_sub, bi_mul, bi_eql, bi_neq, bi_lss, bi_leq, bi_gtr, bi_geq, unA, ofVal, ofLeaf, resultsA, tupA, AV.rfL, AV.rf, yielded_yv, yv_bool, yv_undef, yv_none, og_n, List.replicate, Option.bind, heapFree, onlyReads, List.set, List.getD, List.getElem?_cons_succ, List.getElem?_cons_zero, Option.getD, Option.map, decide_true, decide_false, if_true, if_false, Bool.false_eq_true, Bool.not_true, Bool.not_false, beq_self_eq_true, Bool.true_and, Bool.and_true, Bool.and_self, Bool.false_and, Bool.and_false, Bool.true_or, Bool.or_true, Bool.false_or, Bool.or_false, Bool.or_self, List.length_cons, List.length_nil, List.cons_append, List.nil_append, ite_self, List.getElem?_toArray, Option.bind_some, Option.bind_none, og_tt, og_ff, og_tf, og_ft, Int.reduceBNe, Int.reduceBEq, Int.reduceLT, Int.reduceLE, alive_run, r14, r18, r14v, c1, c2, d1, d2, List.getElem?_cons_succ, List.getElem?_cons_zero]
        · obtain ⟨w, rfl⟩ := Int.eq_ofNat_of_zero_le (show 0 ≤ w by omega)
          have hno' : numOk kk w s = true := numOk_iff.2 ⟨k1, k2, by omega, by omega, hs, hs2⟩
          by_cases hvw : v ≤ w
          · have g : decide ((v : Int) ≤ (w : Int)) = true := by simp; omega
            simp only [fldT, hno', if_true, Int.toNat_natCast, key w (by omega) (by omega), hf, hvw, decide_true, Bool.and_self] at r14
            have e5 : binA Try.prog .eql 4 (.bool true) (.bool true) = some (.bool true) := eq4 true true
            simp -implicitDefEqProofs only [eq4, ox, ou, ko, ky, kn, kd, oy_seq, oy_ret, oy_exit, oy_skip, oy_cond, oy_block, oy_region, oy_draw, dr_eq, dre_some, stl_some, st_nil, st_op, ot, ov, os_same, sy_nil, sy_op, nxt_normal, nxt_ret, nxt_exit, blk_exit, blk_normal, blk_ret, reg_some, cnd_true, cnd_false, opr_some, grd_true, grd_false, fin_ret, fin_normal, finv_some, Region.wanted, opA, callV, aop, evalL, evalO, putE, binA, bi_add, bi_sub, bi_mul, bi_eql, bi_neq, bi_lss, bi_leq, bi_gtr, bi_geq, unA, ofVal, ofLeaf, resultsA, tupA, AV.rfL, AV.rf, yielded_yv, yv_bool, yv_undef, yv_none, og_n, List.replicate, Option.bind, heapFree, onlyReads, List.set, List.getD, List.getElem?_cons_succ, List.getElem?_cons_zero, Option.getD, Option.map, decide_true, decide_false, if_true, if_false, Bool.false_eq_true, Bool.not_true, Bool.not_false, beq_self_eq_true, Bool.true_and, Bool.and_true, Bool.and_self, Bool.false_and, Bool.and_false, Bool.true_or, Bool.or_true, Bool.false_or, Bool.or_false, Bool.or_self, List.length_cons, List.length_nil, List.cons_append, List.nil_append, ite_self, List.getElem?_toArray, Option.bind_some, Option.bind_none, og_tt, og_ff, og_tf, og_ft, Int.reduceBNe, Int.reduceBEq, Int.reduceLT, Int.reduceLE, alive_run, r14, r18, r14v, c1, c2, d1, d2, g, eqA, Try.underlying4, Option.map, List.getElem?_cons_succ, List.getElem?_cons_zero]
          · have g : decide ((v : Int) ≤ (w : Int)) = false := by simp; omega
            simp only [fldT, hno', if_true, Int.toNat_natCast, key w (by omega) (by omega), hf, hvw, decide_false, Bool.and_false, Bool.false_eq_true, if_false] at r14
            simp -implicitDefEqProofs only [eq4, ox, ou, ko, ky, kn, kd, oy_seq, oy_ret, oy_exit, oy_skip, oy_cond, oy_block, oy_region, oy_draw, dr_eq, dre_some, stl_some, st_nil, st_op, ot, ov, os_same, sy_nil, sy_op, nxt_normal, nxt_ret, nxt_exit, blk_exit, blk_normal, blk_ret, reg_some, cnd_true, cnd_false, opr_some, grd_true, grd_false, fin_ret, fin_normal, finv_some, Region.wanted, opA, callV, aop, evalL, evalO, putE, binA, bi_add, bi_sub, bi_mul, bi_eql, bi_neq, bi_lss, bi_leq, bi_gtr, bi_geq, unA, ofVal, ofLeaf, resultsA, tupA, AV.rfL, AV.rf, yielded_yv, yv_bool, yv_undef, yv_none, og_n, List.replicate, Option.bind, heapFree, onlyReads, List.set, List.getD, List.getElem?_cons_succ, List.getElem?_cons_zero, Option.getD, Option.map, decide_true, decide_false, if_true, if_false, Bool.false_eq_true, Bool.not_true, Bool.not_false, beq_self_eq_true, Bool.true_and, Bool.and_true, Bool.and_self, Bool.false_and, Bool.and_false, Bool.true_or, Bool.or_true, Bool.false_or, Bool.or_false, Bool.or_self, List.length_cons, List.length_nil, List.cons_append, List.nil_append, ite_self, List.getElem?_toArray, Option.bind_some, Option.bind_none, og_tt, og_ff, og_tf, og_ft, Int.reduceBNe, Int.reduceBEq, Int.reduceLT, Int.reduceLE, alive_run, r14, r18, r14v, c1, c2, d1, d2, g, eqA, Try.underlying4, Option.map, List.getElem?_cons_succ, List.getElem?_cons_zero]
end Go.Proofs.Ytlbkcdfllglddaa.fmt
/-! FormatOrder, the run: whatever numbers come in, the law returns true. Conditions: the numbers are of their kinds. -/
namespace Go.Proofs.Ytlbkcdfllglddaa.fmt
open Go Go.Ab
set_option maxRecDepth 100000
set_option linter.unusedSimpArgs false
set_option linter.unusedVariables false
attribute [local simp] ox ou ko ky kn kd oy_seq oy_ret oy_exit oy_skip oy_cond oy_block oy_region oy_draw dr_eq dre_some stl_some st_nil st_op ot ov os_same sy_nil sy_op nxt_normal nxt_ret nxt_exit blk_exit blk_normal blk_ret reg_some cnd_true cnd_false opr_some grd_true grd_false fin_ret fin_normal finv_some Region.wanted opA callV aop evalL evalO putE binA bi_add bi_sub bi_mul bi_eql bi_neq bi_lss bi_leq bi_gtr bi_geq unA ofVal ofLeaf resultsA tupA AV.rfL AV.rf yielded_yv yv_bool yv_undef yv_none og_n List.replicate Option.bind heapFree onlyReads
theorem fld_mul (kk : Int) (w s : Nat) (k : Int) (hn : numOk kk w s = true) (hl : nLow kk w ≤ k) (hh : k ≤ nHigh kk w) : fldT kk w s (pow s * k) = .tup [.int .u64 (k % pow w), .int .i64 0] := by
  have hp := pow_pos' s
  simp only [fldT, hn, if_true, Int.toNat_natCast, inF_mul, hl, hh, decide_true, Bool.and_self, Int.mul_ediv_cancel_left _ (show pow s ≠ 0 by omega)]
theorem eqb (a b : Bool) : eqA Try.prog 4 (.bool a) (.bool b) = some (a == b) := by
  simp -implicitDefEqProofs [eqA, Try.underlying4]
theorem btf : (true == false) = false := rfl
theorem bft : (false == true) = false := rfl
set_option maxHeartbeats 2000000 in
theorem law8 (kk w s n : Int) (hk0 : 0 ≤ kk) (hk : kk ≤ 255) (hn1 : -9223372036854775808 ≤ n) (hn2 : n ≤ 9223372036854775807) (lo : Nat) :
    callA Try.prog (om Try.prog) lo 8 [.int .u8 kk, .int .i64 w, .int .i64 s, .int .i64 n] Heap.empty = some (.bool true, Heap.empty) := by
  rw [call_eq Try.func8 rfl rfl]
  simp -implicitDefEqProofs only [Try.f8]
  have r12 := range_run kk w s hk0 hk
  have r14 := field_run kk w s n hk0 hk hn1 hn2
  cases hn : numOk kk w s with
  | false =>
    simp only [rngT, fldT, hn, Bool.false_eq_true, if_false] at r12 r14
    simp -implicitDefEqProofs only [ox, ou, ko, ky, kn, kd, oy_seq, oy_ret, oy_exit, oy_skip, oy_cond, oy_block, oy_region, oy_draw, dr_eq, dre_some, stl_some, st_nil, st_op, ot, ov, os_same, sy_nil, sy_op, nxt_normal, nxt_ret, nxt_exit, blk_exit, blk_normal, blk_ret, reg_some, cnd_true, cnd_false, opr_some, grd_true, grd_false, fin_ret, fin_normal, finv_some, Region.wanted, opA, callV, aop, evalL, evalO, putE, binA, bi_add, bi_sub, bi_mul, bi_eql, bi_neq, bi_lss, bi_leq, bi_gtr, bi_geq, unA, ofVal, ofLeaf, resultsA, tupA, AV.rfL, AV.rf, yielded_yv, yv_bool, yv_undef, yv_none, og_n, List.replicate, Option.bind, heapFree, onlyReads, List.set, List.getD, List.getElem?_cons_succ, List.getElem?_cons_zero, Option.getD, Option.map, decide_true, decide_false, if_true, if_false, Bool.false_eq_true, Bool.not_true, Bool.not_false, beq_self_eq_true, Bool.true_and, Bool.and_true, Bool.and_self, Bool.false_and, Bool.and_false, Bool.true_or, Bool.or_true, Bool.false_or, Bool.or_false, Bool.or_self, List.length_cons, List.length_nil, List.cons_append, List.nil_append, ite_self, List.getElem?_toArray, Option.bind_some, Option.bind_none, og_tt, og_ff, og_tf, og_ft, Int.reduceBNe, Int.reduceBEq, Int.reduceLT, Int.reduceLE, alive_run, r12, r14, List.getElem?_cons_succ, List.getElem?_cons_zero]
  | true =>
    obtain ⟨k1, k2, hw, hw2, hs, hs2⟩ := numOk_iff.1 hn
    obtain ⟨w, rfl⟩ := Int.eq_ofNat_of_zero_le (show 0 ≤ w by omega)
    obtain ⟨s, rfl⟩ := Int.eq_ofNat_of_zero_le hs
    have hw' : 1 ≤ w := by omega
    have be := ends_bd kk (show w ≤ 32 by omega)
    obtain ⟨ep, el, eh⟩ := ends_pow kk hw'
    have bw := pw_bd (show w ≤ 32 by omega)
    have bs := pw_bd (show s ≤ 3 by omega)
    have ps := pow_pos' s
    have ps8 : pow s ≤ 8 := by unfold pow; omega
    have pw32 : 2 ≤ pow w ∧ pow w ≤ 4294967296 := by
      have : (2 : Nat) ^ 1 ≤ 2 ^ w := two_pow_le hw'
      unfold pow; omega
    obtain ⟨lb1, lb2⟩ := pow_mul_bd (show s ≤ 3 by omega) (Int.le_refl (nLow kk w)) el el (Int.le_refl 0)
    obtain ⟨hb1, hb2⟩ := pow_mul_bd (show s ≤ 3 by omega) eh (Int.le_refl (nHigh kk w)) (Int.le_refl 0) eh
    simp only [rngT, hn, if_true, Int.toNat_natCast] at r12
    have rl := field_run kk w s (pow s * nLow kk w) hk0 hk (by omega) (by omega)
    have rh := field_run kk w s (pow s * nHigh kk w) hk0 hk (by omega) (by omega)
    rw [fld_mul kk w s _ hn (Int.le_refl _) (by omega)] at rl
    rw [fld_mul kk w s _ hn (by omega) (Int.le_refl _)] at rh
    have c1 : ¬ ((s : Int) < 0) := by omega
    have c2 : ¬ ((3 : Int) < (s : Int)) := by omega
    have c3 : ¬ ((w : Int) < 1) := by omega
    have c4 : ¬ ((32 : Int) < (w : Int)) := by omega
    have c5 : ¬ (0 < pow s * nLow kk w) := by omega
    have c6 : ¬ (pow s * nHigh kk w < 0) := by omega
    have u1 : IntKind.u64.wrap (s : Int) = (s : Int) := wrap_u64_lt (by omega)
    have u2 : IntKind.u64.wrap (w : Int) = (w : Int) := wrap_u64_lt (by omega)
    have t1 : shiftA .shl .i64 1 (s : Int) = some (.int .i64 (pow s)) := by
      have e : (1 : Int) * 2 ^ s = pow s := by simp [pow]
      rw [i64_shl (by omega) (by rw [e]; omega) (by rw [e]; omega), e]
    have t2 : shiftA .shl .i64 1 (w : Int) = some (.int .i64 (pow w)) := by
      have e : (1 : Int) * 2 ^ w = pow w := by simp [pow]
      rw [i64_shl (by omega) (by rw [e]; omega) (by rw [e]; omega), e]
    have t3 : IntKind.i64.wrap (pow w - 1) = pow w - 1 := wi64 (by omega) (by omega)
    have t4 : IntKind.i64.wrap (pow s * nHigh kk w - pow s * nLow kk w) = pow s * (pow w - 1) := by
      rw [wi64 (by omega) (by omega), ← Int.mul_sub, ep]
    have q1 : binIntA .quo .i64 (pow s * (pow w - 1)) (pow s) = some (.int .i64 (pow w - 1)) := by
      rw [bi_quo (by omega), Int.mul_tdiv_cancel_left _ (by omega), t3]
    have q2 : binIntA .rem .i64 n (pow s) = some (.int .i64 (n.tmod (pow s))) := bi_rem (by omega)
    have t5 : IntKind.i64.wrap (pow s * nHigh kk w - pow s) = pow s * nHigh kk w - pow s := wi64 (by omega) (by omega)
    have e0 : inF kk w s n = (decide (n % pow s = 0) && (decide (nLow kk w ≤ n / pow s) && decide (n / pow s ≤ nHigh kk w))) := rfl
    cases hf : inF kk w s n with
    | true =>
      obtain ⟨k, f1, f2, f3, f4⟩ := inF_split hf
      subst f1
      obtain ⟨x, x1, x2, x3⟩ := mod_num kk hw' f2 f3
      rw [fld_mul kk w s k hn f2 f3, x1] at r14
      have g1 : decide (pow s * nLow kk w ≤ pow s * k) = true := decide_eq_true (Int.mul_le_mul_of_nonneg_left f2 (by omega))
      have g2 : decide (pow s * k ≤ pow s * nHigh kk w) = true := decide_eq_true (Int.mul_le_mul_of_nonneg_left f3 (by omega))
      have g3 : (pow s * k).tmod (pow s) = 0 := Int.mul_tmod_right _ _
      by_cases hlast : k = nHigh kk w
      · have g4 : decide (pow s * nHigh kk w - pow s < pow s * k) = true := decide_eq_true (by rw [hlast]; omega)
        simp -implicitDefEqProofs only [eqb, btf, bft, ox, ou, ko, ky, kn, kd, oy_seq, oy_ret, oy_exit, oy_skip, oy_cond, oy_block, oy_region, oy_draw, dr_eq, dre_some, stl_some, st_nil, st_op, ot, ov, os_same, sy_nil, sy_op, nxt_normal, nxt_ret, nxt_exit, blk_exit, blk_normal, blk_ret, reg_some, cnd_true, cnd_false, opr_some, grd_true, grd_false, fin_ret, fin_normal, finv_some, Region.wanted, opA, callV, aop, evalL, evalO, putE, binA, bi_add, bi_sub, bi_mul, bi_eql, bi_neq, bi_lss, bi_leq, bi_gtr, bi_geq, unA, ofVal, ofLeaf, resultsA, tupA, AV.rfL, AV.rf, yielded_yv, yv_bool, yv_undef, yv_none, og_n, List.replicate, Option.bind, heapFree, onlyReads, List.set, List.getD, List.getElem?_cons_succ, List.getElem?_cons_zero, Option.getD, Option.map, decide_true, decide_false, if_true, if_false, Bool.false_eq_true, Bool.not_true, Bool.not_false, beq_self_eq_true, Bool.true_and, Bool.and_true, Bool.and_self, Bool.false_and, Bool.and_false, Bool.true_or, Bool.or_true, Bool.false_or, Bool.or_false, Bool.or_self, List.length_cons, List.length_nil, List.cons_append, List.nil_append, ite_self, List.getElem?_toArray, Option.bind_some, Option.bind_none, og_tt, og_ff, og_tf, og_ft, Int.reduceBNe, Int.reduceBEq, Int.reduceLT, Int.reduceLE, alive_run, r12, r14, rl, rh, c1, c2, c3, c4, c5, c6, u1, u2, t1, t2, t3, t4, t5, q1, q2, g1, g2, g3, g4, convertA, Try.underlying3, Try.underlying53, bne_self_eq_false, List.getElem?_cons_succ, List.getElem?_cons_zero]
      · have e6 : pow s * (k + 1) = pow s * k + pow s := by rw [Int.mul_add, Int.mul_one]
        have h6 := Int.mul_le_mul_of_nonneg_left (show k + 1 ≤ nHigh kk w by omega) (show 0 ≤ pow s by omega)
        have g4 : decide (pow s * nHigh kk w - pow s < pow s * k) = false := decide_eq_false (by omega)
        obtain ⟨y, y1, y2, y3⟩ := mod_num kk hw' (show nLow kk w ≤ k + 1 by omega) (show k + 1 ≤ nHigh kk w by omega)
        have t6 : IntKind.i64.wrap (pow s * k + pow s) = pow s * (k + 1) := by
          obtain ⟨b1, b2⟩ := pow_mul_bd (show s ≤ 3 by omega) f2 f3 el eh
          rw [wi64 (by omega) (by omega), e6]
        have rn := field_run kk w s (pow s * (k + 1)) hk0 hk (by
          obtain ⟨b1, b2⟩ := pow_mul_bd (show s ≤ 3 by omega) (show nLow kk w ≤ k + 1 by omega) (show k + 1 ≤ nHigh kk w by omega) el eh
          omega) (by
          obtain ⟨b1, b2⟩ := pow_mul_bd (show s ≤ 3 by omega) (show nLow kk w ≤ k + 1 by omega) (show k + 1 ≤ nHigh kk w by omega) el eh
          omega)
        rw [fld_mul kk w s _ hn (by omega) (by omega), y1] at rn
        have hxy : y = x + 1 ∨ (y = 0 ∧ x + 1 = 2 ^ w) := by
          have hx1 : (x : Int) + 1 ≤ pow w := by unfold pow; omega
          have : (k + 1) % pow w = ((x : Int) + 1) % pow w := by rw [← x1, Int.emod_add_emod]
          rw [y1] at this
          by_cases e : (x : Int) + 1 = pow w
          · right
            rw [e, Int.emod_self] at this
            exact ⟨by omega, by unfold pow at e; omega⟩
          · left
            rw [Int.emod_eq_of_lt (by omega) (by omega)] at this
            omega
        have t7 : IntKind.u64.wrap ((x : Int) + 1) = ((x + 1 : Nat) : Int) := by
          have := wrap_u64_lt (n := x + 1) (by omega)
          rw [← this]; rfl
        have t8 : shiftA .shl .u64 1 (w : Int) = some (.int .u64 ((2 ^ w : Nat) : Int)) := by
          have := u64_shl (a := 1) (y := w) (by omega)
          rw [show ((1 : Nat) : Int) = 1 from rfl, Nat.one_mul, Nat.mod_eq_of_lt (by omega)] at this
          exact this
        have t9 : IntKind.u64.wrap (((2 ^ w : Nat) : Int) - 1) = ((2 ^ w - 1 : Nat) : Int) := by
          have := wrap_u64_lt (n := 2 ^ w - 1) (by omega)
          rw [← this]; congr 1; omega
        rcases hxy with rfl | ⟨rfl, hx⟩
        · simp -implicitDefEqProofs only [eqb, btf, bft, ox, ou, ko, ky, kn, kd, oy_seq, oy_ret, oy_exit, oy_skip, oy_cond, oy_block, oy_region, oy_draw, dr_eq, dre_some, stl_some, st_nil, st_op, ot, ov, os_same, sy_nil, sy_op, nxt_normal, nxt_ret, nxt_exit, blk_exit, blk_normal, blk_ret, reg_some, cnd_true, cnd_false, opr_some, grd_true, grd_false, fin_ret, fin_normal, finv_some, Region.wanted, opA, callV, aop, evalL, evalO, putE, binA, bi_add, bi_sub, bi_mul, bi_eql, bi_neq, bi_lss, bi_leq, bi_gtr, bi_geq, unA, ofVal, ofLeaf, resultsA, tupA, AV.rfL, AV.rf, yielded_yv, yv_bool, yv_undef, yv_none, og_n, List.replicate, Option.bind, heapFree, onlyReads, List.set, List.getD, List.getElem?_cons_succ, List.getElem?_cons_zero, Option.getD, Option.map, decide_true, decide_false, if_true, if_false, Bool.false_eq_true, Bool.not_true, Bool.not_false, beq_self_eq_true, Bool.true_and, Bool.and_true, Bool.and_self, Bool.false_and, Bool.and_false, Bool.true_or, Bool.or_true, Bool.false_or, Bool.or_false, Bool.or_self, List.length_cons, List.length_nil, List.cons_append, List.nil_append, ite_self, List.getElem?_toArray, Option.bind_some, Option.bind_none, og_tt, og_ff, og_tf, og_ft, Int.reduceBNe, Int.reduceBEq, Int.reduceLT, Int.reduceLE, alive_run, r12, r14, rl, rh, rn, c1, c2, c3, c4, c5, c6, u1, u2, t1, t2, t3, t4, t5, t6, t7, q1, q2, g1, g2, g3, g4, convertA, Try.underlying3, Try.underlying53, bne_self_eq_false, List.getElem?_cons_succ, List.getElem?_cons_zero]
        · have g5 : ((0 : Int) == ((x + 1 : Nat) : Int)) = false := by
            simp only [beq_eq_false_iff_ne, ne_eq]; omega
          have g6 : ((x : Int) == ((2 ^ w - 1 : Nat) : Int)) = true := by
            simp only [beq_iff_eq]; omega
          simp -implicitDefEqProofs only [eqb, btf, bft, ox, ou, ko, ky, kn, kd, oy_seq, oy_ret, oy_exit, oy_skip, oy_cond, oy_block, oy_region, oy_draw, dr_eq, dre_some, stl_some, st_nil, st_op, ot, ov, os_same, sy_nil, sy_op, nxt_normal, nxt_ret, nxt_exit, blk_exit, blk_normal, blk_ret, reg_some, cnd_true, cnd_false, opr_some, grd_true, grd_false, fin_ret, fin_normal, finv_some, Region.wanted, opA, callV, aop, evalL, evalO, putE, binA, bi_add, bi_sub, bi_mul, bi_eql, bi_neq, bi_lss, bi_leq, bi_gtr, bi_geq, unA, ofVal, ofLeaf, resultsA, tupA, AV.rfL, AV.rf, yielded_yv, yv_bool, yv_undef, yv_none, og_n, List.replicate, Option.bind, heapFree, onlyReads, List.set, List.getD, List.getElem?_cons_succ, List.getElem?_cons_zero, Option.getD, Option.map, decide_true, decide_false, if_true, if_false, Bool.false_eq_true, Bool.not_true, Bool.not_false, beq_self_eq_true, Bool.true_and, Bool.and_true, Bool.and_self, Bool.false_and, Bool.and_false, Bool.true_or, Bool.or_true, Bool.false_or, Bool.or_false, Bool.or_self, List.length_cons, List.length_nil, List.cons_append, List.nil_append, ite_self, List.getElem?_toArray, Option.bind_some, Option.bind_none, og_tt, og_ff, og_tf, og_ft, Int.reduceBNe, Int.reduceBEq, Int.reduceLT, Int.reduceLE, alive_run, r12, r14, rl, rh, rn, c1, c2, c3, c4, c5, c6, u1, u2, t1, t2, t3, t4, t5, t6, t7, t8, t9, q1, q2, g1, g2, g3, g4, g5, g6, c0, convertA, Try.underlying3, Try.underlying53, bne_self_eq_false, List.getElem?_cons_succ, List.getElem?_cons_zero]
    | false =>
      have r14' := r14
      simp only [fldT, hn, hf, if_true, Bool.false_eq_true, if_false, Int.toNat_natCast] at r14
      by_cases g1 : pow s * nLow kk w ≤ n
      · by_cases g2 : n ≤ pow s * nHigh kk w
        · have g3 : (n.tmod (pow s) == 0) = false := by
            simp only [beq_eq_false_iff_ne, ne_eq]
            intro h
            have hd := Int.dvd_of_tmod_eq_zero h
            obtain ⟨k, rfl⟩ := hd
            rw [inF_mul] at hf
            have a1 : nLow kk w ≤ k := Int.le_of_mul_le_mul_left g1 (by omega)
            have a2 : k ≤ nHigh kk w := Int.le_of_mul_le_mul_left g2 (by omega)
            simp [a1, a2] at hf
          simp -implicitDefEqProofs only [eqb, btf, bft, ox, ou, ko, ky, kn, kd, oy_seq, oy_ret, oy_exit, oy_skip, oy_cond, oy_block, oy_region, oy_draw, dr_eq, dre_some, stl_some, st_nil, st_op, ot, ov, os_same, sy_nil, sy_op, nxt_normal, nxt_ret, nxt_exit, blk_exit, blk_normal, blk_ret, reg_some, cnd_true, cnd_false, opr_some, grd_true, grd_false, fin_ret, fin_normal, finv_some, Region.wanted, opA, callV, aop, evalL, evalO, putE, binA, bi_add, bi_sub, bi_mul, bi_eql, bi_neq, bi_lss, bi_leq, bi_gtr, bi_geq, unA, ofVal, ofLeaf, resultsA, tupA, AV.rfL, AV.rf, yielded_yv, yv_bool, yv_undef, yv_none, og_n, List.replicate, Option.bind, heapFree, onlyReads, List.set, List.getD, List.getElem?_cons_succ, List.getElem?_cons_zero, Option.getD, Option.map, decide_true, decide_false, if_true, if_false, Bool.false_eq_true, Bool.not_true, Bool.not_false, beq_self_eq_true, Bool.true_and, Bool.and_true, Bool.and_self, Bool.false_and, Bool.and_false, Bool.true_or, Bool.or_true, Bool.false_or, Bool.or_false, Bool.or_self, List.length_cons, List.length_nil, List.cons_append, List.nil_append, ite_self, List.getElem?_toArray, Option.bind_some, Option.bind_none, og_tt, og_ff, og_tf, og_ft, Int.reduceBNe, Int.reduceBEq, Int.reduceLT, Int.reduceLE, alive_run, r12, r14, rl, rh, c1, c2, c3, c4, c5, c6, u1, u2, t1, t2, t3, t4, t5, q1, q2, g1, g2, g3, convertA, Try.underlying3, Try.underlying53, bne_self_eq_false, List.getElem?_cons_succ, List.getElem?_cons_zero]
        · simp -implicitDefEqProofs only [eqb, btf, bft, ox, ou, ko, ky, kn, kd, oy_seq, oy_ret, oy_exit, oy_skip, oy_cond, oy_block, oy_region, oy_draw, dr_eq, dre_some, stl_some, st_nil, st_op, ot, ov, os_same, sy_nil, sy_op, nxt_normal, nxt_ret, nxt_exit, blk_exit, blk_normal, blk_ret, reg_some, cnd_true, cnd_false, opr_some, grd_true, grd_false, fin_ret, fin_normal, finv_some, Region.wanted, opA, callV, aop, evalL, evalO, putE, binA, bi_add, bi_sub, bi_mul, bi_eql, bi_neq, bi_lss, bi_leq, bi_gtr, bi_geq, unA, ofVal, ofLeaf, resultsA, tupA, AV.rfL, AV.rf, yielded_yv, yv_bool, yv_undef, yv_none, og_n, List.replicate, Option.bind, heapFree, onlyReads, List.set, List.getD, List.getElem?_cons_succ, List.getElem?_cons_zero, Option.getD, Option.map, decide_true, decide_false, if_true, if_false, Bool.false_eq_true, Bool.not_true, Bool.not_false, beq_self_eq_true, Bool.true_and, Bool.and_true, Bool.and_self, Bool.false_and, Bool.and_false, Bool.true_or, Bool.or_true, Bool.false_or, Bool.or_false, Bool.or_self, List.length_cons, List.length_nil, List.cons_append, List.nil_append, ite_self, List.getElem?_toArray, Option.bind_some, Option.bind_none, og_tt, og_ff, og_tf, og_ft, Int.reduceBNe, Int.reduceBEq, Int.reduceLT, Int.reduceLE, alive_run, r12, r14, rl, rh, c1, c2, c3, c4, c5, c6, u1, u2, t1, t2, t3, t4, t5, q1, q2, g1, g2, convertA, Try.underlying3, Try.underlying53, bne_self_eq_false, List.getElem?_cons_succ, List.getElem?_cons_zero]
      · simp -implicitDefEqProofs only [eqb, btf, bft, ox, ou, ko, ky, kn, kd, oy_seq, oy_ret, oy_exit, oy_skip, oy_cond, oy_block, oy_region, oy_draw, dr_eq, dre_some, stl_some, st_nil, st_op, ot, ov, os_same, sy_nil, sy_op, nxt_normal, nxt_ret, nxt_exit, blk_exit, blk_normal, blk_ret, reg_some, cnd_true, cnd_false, opr_some, grd_true, grd_false, fin_ret, fin_normal, finv_some, Region.wanted, opA, callV, aop, evalL, evalO, putE, binA, bi_add, bi_sub, bi_mul, bi_eql, bi_neq, bi_lss, bi_leq, bi_gtr, bi_geq, unA, ofVal, ofLeaf, resultsA, tupA, AV.rfL, AV.rf, yielded_yv, yv_bool, yv_undef, yv_none, og_n, List.replicate, Option.bind, heapFree, onlyReads, List.set, List.getD, List.getElem?_cons_succ, List.getElem?_cons_zero, Option.getD, Option.map, decide_true, decide_false, if_true, if_false, Bool.false_eq_true, Bool.not_true, Bool.not_false, beq_self_eq_true, Bool.true_and, Bool.and_true, Bool.and_self, Bool.false_and, Bool.and_false, Bool.true_or, Bool.or_true, Bool.false_or, Bool.or_false, Bool.or_self, List.length_cons, List.length_nil, List.cons_append, List.nil_append, ite_self, List.getElem?_toArray, Option.bind_some, Option.bind_none, og_tt, og_ff, og_tf, og_ft, Int.reduceBNe, Int.reduceBEq, Int.reduceLT, Int.reduceLE, alive_run, r12, r14, rl, rh, c1, c2, c3, c4, c5, c6, u1, u2, t1, t2, t3, t4, t5, q1, q2, g1, convertA, Try.underlying3, Try.underlying53, bne_self_eq_false, List.getElem?_cons_succ, List.getElem?_cons_zero]
end Go.Proofs.Ytlbkcdfllglddaa.fmt
/-! Bits at places, in plain Lean: words as the sums of the powers at places, fields got from places and put there. Conditions: in each statement. -/
namespace Go.Proofs.Ytlbkcdfllglddaa.fmt
theorem add_or : ∀ (x y : Nat), x &&& y = 0 → x + y = x ||| y := by
  intro x
  induction x using Nat.strongRecOn with
  | ind x ih =>
    intro y h
    by_cases hx : x = 0
    · subst hx; simp
    · have h2 : x / 2 &&& y / 2 = 0 := by rw [← Nat.and_div_two, h]
      have e := ih (x / 2) (by omega) (y / 2) h2
      have hm : ¬ (x % 2 = 1 ∧ y % 2 = 1) := fun k => by
        have := Nat.and_mod_two_eq_one.2 k
        rw [h] at this; omega
      have ho : (x ||| y) % 2 = 1 ↔ x % 2 = 1 ∨ y % 2 = 1 := Nat.or_mod_two_eq_one
      have hd : (x ||| y) / 2 = x / 2 ||| y / 2 := Nat.or_div_two
      omega
theorem and_two_pow {x p : Nat} (h : x.testBit p = false) : x &&& 2 ^ p = 0 := by
  apply Nat.eq_of_testBit_eq
  intro i
  rw [Nat.testBit_and, Nat.testBit_two_pow, Nat.zero_testBit]
  by_cases e : p = i
  · subst e; rw [h]; rfl
  · simp [e]
theorem add_two_pow {x p : Nat} (h : x.testBit p = false) : x + 2 ^ p = x ||| 2 ^ p := add_or _ _ (and_two_pow h)
/-- the word with the bits at places -/
def orP : List Nat → Nat
  | [] => 0
  | p :: ps => orP ps ||| 2 ^ p
theorem orP_bit (i : Nat) : ∀ ps : List Nat, (orP ps).testBit i = decide (i ∈ ps)
  | [] => by simp [orP]
  | p :: ps => by
    rw [orP, Nat.testBit_or, orP_bit i ps, Nat.testBit_two_pow]
    rw [Bool.eq_iff_iff]
    simp only [Bool.or_eq_true, decide_eq_true_eq, List.mem_cons]
    constructor
    · rintro (h | h)
      · exact .inr h
      · exact .inl h.symm
    · rintro (h | h)
      · exact .inr h.symm
      · exact .inl h
theorem orP_lt {ps : List Nat} {n : Nat} (h : ∀ p ∈ ps, p < n) : orP ps < 2 ^ n := by
  apply Nat.lt_pow_two_of_testBit
  intro i hi
  rw [orP_bit]
  simp only [decide_eq_false_iff_not]
  exact fun hm => by have := h i hm; omega
theorem orP_snoc (ps : List Nat) (p : Nat) (h : p ∉ ps) : orP (ps ++ [p]) = orP ps + 2 ^ p := by
  rw [add_two_pow (by rw [orP_bit]; simpa using h)]
  apply Nat.eq_of_testBit_eq
  intro i
  rw [orP_bit, Nat.testBit_or, orP_bit, Nat.testBit_two_pow, Bool.eq_iff_iff]
  simp only [Bool.or_eq_true, decide_eq_true_eq, List.mem_append, List.mem_singleton]
  constructor
  · rintro (h | h)
    · exact .inl h
    · exact .inr h.symm
  · rintro (h | h)
    · exact .inl h
    · exact .inr h.symm
/-- a word's bits at places, as a number -/
def getF : List Nat → Nat → Nat
  | [], _ => 0
  | p :: ps, w => (w.testBit p).toNat + 2 * getF ps w
theorem getF_bit (w : Nat) : ∀ (ps : List Nat) (j : Nat), (getF ps w).testBit j = match ps[j]? with | some p => w.testBit p | none => false
  | [], j => by simp [getF]
  | p :: ps, 0 => by
    have : (w.testBit p).toNat ≤ 1 := Bool.toNat_le _
    rw [getF]
    cases h : w.testBit p <;> simp [Nat.testBit_zero, h]
  | p :: ps, j + 1 => by
    rw [getF, Nat.testBit_add_one]
    have : ((w.testBit p).toNat + 2 * getF ps w) / 2 = getF ps w := by
      have : (w.testBit p).toNat ≤ 1 := Bool.toNat_le _
      omega
    rw [this, getF_bit w ps j]; simp
theorem getF_lt (w : Nat) (ps : List Nat) : getF ps w < 2 ^ ps.length := by
  apply Nat.lt_pow_two_of_testBit
  intro i hi
  rw [getF_bit, List.getElem?_eq_none hi]
theorem getF_snoc (w : Nat) (ps : List Nat) (p : Nat) : getF (ps ++ [p]) w = getF ps w + (if w.testBit p then 2 ^ ps.length else 0) := by
  induction ps with
  | nil => cases h : w.testBit p <;> simp [getF, h]
  | cons q ps ih =>
    simp only [List.cons_append, getF, ih, List.length_cons, Nat.pow_succ]
    split <;> omega
/-- a bit of a word is made so -/
def setB (w p : Nat) (b : Bool) : Nat := (w - if w.testBit p then 2 ^ p else 0) + if b then 2 ^ p else 0
theorem sub_two_pow {w p : Nat} (h : w.testBit p = true) : 2 ^ p ≤ w ∧ ∀ i, (w - 2 ^ p).testBit i = (w.testBit i && !decide (p = i)) := by
  have h1 := Nat.ge_two_pow_of_testBit h
  have hx : (w ^^^ 2 ^ p).testBit p = false := by rw [Nat.testBit_xor, h, Nat.testBit_two_pow_self]; rfl
  have e : (w ^^^ 2 ^ p) + 2 ^ p = w := by
    rw [add_two_pow hx]
    apply Nat.eq_of_testBit_eq
    intro i
    rw [Nat.testBit_or, Nat.testBit_xor, Nat.testBit_two_pow]
    by_cases e : p = i
    · subst e; simp [h]
    · simp [e]
  refine ⟨h1, fun i => ?_⟩
  have : w - 2 ^ p = w ^^^ 2 ^ p := by omega
  rw [this, Nat.testBit_xor, Nat.testBit_two_pow]
  by_cases e : p = i
  · subst e; simp [h]
  · simp [e]
theorem setB_bit (w p : Nat) (b : Bool) (i : Nat) : (setB w p b).testBit i = if i = p then b else w.testBit i := by
  have key : ∀ v : Nat, v.testBit p = false → (∀ i, i ≠ p → v.testBit i = w.testBit i) → (v + if b then 2 ^ p else 0).testBit i = if i = p then b else w.testBit i := by
    intro v h1 h2
    cases b with
    | false =>
      simp only [Bool.false_eq_true, if_false, Nat.add_zero]
      by_cases e : i = p
      · subst e; simp [h1]
      · simp [e, h2 i e]
    | true =>
      simp only [if_true]
      rw [add_two_pow h1, Nat.testBit_or, Nat.testBit_two_pow]
      by_cases e : i = p
      · subst e; simp
      · simp [e, h2 i e, Ne.symm e]
  unfold setB
  cases hw : w.testBit p with
  | false => simp only [Bool.false_eq_true, if_false, Nat.sub_zero]; exact key w hw fun _ _ => rfl
  | true =>
    simp only [if_true]
    have h := (sub_two_pow hw).2
    exact key _ (by rw [h]; simp) fun i e => by rw [h]; simp [Ne.symm e]
theorem lt_of_bits {x n : Nat} (h : ∀ i, x.testBit i = true → i < n) : x < 2 ^ n := by
  apply Nat.lt_pow_two_of_testBit
  intro i hi
  cases e : x.testBit i with
  | false => rfl
  | true => have := h i e; omega
theorem bit_lt {x n i : Nat} (h : x < 2 ^ n) (hb : x.testBit i = true) : i < n := by
  by_cases e : i < n
  · exact e
  · have := Nat.testBit_lt_two_pow (Nat.lt_of_lt_of_le h (Nat.pow_le_pow_right (by decide) (show n ≤ i by omega)))
    rw [this] at hb; cases hb
theorem setB_lt {w p n : Nat} {b : Bool} (hw : w < 2 ^ n) (hp : p < n) : setB w p b < 2 ^ n := by
  apply lt_of_bits
  intro i hi
  rw [setB_bit] at hi
  split at hi
  · omega
  · exact bit_lt hw hi
/-- a field's bits laid at places of a word -/
def putF : List Nat → Nat → Nat → Nat
  | [], w, _ => w
  | p :: ps, w, f => putF ps (setB w p (f.testBit 0)) (f / 2)
theorem putF_bit : ∀ (ps : List Nat) (w f i : Nat), ps.Nodup → (putF ps w f).testBit i = match ps.idxOf? i with | some j => f.testBit j | none => w.testBit i
  | [], w, f, i, _ => rfl
  | p :: ps, w, f, i, h => by
    rw [List.nodup_cons] at h
    rw [putF, putF_bit ps _ _ i h.2, List.idxOf?_cons]
    by_cases e : p = i
    · subst e
      have : ps.idxOf? p = none := List.idxOf?_eq_none_iff.2 h.1
      simp [this, setB_bit]
    · have e' : (p == i) = false := by simp [e]
      rw [e']
      cases hj : ps.idxOf? i with
      | none => simp [setB_bit, Ne.symm e]
      | some j => simp [Nat.testBit_add_one]
theorem putF_lt : ∀ (ps : List Nat) (w f n : Nat), w < 2 ^ n → (∀ p ∈ ps, p < n) → putF ps w f < 2 ^ n
  | [], w, f, n, h, _ => h
  | p :: ps, w, f, n, h, hp => by
    rw [putF]; exact putF_lt ps _ _ n (setB_lt h (hp p (by simp))) fun q hq => hp q (by simp [hq])
theorem putF_snoc : ∀ (ps : List Nat) (p w f : Nat), putF (ps ++ [p]) w f = setB (putF ps w f) p (f.testBit ps.length)
  | [], p, w, f => by simp [putF]
  | q :: ps, p, w, f => by simp only [List.cons_append, putF, List.length_cons, putF_snoc ps, Nat.testBit_add_one]
end Go.Proofs.Ytlbkcdfllglddaa.fmt
/-! Layouts, in plain Lean: the places of pieces, one after the other; what the program's words come to. Conditions: in each statement. -/
namespace Go.Proofs.Ytlbkcdfllglddaa.fmt
/-- a piece: where its bits lie, and how many -/
abbrev Pc := Nat × Nat
def run (p : Pc) : List Nat := (List.range p.2).map (p.1 + ·)
def places (l : List Pc) : List Nat := l.flatMap run
def width (l : List Pc) : Nat := (places l).length
theorem run_len (p : Pc) : (run p).length = p.2 := by simp [run]
theorem mem_run {p : Pc} {i : Nat} : i ∈ run p ↔ p.1 ≤ i ∧ i < p.1 + p.2 := by
  simp only [run, List.mem_map, List.mem_range]
  constructor
  · rintro ⟨k, h, rfl⟩; omega
  · rintro ⟨h1, h2⟩; exact ⟨i - p.1, by omega, by omega⟩
theorem run_nodup (p : Pc) : (run p).Nodup := by
  unfold run List.Nodup
  rw [List.pairwise_map]
  exact (List.nodup_range).imp fun h e => h (by omega)
theorem places_snoc (l : List Pc) (p : Pc) : places (l ++ [p]) = places l ++ run p := by simp [places]
theorem places_cons (l : List Pc) (p : Pc) : places (p :: l) = run p ++ places l := by simp [places]
theorem width_snoc (l : List Pc) (p : Pc) : width (l ++ [p]) = width l + p.2 := by simp [width, places_snoc, run_len]
theorem mem_places {l : List Pc} {i : Nat} : i ∈ places l ↔ ∃ p ∈ l, p.1 ≤ i ∧ i < p.1 + p.2 := by
  simp only [places, List.mem_flatMap, mem_run]
/-- the mask of a piece -/
def pm (p : Pc) : Nat := (2 ^ p.2 - 1) * 2 ^ p.1
theorem pm_bit (p : Pc) (i : Nat) : (pm p).testBit i = decide (i ∈ run p) := by
  rw [pm, Nat.testBit_mul_two_pow, Nat.testBit_two_pow_sub_one, Bool.eq_iff_iff]
  simp only [Bool.and_eq_true, decide_eq_true_eq, mem_run]
  omega
theorem orP_append (ps qs : List Nat) : orP (ps ++ qs) = orP ps ||| orP qs := by
  apply Nat.eq_of_testBit_eq
  intro i
  rw [orP_bit, Nat.testBit_or, orP_bit, orP_bit, Bool.eq_iff_iff]
  simp
theorem orP_run (p : Pc) : orP (run p) = pm p := by
  apply Nat.eq_of_testBit_eq; intro i; rw [orP_bit, pm_bit]
theorem orP_places (l : List Pc) (p : Pc) : orP (places (l ++ [p])) = orP (places l) ||| pm p := by rw [places_snoc, orP_append, orP_run]
/-- two pieces have a bit in common -/
def meets (p q : Pc) : Prop := p.1 < q.1 + q.2 ∧ q.1 < p.1 + p.2
theorem and_ne_zero {x y : Nat} : x &&& y ≠ 0 ↔ ∃ i, x.testBit i = true ∧ y.testBit i = true := by
  constructor
  · intro h
    obtain ⟨i, hi⟩ := Nat.exists_testBit_of_ne_zero h
    rw [Nat.testBit_and, Bool.and_eq_true] at hi
    exact ⟨i, hi⟩
  · rintro ⟨i, h1, h2⟩ h
    have : (x &&& y).testBit i = true := by rw [Nat.testBit_and, h1, h2]; rfl
    rw [h, Nat.zero_testBit] at this; cases this
theorem meets_iff {l : List Pc} {q : Pc} (hl : ∀ p ∈ l, 1 ≤ p.2) (hq : 1 ≤ q.2) : orP (places l) &&& pm q ≠ 0 ↔ ∃ p ∈ l, meets p q := by
  rw [and_ne_zero]
  simp only [orP_bit, pm_bit, decide_eq_true_eq, mem_places, mem_run, meets]
  constructor
  · rintro ⟨i, ⟨p, hp, h1, h2⟩, h3, h4⟩
    exact ⟨p, hp, by omega, by omega⟩
  · rintro ⟨p, hp, h1, h2⟩
    have := hl p hp
    exact ⟨max p.1 q.1, ⟨p, hp, by omega, by omega⟩, by omega, by omega⟩
/-- a layout: pieces of one bit or more that lie in a word, none with a bit of an earlier one -/
def Lay (size : Nat) (l : List Pc) : Prop := (∀ p ∈ l, 1 ≤ p.2 ∧ p.1 + p.2 ≤ size) ∧ (places l).Nodup
theorem Lay.lt {size : Nat} {l : List Pc} (h : Lay size l) : ∀ i ∈ places l, i < size := by
  intro i hi
  obtain ⟨p, hp, h1, h2⟩ := mem_places.1 hi
  have := h.1 p hp; omega
theorem Lay.nil (size : Nat) : Lay size [] := ⟨by simp, by simp [places, List.Nodup]⟩
theorem Lay.front {size : Nat} {l : List Pc} {p : Pc} (h : Lay size (l ++ [p])) : Lay size l :=
  ⟨fun q hq => h.1 q (by simp [hq]), by have := h.2; rw [places_snoc, List.nodup_append] at this; exact this.1⟩
theorem Lay.pre {size : Nat} {l m : List Pc} (h : Lay size (l ++ m)) : Lay size l :=
  ⟨fun q hq => h.1 q (by simp [hq]), by have := h.2; rw [places, List.flatMap_append, List.nodup_append] at this; exact this.1⟩
theorem Lay.snoc {size : Nat} {l : List Pc} {q : Pc} : Lay size (l ++ [q]) ↔ Lay size l ∧ (1 ≤ q.2 ∧ q.1 + q.2 ≤ size) ∧ ¬ ∃ p ∈ l, meets p q := by
  constructor
  · intro h
    refine ⟨h.front, h.1 q (by simp), ?_⟩
    rintro ⟨p, hp, h1, h2⟩
    have hn := h.2
    rw [places_snoc, List.nodup_append] at hn
    have a := h.1 p (by simp [hp]); have b := h.1 q (by simp)
    exact hn.2.2 (max p.1 q.1) (mem_places.2 ⟨p, hp, by omega, by omega⟩) _ (mem_run.2 (by omega)) rfl
  · rintro ⟨⟨h1, h2⟩, h3, h4⟩
    refine ⟨fun p hp => ?_, ?_⟩
    · rcases List.mem_append.1 hp with hp | hp
      · exact h1 p hp
      · obtain rfl := List.mem_singleton.1 hp; exact h3
    · rw [places_snoc, List.nodup_append]
      refine ⟨h2, run_nodup q, fun i hi j hj e => ?_⟩
      subst e
      obtain ⟨p, hp, a, b⟩ := mem_places.1 hi
      rw [mem_run] at hj
      exact h4 ⟨p, hp, by unfold meets; omega⟩
theorem orP_sub {ps : List Nat} (h : ps.Nodup) {n : Nat} (hn : ∀ p ∈ ps, p < n) : ps.length ≤ n := by
  have : ps.length ≤ (List.range n).length := List.Nodup.length_le_of_subset h fun p hp => List.mem_range.2 (hn p hp)
  simpa using this
theorem Lay.width_le {size : Nat} {l : List Pc} (h : Lay size l) : width l ≤ size := orP_sub h.2 h.lt
theorem getF_append (w : Nat) (ps qs : List Nat) : getF (ps ++ qs) w = getF ps w + 2 ^ ps.length * getF qs w := by
  induction ps with
  | nil => simp [getF]
  | cons p ps ih =>
    simp only [List.cons_append, getF, ih, List.length_cons, Nat.pow_succ]
    rw [Nat.mul_add, Nat.mul_right_comm]
    omega
theorem getF_run (w : Nat) (p : Pc) : getF (run p) w = w / 2 ^ p.1 % 2 ^ p.2 := by
  apply Nat.eq_of_testBit_eq
  intro j
  rw [getF_bit, Nat.testBit_mod_two_pow, Nat.testBit_div_two_pow]
  by_cases h : j < p.2
  · have : (run p)[j]? = some (p.1 + j) := by simp [run, List.getElem?_map, List.getElem?_range h]
    rw [this]; simp [h, Nat.add_comm]
  · have : (run p)[j]? = none := List.getElem?_eq_none (by rw [run_len]; omega)
    rw [this]; simp [h]
/-- one more piece is got -/
theorem get_step {size : Nat} {l : List Pc} {p : Pc} (h : Lay size (l ++ [p])) (hs : size ≤ 64) (w : Nat) :
    getF (places l) w ||| ((w / 2 ^ p.1 &&& (2 ^ p.2 - 1)) * 2 ^ width l % 2 ^ 64) = getF (places (l ++ [p])) w := by
  have hw := h.width_le
  rw [width_snoc] at hw
  rw [Nat.and_two_pow_sub_one_eq_mod, ← getF_run, places_snoc, getF_append]
  have h1 := getF_lt w (run p)
  rw [run_len] at h1
  have h2 : getF (run p) w * 2 ^ width l < 2 ^ 64 := by
    have : getF (run p) w * 2 ^ width l < 2 ^ p.2 * 2 ^ width l := Nat.mul_lt_mul_of_pos_right h1 (Nat.two_pow_pos _)
    rw [← Nat.pow_add] at this
    exact Nat.lt_of_lt_of_le this (Nat.pow_le_pow_right (by decide) (by omega))
  rw [Nat.mod_eq_of_lt h2, Nat.or_comm, Nat.mul_comm]
  have h3 := getF_lt w (places l)
  have e : width l = (places l).length := rfl
  rw [e, ← Nat.two_pow_add_eq_or_of_lt h3]
  omega
theorem idx_append (xs ys : List Nat) (i : Nat) : (xs ++ ys).idxOf? i = match xs.idxOf? i with | some j => some j | none => (ys.idxOf? i).map (· + xs.length) := by
  induction xs with
  | nil => simp
  | cons x xs ih =>
    rw [List.cons_append, List.idxOf?_cons, List.idxOf?_cons, ih]
    by_cases e : x = i
    · simp [e]
    · have e' : (x == i) = false := by simp [e]
      rw [e']
      cases xs.idxOf? i with
      | some j => simp
      | none => cases ys.idxOf? i <;> simp [Nat.add_assoc]
theorem idx_map_add (a i : Nat) : ∀ (n k : Nat), ((List.range' k n).map (a + ·)).idxOf? i = if a + k ≤ i ∧ i < a + k + n then some (i - a - k) else none
  | 0, k => by rw [if_neg (by omega)]; rfl
  | n + 1, k => by
    rw [List.range'_succ, List.map_cons, List.idxOf?_cons, idx_map_add a i n (k + 1)]
    by_cases e : a + k = i
    · subst e; simp
    · have e' : (a + k == i) = false := by simp [e]
      have h1 : (a + k ≤ i ∧ i < a + k + (n + 1)) ↔ (a + (k + 1) ≤ i ∧ i < a + (k + 1) + n) := by omega
      simp only [e', h1, Bool.false_eq_true, if_false]
      split
      · simp; omega
      · simp
theorem idx_run (p : Pc) (i : Nat) : (run p).idxOf? i = if p.1 ≤ i ∧ i < p.1 + p.2 then some (i - p.1) else none := by
  have := idx_map_add p.1 i p.2 0
  simpa [run, List.range_eq_range'] using this
/-- bits of a word of which some have been put -/
def Put1 (l : List Pc) (m w f v : Nat) : Prop := ∀ i, v.testBit i = match (places l).idxOf? i with | some j => f.testBit j | none => w.testBit i && !m.testBit i
theorem put_step {size : Nat} {l r : List Pc} {p : Pc} (h : Lay size (l ++ p :: r)) (hs : size ≤ 64) {w f v : Nat} (hv : Put1 l (orP (places (l ++ p :: r))) w f v) :
    Put1 (l ++ [p]) (orP (places (l ++ p :: r))) w f (v ||| ((f / 2 ^ width l &&& (2 ^ p.2 - 1)) * 2 ^ p.1 % 2 ^ 64)) := by
  intro i
  have hp := h.1 p (by simp)
  have hlt : (f / 2 ^ width l &&& (2 ^ p.2 - 1)) * 2 ^ p.1 < 2 ^ 64 := by
    rw [Nat.and_two_pow_sub_one_eq_mod]
    have h1 : f / 2 ^ width l % 2 ^ p.2 < 2 ^ p.2 := Nat.mod_lt _ (Nat.two_pow_pos _)
    have : f / 2 ^ width l % 2 ^ p.2 * 2 ^ p.1 < 2 ^ p.2 * 2 ^ p.1 := Nat.mul_lt_mul_of_pos_right h1 (Nat.two_pow_pos _)
    rw [← Nat.pow_add] at this
    exact Nat.lt_of_lt_of_le this (Nat.pow_le_pow_right (by decide) (by omega))
  rw [Nat.mod_eq_of_lt hlt, Nat.testBit_or, hv i, Nat.testBit_mul_two_pow, Nat.and_two_pow_sub_one_eq_mod, Nat.testBit_mod_two_pow, Nat.testBit_div_two_pow, places_snoc, idx_append]
  cases hj : (places l).idxOf? i with
  | some j =>
    -- not in p
    have hi : i ∈ places l := by
      by_cases hc : i ∈ places l
      · exact hc
      · rw [List.idxOf?_eq_none_iff.2 hc] at hj; cases hj
    have hn : ¬ (p.1 ≤ i ∧ i < p.1 + p.2) := fun hc => by
      have h2 := h.2
      rw [places, List.flatMap_append, List.nodup_append] at h2
      exact h2.2.2 i hi i (by simp [mem_run, hc]) rfl
    have : (decide (i ≥ p.1) && (decide (i - p.1 < p.2) && f.testBit (i - p.1 + width l))) = false := by
      by_cases a : p.1 ≤ i
      · have : ¬ (i - p.1 < p.2) := by omega
        simp [this]
      · simp [a]
    simp [this]
  | none =>
    simp only [idx_run]
    by_cases hc : p.1 ≤ i ∧ i < p.1 + p.2
    · have hm : (orP (places (l ++ p :: r))).testBit i = true := by
        rw [orP_bit]; simp only [decide_eq_true_eq, mem_places]
        exact ⟨p, by simp, hc⟩
      have h2 : i - p.1 < p.2 := by omega
      rw [if_pos hc]
      simp [hm, hc.1, h2]; rfl
    · rw [if_neg hc]
      have : (decide (i ≥ p.1) && (decide (i - p.1 < p.2) && f.testBit (i - p.1 + width l))) = false := by
        by_cases a : p.1 ≤ i
        · have : ¬ (i - p.1 < p.2) := by omega
          simp [this]
        · simp [a]
      simp [this]
theorem put_end {size : Nat} {l : List Pc} (h : Lay size l) {w f v : Nat} (hv : Put1 l (orP (places l)) w f v) : v = putF (places l) w f := by
  apply Nat.eq_of_testBit_eq
  intro i
  rw [hv i, putF_bit _ _ _ _ h.2]
  cases hj : (places l).idxOf? i with
  | some j => rfl
  | none =>
    have hn : i ∉ places l := List.idxOf?_eq_none_iff.1 hj
    have : (orP (places l)).testBit i = false := by rw [orP_bit]; simpa using hn
    simp [this]
theorem andNot_bit {w m : Nat} (hm : m < 2 ^ 64) (hw : w < 2 ^ 64) (i : Nat) : (w &&& (2 ^ 64 - 1 - m)).testBit i = (w.testBit i && !m.testBit i) := by
  rw [Nat.testBit_and]
  by_cases h : i < 64
  · have := Nat.testBit_two_pow_sub_succ hm i
    rw [show 2 ^ 64 - 1 - m = 2 ^ 64 - (m + 1) by omega, this]; simp [h]
  · have : w.testBit i = false := by
      cases e : w.testBit i with
      | false => rfl
      | true => exact absurd (bit_lt hw e) h
    simp [this]
theorem put_start' {l : List Pc} {w f : Nat} (hw : w < 2 ^ 64) (hm : orP (places l) < 2 ^ 64) : Put1 [] (orP (places l)) w f (w &&& (2 ^ 64 - 1 - orP (places l))) := by
  intro i
  rw [andNot_bit hm hw]; rfl
end Go.Proofs.Ytlbkcdfllglddaa.fmt
/-! The number of bits that are 1, as math/bits counts them in one word, in plain Lean. Conditions: in each statement. -/
namespace Go.Proofs.Ytlbkcdfllglddaa.fmt
def cnt : Nat → Nat → Nat
  | 0, _ => 0
  | n + 1, x => x % 2 + cnt n (x / 2)
theorem cnt_zero : ∀ n, cnt n 0 = 0
  | 0 => rfl
  | n + 1 => by rw [cnt, Nat.zero_div, cnt_zero n]
theorem cnt_add : ∀ (p n x : Nat), p < n → x.testBit p = false → cnt n (x + 2 ^ p) = cnt n x + 1
  | _, 0, _, h, _ => absurd h (by omega)
  | 0, n + 1, x, _, h => by
    have e : x % 2 = 0 := by
      have := Nat.mod_two_eq_zero_iff_testBit_zero (x := x); exact this.2 h
    rw [cnt, cnt, show (x + 2 ^ 0) / 2 = x / 2 by omega]; omega
  | p + 1, n + 1, x, hp, h => by
    rw [cnt, cnt, show (x + 2 ^ (p + 1)) / 2 = x / 2 + 2 ^ p by rw [Nat.pow_succ]; omega, cnt_add p n (x / 2) (by omega) (by rw [← Nat.testBit_add_one]; exact h), show (x + 2 ^ (p + 1)) % 2 = x % 2 by rw [Nat.pow_succ]; omega]
    omega
theorem cnt_orP {n : Nat} : ∀ ps : List Nat, ps.Nodup → (∀ p ∈ ps, p < n) → cnt n (orP ps) = ps.length
  | [], _, _ => cnt_zero n
  | p :: ps, h, hn => by
    rw [List.nodup_cons] at h
    have hb : (orP ps).testBit p = false := by rw [orP_bit]; simpa using h.1
    rw [orP, ← add_two_pow hb, cnt_add _ _ _ (hn p (by simp)) hb, cnt_orP ps h.2 fun q hq => hn q (by simp [hq])]
    rfl
def val : List Nat → Nat
  | [] => 0
  | b :: bs => b + 256 * val bs
theorem and_split {a b : Nat} (c d : Nat) (ha : a < 256) (hb : b < 256) : (a + 256 * c) &&& (b + 256 * d) = (a &&& b) + 256 * (c &&& d) := by
  have e1 : a + 256 * c = 2 ^ 8 * c + a := by omega
  have e2 : b + 256 * d = 2 ^ 8 * d + b := by omega
  have e3 : (a &&& b) + 256 * (c &&& d) = 2 ^ 8 * (c &&& d) + (a &&& b) := by omega
  have hab : a &&& b < 2 ^ 8 := Nat.and_lt_two_pow a hb
  rw [e1, e2, e3]
  apply Nat.eq_of_testBit_eq
  intro i
  rw [Nat.testBit_and, Nat.testBit_two_pow_mul_add c (show a < 2 ^ 8 from ha), Nat.testBit_two_pow_mul_add d (show b < 2 ^ 8 from hb), Nat.testBit_two_pow_mul_add _ hab]
  split
  · rw [Nat.testBit_and]
  · rw [Nat.testBit_and]
/-- a mask of the same byte -/
def rep (m : Nat) : Nat → Nat
  | 0 => 0
  | n + 1 => m + 256 * rep m n
def a1 (b : Nat) : Nat := (b / 2 &&& 85) + (b &&& 85)
def a2 (b : Nat) : Nat := (b / 4 &&& 51) + (b &&& 51)
def a3 (b : Nat) : Nat := (b / 16 + b) &&& 15
theorem k1 : ∀ b : Fin 256, ∀ c : Fin 2, ((b.val / 2 + 128 * c.val) &&& 85) = (b.val / 2 &&& 85) := by decide +kernel
theorem k2 : ∀ b : Fin 256, ∀ c : Fin 4, ((b.val / 4 + 64 * c.val) &&& 51) = (b.val / 4 &&& 51) := by decide +kernel
theorem k3 : ∀ b : Fin 69, ∀ c : Fin 5, ((b.val / 16 + 16 * c.val + b.val) &&& 15) = (b.val / 16 + b.val) &&& 15 := by decide +kernel
theorem k4 : ∀ b : Fin 256, a2 (a1 b.val) % 16 ≤ 4 ∧ a2 (a1 b.val) / 16 ≤ 4 ∧ a1 b.val < 256 ∧ a3 (a2 (a1 b.val)) = cnt 8 b.val ∧ cnt 8 b.val ≤ 8 := by decide +kernel
theorem s1 : ∀ bs : List Nat, (∀ b ∈ bs, b < 256) → (val bs / 2 &&& rep 85 bs.length) + (val bs &&& rep 85 bs.length) = val (bs.map a1)
  | [], _ => rfl
  | b :: bs, h => by
    have hb := h b (by simp)
    have ih := s1 bs fun c hc => h c (by simp [hc])
    simp only [val, List.length_cons, rep, List.map_cons]
    have e : (b + 256 * val bs) / 2 = (b / 2 + 128 * (val bs % 2)) + 256 * (val bs / 2) := by omega
    have k := k1 ⟨b, hb⟩ ⟨val bs % 2, by omega⟩
    simp only at k
    rw [e, and_split _ _ (by omega) (by decide), and_split _ _ hb (by decide), k, ← ih, a1]
    omega
theorem s2 : ∀ bs : List Nat, (∀ b ∈ bs, b < 256) → (val bs / 4 &&& rep 51 bs.length) + (val bs &&& rep 51 bs.length) = val (bs.map a2)
  | [], _ => rfl
  | b :: bs, h => by
    have hb := h b (by simp)
    have ih := s2 bs fun c hc => h c (by simp [hc])
    simp only [val, List.length_cons, rep, List.map_cons]
    have e : (b + 256 * val bs) / 4 = (b / 4 + 64 * (val bs % 4)) + 256 * (val bs / 4) := by omega
    have k := k2 ⟨b, hb⟩ ⟨val bs % 4, by omega⟩
    simp only at k
    rw [e, and_split _ _ (by omega) (by decide), and_split _ _ hb (by decide), k, ← ih, a2]
    omega
theorem s3 : ∀ bs : List Nat, (∀ b ∈ bs, b % 16 ≤ 4 ∧ b / 16 ≤ 4) → (val bs / 16 + val bs) &&& rep 15 bs.length = val (bs.map a3) ∧ val bs % 16 ≤ 4
  | [], _ => ⟨rfl, by decide⟩
  | b :: bs, h => by
    have hb := h b (by simp)
    obtain ⟨ih, h4⟩ := s3 bs fun c hc => h c (by simp [hc])
    simp only [val, List.length_cons, rep, List.map_cons]
    refine ⟨?_, by omega⟩
    have e : (b + 256 * val bs) / 16 + (b + 256 * val bs) = (b / 16 + 16 * (val bs % 16) + b) + 256 * (val bs / 16 + val bs) := by omega
    have k := k3 ⟨b, by omega⟩ ⟨val bs % 16, by omega⟩
    simp only at k
    rw [e, and_split _ _ (by omega) (by decide), k, ih, a3]
theorem cnt8 (x : Nat) : cnt 8 x = cnt 8 (x % 256) := by
  simp only [cnt]; omega
theorem cnt_val : ∀ bs : List Nat, (∀ b ∈ bs, b < 256) → cnt (8 * bs.length) (val bs) = (bs.map (cnt 8)).sum
  | [], _ => rfl
  | b :: bs, h => by
    have hb := h b (by simp)
    have ih := cnt_val bs fun c hc => h c (by simp [hc])
    have key : ∀ n x, cnt (8 + n) x = cnt 8 x + cnt n (x / 256) := by
      intro n x
      have e : x / 2 / 2 / 2 / 2 / 2 / 2 / 2 / 2 = x / 256 := by omega
      rw [Nat.add_comm]
      simp only [cnt, e]
      omega
    simp only [List.length_cons, val, List.map_cons, List.sum_cons]
    rw [show 8 * (bs.length + 1) = 8 + 8 * bs.length by omega, key, cnt8, show (b + 256 * val bs) % 256 = b by omega, show (b + 256 * val bs) / 256 = val bs by omega, ih]
theorem val_le {m : Nat} : ∀ bs : List Nat, (∀ b ∈ bs, b ≤ m) → val bs ≤ m * rep 1 bs.length
  | [], _ => Nat.le_refl _
  | b :: bs, h => by
    have hb := h b (by simp)
    have ih := val_le bs fun c hc => h c (by simp [hc])
    simp only [val, List.length_cons, rep, Nat.mul_add, Nat.mul_one]
    rw [← Nat.mul_assoc, Nat.mul_comm m 256, Nat.mul_assoc]
    omega
theorem fin8 {c0 c1 c2 c3 c4 c5 c6 c7 y : Nat} (hy : y = c0 + 256 * (c1 + 256 * (c2 + 256 * (c3 + 256 * (c4 + 256 * (c5 + 256 * (c6 + 256 * (c7 + 256 * 0))))))))
    (h0 : c0 ≤ 8) (h1 : c1 ≤ 8) (h2 : c2 ≤ 8) (h3 : c3 ≤ 8) (h4 : c4 ≤ 8) (h5 : c5 ≤ 8) (h6 : c6 ≤ 8) (h7 : c7 ≤ 8) :
    y ≤ 578721382704613384 ∧ (y + y / 256) < 2 ^ 62 ∧ ((y + y / 256) + (y + y / 256) / 65536) < 2 ^ 63 ∧
    (((y + y / 256) + (y + y / 256) / 65536) + ((y + y / 256) + (y + y / 256) / 65536) / 4294967296) < 2 ^ 63 ∧
    (((y + y / 256) + (y + y / 256) / 65536) + ((y + y / 256) + (y + y / 256) / 65536) / 4294967296) % 128 = c0 + (c1 + (c2 + (c3 + (c4 + (c5 + (c6 + (c7 + 0))))))) := by
  have b0 : y ≤ 578721382704613384 := by omega
  have e1 : y / 256 = c1 + 256 * (c2 + 256 * (c3 + 256 * (c4 + 256 * (c5 + 256 * (c6 + 256 * c7))))) := by omega
  have t1 : y + y / 256 = (c0 + c1) + 256 * ((c1 + c2) + 256 * ((c2 + c3) + 256 * ((c3 + c4) + 256 * ((c4 + c5) + 256 * ((c5 + c6) + 256 * ((c6 + c7) + 256 * c7)))))) := by rw [e1]; omega
  generalize y + y / 256 = t at t1 ⊢
  clear e1
  have e2 : t / 65536 = (c2 + c3) + 256 * ((c3 + c4) + 256 * ((c4 + c5) + 256 * ((c5 + c6) + 256 * ((c6 + c7) + 256 * c7)))) := by clear b0 hy; omega
  have b1 : t < 2 ^ 62 := by clear b0 hy e2; omega
  have t2 : t + t / 65536 = (c0 + c1 + c2 + c3) + 256 * ((c1 + c2 + c3 + c4) + 256 * ((c2 + c3 + c4 + c5) + 256 * ((c3 + c4 + c5 + c6) + 256 * ((c4 + c5 + c6 + c7) + 256 * ((c5 + c6 + c7) + 256 * ((c6 + c7) + 256 * c7)))))) := by rw [e2]; clear b0 hy b1; omega
  generalize t + t / 65536 = u at t2 ⊢
  clear e2 t1
  have e4 : u / 4294967296 = (c4 + c5 + c6 + c7) + 256 * ((c5 + c6 + c7) + 256 * ((c6 + c7) + 256 * c7)) := by clear b0 hy b1; omega
  have b2 : u < 2 ^ 63 := by clear b0 hy b1 e4; omega
  have t3 : u + u / 4294967296 = (c0 + c1 + c2 + c3 + c4 + c5 + c6 + c7) + 256 * ((c1 + c2 + c3 + c4 + c5 + c6 + c7) + 256 * ((c2 + c3 + c4 + c5 + c6 + c7) + 256 * ((c3 + c4 + c5 + c6 + c7) + 256 * ((c4 + c5 + c6 + c7) + 256 * ((c5 + c6 + c7) + 256 * ((c6 + c7) + 256 * c7)))))) := by rw [e4]; clear b0 hy b1 b2; omega
  generalize u + u / 4294967296 = v at t3 ⊢
  clear e4 t2
  refine ⟨b0, b1, b2, ?_, ?_⟩
  · clear b0 hy b1 b2; omega
  · clear b0 hy b1 b2; omega
/-- what the program's steps come to -/
theorem ones (x : Nat) (hx : x < 2 ^ 64) : ∃ y1 y2 y3 : Nat,
    (x / 2 &&& 6148914691236517205) + (x &&& 6148914691236517205) = y1 ∧ (y1 / 4 &&& 3689348814741910323) + (y1 &&& 3689348814741910323) = y2 ∧ (y2 / 16 + y2) &&& 1085102592571150095 = y3 ∧
    y1 < 2 ^ 64 ∧ y2 < 2 ^ 63 ∧ y3 ≤ 578721382704613384 ∧
    (y3 + y3 / 256) < 2 ^ 62 ∧ ((y3 + y3 / 256) + (y3 + y3 / 256) / 65536) < 2 ^ 63 ∧
    (((y3 + y3 / 256) + (y3 + y3 / 256) / 65536) + ((y3 + y3 / 256) + (y3 + y3 / 256) / 65536) / 4294967296) < 2 ^ 63 ∧
    (((y3 + y3 / 256) + (y3 + y3 / 256) / 65536) + ((y3 + y3 / 256) + (y3 + y3 / 256) / 65536) / 4294967296) % 128 = cnt 64 x := by
  obtain ⟨b0, b1, b2, b3, b4, b5, b6, b7, e, h0, h1, h2, h3, h4, h5, h6, h7⟩ : ∃ b0 b1 b2 b3 b4 b5 b6 b7 : Nat, x = val [b0, b1, b2, b3, b4, b5, b6, b7] ∧ b0 < 256 ∧ b1 < 256 ∧ b2 < 256 ∧ b3 < 256 ∧ b4 < 256 ∧ b5 < 256 ∧ b6 < 256 ∧ b7 < 256 := by
    refine ⟨x % 256, x / 256 % 256, x / 65536 % 256, x / 16777216 % 256, x / 4294967296 % 256, x / 1099511627776 % 256, x / 281474976710656 % 256, x / 72057594037927936, ?_, ?_, ?_, ?_, ?_, ?_, ?_, ?_, ?_⟩
    · simp only [val]; omega
    all_goals omega
  have hb : ∀ b ∈ [b0, b1, b2, b3, b4, b5, b6, b7], b < 256 := by
    intro b hb
    simp only [List.mem_cons, List.not_mem_nil, or_false] at hb
    omega
  have hm1 : ∀ b ∈ [b0, b1, b2, b3, b4, b5, b6, b7].map a1, b < 256 := by
    intro b hb'
    obtain ⟨c, hc, rfl⟩ := List.mem_map.1 hb'
    exact (k4 ⟨c, hb c hc⟩).2.2.1
  have hm2 : ∀ b ∈ ([b0, b1, b2, b3, b4, b5, b6, b7].map a1).map a2, b % 16 ≤ 4 ∧ b / 16 ≤ 4 := by
    intro b hb'
    obtain ⟨c, hc, rfl⟩ := List.mem_map.1 hb'
    obtain ⟨d, hd, rfl⟩ := List.mem_map.1 hc
    exact ⟨(k4 ⟨d, hb d hd⟩).1, (k4 ⟨d, hb d hd⟩).2.1⟩
  have t1 := s1 _ hb
  have t2 := s2 _ hm1
  have t3 := (s3 _ hm2).1
  have tc := cnt_val _ hb
  rw [← e] at t1 tc
  have r1 : rep 85 [b0, b1, b2, b3, b4, b5, b6, b7].length = 6148914691236517205 := by show rep 85 8 = _; decide
  have r2 : rep 51 ([b0, b1, b2, b3, b4, b5, b6, b7].map a1).length = 3689348814741910323 := by show rep 51 8 = _; decide
  have r3 : rep 15 (([b0, b1, b2, b3, b4, b5, b6, b7].map a1).map a2).length = 1085102592571150095 := by show rep 15 8 = _; decide
  rw [r1] at t1
  rw [r2] at t2
  rw [r3] at t3
  refine ⟨_, _, _, t1, t2, t3, ?_⟩
  have q0 := k4 ⟨b0, h0⟩
  have q1 := k4 ⟨b1, h1⟩
  have q2 := k4 ⟨b2, h2⟩
  have q3 := k4 ⟨b3, h3⟩
  have q4 := k4 ⟨b4, h4⟩
  have q5 := k4 ⟨b5, h5⟩
  have q6 := k4 ⟨b6, h6⟩
  have q7 := k4 ⟨b7, h7⟩
  simp only [List.length_cons, List.length_nil, Nat.reduceAdd, Nat.reduceMul] at tc
  rw [tc]
  simp only [List.map_cons, List.map_nil, val, List.sum_cons, List.sum_nil] at q0 q1 q2 q3 q4 q5 q6 q7 ⊢
  rw [q0.2.2.2.1, q1.2.2.2.1, q2.2.2.2.1, q3.2.2.2.1, q4.2.2.2.1, q5.2.2.2.1, q6.2.2.2.1, q7.2.2.2.1]
  obtain ⟨_, _, u0, _, w0⟩ := q0
  obtain ⟨_, _, u1, _, w1⟩ := q1
  obtain ⟨_, _, u2, _, w2⟩ := q2
  obtain ⟨_, _, u3, _, w3⟩ := q3
  obtain ⟨_, _, u4, _, w4⟩ := q4
  obtain ⟨_, _, u5, _, w5⟩ := q5
  obtain ⟨_, _, u6, _, w6⟩ := q6
  obtain ⟨p7, p8, u7, _, w7⟩ := q7
  have l1 := val_le (m := 255) _ fun b hb => by have := hm1 b hb; omega
  have l2 := val_le (m := 68) _ fun b hb => by have := hm2 b hb; omega
  have v1 : 255 * rep 1 ([b0, b1, b2, b3, b4, b5, b6, b7].map a1).length < 2 ^ 64 := by show 255 * rep 1 8 < _; decide
  have v2 : 68 * rep 1 (([b0, b1, b2, b3, b4, b5, b6, b7].map a1).map a2).length < 2 ^ 63 := by show 68 * rep 1 8 < _; decide
  exact ⟨Nat.lt_of_le_of_lt l1 v1, Nat.lt_of_le_of_lt l2 v2, fin8 rfl w0 w1 w2 w3 w4 w5 w6 w7⟩
end Go.Proofs.Ytlbkcdfllglddaa.fmt
