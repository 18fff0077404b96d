/- Facts of the program's types and of its regions whose order is open. Printed by a program of this session (mkty.py). Conditions: none. -/
import Derived.Test.YtlbkcdfllglddaaRows
import Derived.Test.YtlbkcdfllglddaaAb27
import Derived.KernelRfl
namespace Go.Proofs.Ytlbkcdfllglddaa.fmt
open Go Go.Ab
set_option maxRecDepth 100000
theorem sz0 : sizeA Try.prog 0 = some 1 := by kernel_rfl
theorem ce0 : Try.prog.cellsOf 0 = 1 := by kernel_rfl
theorem ag0 : isAggA Try.prog 0 = some false := by kernel_rfl
theorem in0 : (Try.prog.info? 0).map (fun i => (i.size, i.bytes)) = some (1, 0) := by kernel_rfl
theorem sz1 : sizeA Try.prog 1 = some 1 := by kernel_rfl
theorem ce1 : Try.prog.cellsOf 1 = 1 := by kernel_rfl
theorem ag1 : isAggA Try.prog 1 = some false := by kernel_rfl
theorem ze1 : zeroA Try.prog 1 = some (.nilf) := by kernel_rfl
theorem in1 : (Try.prog.info? 1).map (fun i => (i.size, i.bytes)) = some (1, 8) := by kernel_rfl
theorem sz2 : sizeA Try.prog 2 = some 1 := by kernel_rfl
theorem ce2 : Try.prog.cellsOf 2 = 1 := by kernel_rfl
theorem ag2 : isAggA Try.prog 2 = some false := by kernel_rfl
theorem ze2 : zeroA Try.prog 2 = some (.int .i64 0) := by kernel_rfl
theorem in2 : (Try.prog.info? 2).map (fun i => (i.size, i.bytes)) = some (1, 8) := by kernel_rfl
theorem sz3 : sizeA Try.prog 3 = some 1 := by kernel_rfl
theorem ce3 : Try.prog.cellsOf 3 = 1 := by kernel_rfl
theorem ag3 : isAggA Try.prog 3 = some false := by kernel_rfl
theorem ze3 : zeroA Try.prog 3 = some (.int .i64 0) := by kernel_rfl
theorem in3 : (Try.prog.info? 3).map (fun i => (i.size, i.bytes)) = some (1, 8) := by kernel_rfl
theorem sz4 : sizeA Try.prog 4 = some 1 := by kernel_rfl
theorem ce4 : Try.prog.cellsOf 4 = 1 := by kernel_rfl
theorem ag4 : isAggA Try.prog 4 = some false := by kernel_rfl
theorem ze4 : zeroA Try.prog 4 = some (.bool false) := by kernel_rfl
theorem in4 : (Try.prog.info? 4).map (fun i => (i.size, i.bytes)) = some (1, 1) := by kernel_rfl
theorem sz5 : sizeA Try.prog 5 = some 1 := by kernel_rfl
theorem ce5 : Try.prog.cellsOf 5 = 1 := by kernel_rfl
theorem ag5 : isAggA Try.prog 5 = some false := by kernel_rfl
theorem ze5 : zeroA Try.prog 5 = some (.int .u8 0) := by kernel_rfl
theorem in5 : (Try.prog.info? 5).map (fun i => (i.size, i.bytes)) = some (1, 1) := by kernel_rfl
theorem sz6 : sizeA Try.prog 6 = some 1 := by kernel_rfl
theorem ce6 : Try.prog.cellsOf 6 = 1 := by kernel_rfl
theorem ag6 : isAggA Try.prog 6 = some false := by kernel_rfl
theorem ze6 : zeroA Try.prog 6 = some (.int .u8 0) := by kernel_rfl
theorem in6 : (Try.prog.info? 6).map (fun i => (i.size, i.bytes)) = some (1, 1) := by kernel_rfl
theorem sz7 : sizeA Try.prog 7 = some 4 := by kernel_rfl
theorem ce7 : Try.prog.cellsOf 7 = 4 := by kernel_rfl
theorem ag7 : isAggA Try.prog 7 = some true := by kernel_rfl
theorem ze7 : zeroA Try.prog 7 = some (.agg [.int .i64 0, .int .i64 0, .bool false, .int .u8 0]) := by kernel_rfl
theorem in7 : (Try.prog.info? 7).map (fun i => (i.size, i.bytes)) = some (4, 24) := by kernel_rfl
theorem sz8 : sizeA Try.prog 8 = some 4 := by kernel_rfl
theorem ce8 : Try.prog.cellsOf 8 = 4 := by kernel_rfl
theorem ag8 : isAggA Try.prog 8 = some true := by kernel_rfl
theorem ze8 : zeroA Try.prog 8 = some (.agg [.int .i64 0, .int .i64 0, .bool false, .int .u8 0]) := by kernel_rfl
theorem in8 : (Try.prog.info? 8).map (fun i => (i.size, i.bytes)) = some (4, 24) := by kernel_rfl
theorem sz9 : sizeA Try.prog 9 = some 1 := by kernel_rfl
theorem ce9 : Try.prog.cellsOf 9 = 1 := by kernel_rfl
theorem ag9 : isAggA Try.prog 9 = some false := by kernel_rfl
theorem ze9 : zeroA Try.prog 9 = some (.str ByteArray.empty) := by kernel_rfl
theorem in9 : (Try.prog.info? 9).map (fun i => (i.size, i.bytes)) = some (1, 16) := by kernel_rfl
theorem sz10 : sizeA Try.prog 10 = some 1 := by kernel_rfl
theorem ce10 : Try.prog.cellsOf 10 = 1 := by kernel_rfl
theorem ag10 : isAggA Try.prog 10 = some false := by kernel_rfl
theorem ze10 : zeroA Try.prog 10 = some (.str ByteArray.empty) := by kernel_rfl
theorem in10 : (Try.prog.info? 10).map (fun i => (i.size, i.bytes)) = some (1, 16) := by kernel_rfl
theorem sz11 : sizeA Try.prog 11 = some 1 := by kernel_rfl
theorem ce11 : Try.prog.cellsOf 11 = 1 := by kernel_rfl
theorem ag11 : isAggA Try.prog 11 = some false := by kernel_rfl
theorem ze11 : zeroA Try.prog 11 = some (.str ByteArray.empty) := by kernel_rfl
theorem in11 : (Try.prog.info? 11).map (fun i => (i.size, i.bytes)) = some (1, 16) := by kernel_rfl
theorem sz12 : sizeA Try.prog 12 = some 1 := by kernel_rfl
theorem ce12 : Try.prog.cellsOf 12 = 1 := by kernel_rfl
theorem ag12 : isAggA Try.prog 12 = some false := by kernel_rfl
theorem ze12 : zeroA Try.prog 12 = some (.int .u64 0) := by kernel_rfl
theorem in12 : (Try.prog.info? 12).map (fun i => (i.size, i.bytes)) = some (1, 8) := by kernel_rfl
theorem sz13 : sizeA Try.prog 13 = some 2 := by kernel_rfl
theorem ce13 : Try.prog.cellsOf 13 = 2 := by kernel_rfl
theorem ag13 : isAggA Try.prog 13 = some true := by kernel_rfl
theorem ze13 : zeroA Try.prog 13 = some (.agg [.str ByteArray.empty, .int .u64 0]) := by kernel_rfl
theorem in13 : (Try.prog.info? 13).map (fun i => (i.size, i.bytes)) = some (2, 24) := by kernel_rfl
theorem sz14 : sizeA Try.prog 14 = some 2 := by kernel_rfl
theorem ce14 : Try.prog.cellsOf 14 = 2 := by kernel_rfl
theorem ag14 : isAggA Try.prog 14 = some true := by kernel_rfl
theorem ze14 : zeroA Try.prog 14 = some (.agg [.str ByteArray.empty, .int .u64 0]) := by kernel_rfl
theorem in14 : (Try.prog.info? 14).map (fun i => (i.size, i.bytes)) = some (2, 24) := by kernel_rfl
theorem sz15 : sizeA Try.prog 15 = some 1 := by kernel_rfl
theorem ce15 : Try.prog.cellsOf 15 = 1 := by kernel_rfl
theorem ag15 : isAggA Try.prog 15 = some false := by kernel_rfl
theorem ze15 : zeroA Try.prog 15 = some (.nilp) := by kernel_rfl
theorem in15 : (Try.prog.info? 15).map (fun i => (i.size, i.bytes)) = some (1, 8) := by kernel_rfl
theorem sz16 : sizeA Try.prog 16 = some 1 := by kernel_rfl
theorem ce16 : Try.prog.cellsOf 16 = 1 := by kernel_rfl
theorem ag16 : isAggA Try.prog 16 = some false := by kernel_rfl
theorem ze16 : zeroA Try.prog 16 = some (.nilp) := by kernel_rfl
theorem in16 : (Try.prog.info? 16).map (fun i => (i.size, i.bytes)) = some (1, 8) := by kernel_rfl
theorem sz17 : sizeA Try.prog 17 = some 1 := by kernel_rfl
theorem ce17 : Try.prog.cellsOf 17 = 1 := by kernel_rfl
theorem ag17 : isAggA Try.prog 17 = some false := by kernel_rfl
theorem ze17 : zeroA Try.prog 17 = some (.nilp) := by kernel_rfl
theorem in17 : (Try.prog.info? 17).map (fun i => (i.size, i.bytes)) = some (1, 8) := by kernel_rfl
theorem sz18 : sizeA Try.prog 18 = some 1 := by kernel_rfl
theorem ce18 : Try.prog.cellsOf 18 = 1 := by kernel_rfl
theorem ag18 : isAggA Try.prog 18 = some true := by kernel_rfl
theorem ze18 : zeroA Try.prog 18 = some (.agg [.nilp]) := by kernel_rfl
theorem in18 : (Try.prog.info? 18).map (fun i => (i.size, i.bytes)) = some (1, 8) := by kernel_rfl
theorem sz19 : sizeA Try.prog 19 = some 1 := by kernel_rfl
theorem ce19 : Try.prog.cellsOf 19 = 1 := by kernel_rfl
theorem ag19 : isAggA Try.prog 19 = some true := by kernel_rfl
theorem ze19 : zeroA Try.prog 19 = some (.agg [.nilp]) := by kernel_rfl
theorem in19 : (Try.prog.info? 19).map (fun i => (i.size, i.bytes)) = some (1, 8) := by kernel_rfl
theorem sz20 : sizeA Try.prog 20 = some 1 := by kernel_rfl
theorem ce20 : Try.prog.cellsOf 20 = 1 := by kernel_rfl
theorem ag20 : isAggA Try.prog 20 = some false := by kernel_rfl
theorem ze20 : zeroA Try.prog 20 = some (.nili) := by kernel_rfl
theorem in20 : (Try.prog.info? 20).map (fun i => (i.size, i.bytes)) = some (1, 16) := by kernel_rfl
theorem sz21 : sizeA Try.prog 21 = some 1 := by kernel_rfl
theorem ce21 : Try.prog.cellsOf 21 = 1 := by kernel_rfl
theorem ag21 : isAggA Try.prog 21 = some false := by kernel_rfl
theorem ze21 : zeroA Try.prog 21 = some (.int .i32 0) := by kernel_rfl
theorem in21 : (Try.prog.info? 21).map (fun i => (i.size, i.bytes)) = some (1, 4) := by kernel_rfl
theorem sz22 : sizeA Try.prog 22 = some 1 := by kernel_rfl
theorem ce22 : Try.prog.cellsOf 22 = 1 := by kernel_rfl
theorem ag22 : isAggA Try.prog 22 = some false := by kernel_rfl
theorem ze22 : zeroA Try.prog 22 = some (.int .u64 0) := by kernel_rfl
theorem in22 : (Try.prog.info? 22).map (fun i => (i.size, i.bytes)) = some (1, 8) := by kernel_rfl
theorem sz23 : sizeA Try.prog 23 = some 1 := by kernel_rfl
theorem ce23 : Try.prog.cellsOf 23 = 1 := by kernel_rfl
theorem ag23 : isAggA Try.prog 23 = some false := by kernel_rfl
theorem ze23 : zeroA Try.prog 23 = some (.int .i64 0) := by kernel_rfl
theorem in23 : (Try.prog.info? 23).map (fun i => (i.size, i.bytes)) = some (1, 8) := by kernel_rfl
theorem sz24 : sizeA Try.prog 24 = some 1 := by kernel_rfl
theorem ce24 : Try.prog.cellsOf 24 = 1 := by kernel_rfl
theorem ag24 : isAggA Try.prog 24 = some false := by kernel_rfl
theorem in24 : (Try.prog.info? 24).map (fun i => (i.size, i.bytes)) = some (1, 0) := by kernel_rfl
theorem sz25 : sizeA Try.prog 25 = some 1 := by kernel_rfl
theorem ce25 : Try.prog.cellsOf 25 = 1 := by kernel_rfl
theorem ag25 : isAggA Try.prog 25 = some false := by kernel_rfl
theorem ze25 : zeroA Try.prog 25 = some (.nilf) := by kernel_rfl
theorem in25 : (Try.prog.info? 25).map (fun i => (i.size, i.bytes)) = some (1, 8) := by kernel_rfl
theorem sz26 : sizeA Try.prog 26 = some 1 := by kernel_rfl
theorem ce26 : Try.prog.cellsOf 26 = 1 := by kernel_rfl
theorem ag26 : isAggA Try.prog 26 = some false := by kernel_rfl
theorem in26 : (Try.prog.info? 26).map (fun i => (i.size, i.bytes)) = some (1, 0) := by kernel_rfl
theorem sz27 : sizeA Try.prog 27 = some 1 := by kernel_rfl
theorem ce27 : Try.prog.cellsOf 27 = 1 := by kernel_rfl
theorem ag27 : isAggA Try.prog 27 = some false := by kernel_rfl
theorem ze27 : zeroA Try.prog 27 = some (.nilf) := by kernel_rfl
theorem in27 : (Try.prog.info? 27).map (fun i => (i.size, i.bytes)) = some (1, 8) := by kernel_rfl
theorem sz28 : sizeA Try.prog 28 = some 1 := by kernel_rfl
theorem ce28 : Try.prog.cellsOf 28 = 1 := by kernel_rfl
theorem ag28 : isAggA Try.prog 28 = some false := by kernel_rfl
theorem in28 : (Try.prog.info? 28).map (fun i => (i.size, i.bytes)) = some (1, 0) := by kernel_rfl
theorem sz29 : sizeA Try.prog 29 = some 1 := by kernel_rfl
theorem ce29 : Try.prog.cellsOf 29 = 1 := by kernel_rfl
theorem ag29 : isAggA Try.prog 29 = some false := by kernel_rfl
theorem ze29 : zeroA Try.prog 29 = some (.nilf) := by kernel_rfl
theorem in29 : (Try.prog.info? 29).map (fun i => (i.size, i.bytes)) = some (1, 8) := by kernel_rfl
theorem sz30 : sizeA Try.prog 30 = some 1 := by kernel_rfl
theorem ce30 : Try.prog.cellsOf 30 = 1 := by kernel_rfl
theorem ag30 : isAggA Try.prog 30 = some false := by kernel_rfl
theorem in30 : (Try.prog.info? 30).map (fun i => (i.size, i.bytes)) = some (1, 0) := by kernel_rfl
theorem sz31 : sizeA Try.prog 31 = some 1 := by kernel_rfl
theorem ce31 : Try.prog.cellsOf 31 = 1 := by kernel_rfl
theorem ag31 : isAggA Try.prog 31 = some false := by kernel_rfl
theorem ze31 : zeroA Try.prog 31 = some (.nilf) := by kernel_rfl
theorem in31 : (Try.prog.info? 31).map (fun i => (i.size, i.bytes)) = some (1, 8) := by kernel_rfl
theorem sz32 : sizeA Try.prog 32 = some 1 := by kernel_rfl
theorem ce32 : Try.prog.cellsOf 32 = 1 := by kernel_rfl
theorem ag32 : isAggA Try.prog 32 = some false := by kernel_rfl
theorem in32 : (Try.prog.info? 32).map (fun i => (i.size, i.bytes)) = some (1, 0) := by kernel_rfl
theorem sz33 : sizeA Try.prog 33 = some 1 := by kernel_rfl
theorem ce33 : Try.prog.cellsOf 33 = 1 := by kernel_rfl
theorem ag33 : isAggA Try.prog 33 = some false := by kernel_rfl
theorem ze33 : zeroA Try.prog 33 = some (.nilf) := by kernel_rfl
theorem in33 : (Try.prog.info? 33).map (fun i => (i.size, i.bytes)) = some (1, 8) := by kernel_rfl
theorem sz34 : sizeA Try.prog 34 = some 1 := by kernel_rfl
theorem ce34 : Try.prog.cellsOf 34 = 1 := by kernel_rfl
theorem ag34 : isAggA Try.prog 34 = some false := by kernel_rfl
theorem in34 : (Try.prog.info? 34).map (fun i => (i.size, i.bytes)) = some (1, 0) := by kernel_rfl
theorem sz35 : sizeA Try.prog 35 = some 1 := by kernel_rfl
theorem ce35 : Try.prog.cellsOf 35 = 1 := by kernel_rfl
theorem ag35 : isAggA Try.prog 35 = some false := by kernel_rfl
theorem ze35 : zeroA Try.prog 35 = some (.nilf) := by kernel_rfl
theorem in35 : (Try.prog.info? 35).map (fun i => (i.size, i.bytes)) = some (1, 8) := by kernel_rfl
theorem sz36 : sizeA Try.prog 36 = some 1 := by kernel_rfl
theorem ce36 : Try.prog.cellsOf 36 = 1 := by kernel_rfl
theorem ag36 : isAggA Try.prog 36 = some false := by kernel_rfl
theorem ze36 : zeroA Try.prog 36 = some (.nilf) := by kernel_rfl
theorem in36 : (Try.prog.info? 36).map (fun i => (i.size, i.bytes)) = some (1, 8) := by kernel_rfl
theorem sz37 : sizeA Try.prog 37 = some 1 := by kernel_rfl
theorem ce37 : Try.prog.cellsOf 37 = 1 := by kernel_rfl
theorem ag37 : isAggA Try.prog 37 = some false := by kernel_rfl
theorem ze37 : zeroA Try.prog 37 = some (.nilf) := by kernel_rfl
theorem in37 : (Try.prog.info? 37).map (fun i => (i.size, i.bytes)) = some (1, 8) := by kernel_rfl
theorem sz38 : sizeA Try.prog 38 = some 1 := by kernel_rfl
theorem ce38 : Try.prog.cellsOf 38 = 1 := by kernel_rfl
theorem ag38 : isAggA Try.prog 38 = some false := by kernel_rfl
theorem ze38 : zeroA Try.prog 38 = some (.nilf) := by kernel_rfl
theorem in38 : (Try.prog.info? 38).map (fun i => (i.size, i.bytes)) = some (1, 8) := by kernel_rfl
theorem sz39 : sizeA Try.prog 39 = some 1 := by kernel_rfl
theorem ce39 : Try.prog.cellsOf 39 = 1 := by kernel_rfl
theorem ag39 : isAggA Try.prog 39 = some false := by kernel_rfl
theorem ze39 : zeroA Try.prog 39 = some (.rsl none 0 0 []) := by kernel_rfl
theorem in39 : (Try.prog.info? 39).map (fun i => (i.size, i.bytes)) = some (1, 24) := by kernel_rfl
theorem sz40 : sizeA Try.prog 40 = some 1 := by kernel_rfl
theorem ce40 : Try.prog.cellsOf 40 = 1 := by kernel_rfl
theorem ag40 : isAggA Try.prog 40 = some false := by kernel_rfl
theorem ze40 : zeroA Try.prog 40 = some (.nilf) := by kernel_rfl
theorem in40 : (Try.prog.info? 40).map (fun i => (i.size, i.bytes)) = some (1, 8) := by kernel_rfl
theorem sz41 : sizeA Try.prog 41 = some 1 := by kernel_rfl
theorem ce41 : Try.prog.cellsOf 41 = 1 := by kernel_rfl
theorem ag41 : isAggA Try.prog 41 = some false := by kernel_rfl
theorem ze41 : zeroA Try.prog 41 = some (.nilf) := by kernel_rfl
theorem in41 : (Try.prog.info? 41).map (fun i => (i.size, i.bytes)) = some (1, 8) := by kernel_rfl
theorem sz42 : sizeA Try.prog 42 = some 1 := by kernel_rfl
theorem ce42 : Try.prog.cellsOf 42 = 1 := by kernel_rfl
theorem ag42 : isAggA Try.prog 42 = some false := by kernel_rfl
theorem ze42 : zeroA Try.prog 42 = some (.nilf) := by kernel_rfl
theorem in42 : (Try.prog.info? 42).map (fun i => (i.size, i.bytes)) = some (1, 8) := by kernel_rfl
theorem sz43 : sizeA Try.prog 43 = some 1 := by kernel_rfl
theorem ce43 : Try.prog.cellsOf 43 = 1 := by kernel_rfl
theorem ag43 : isAggA Try.prog 43 = some false := by kernel_rfl
theorem ze43 : zeroA Try.prog 43 = some (.nilf) := by kernel_rfl
theorem in43 : (Try.prog.info? 43).map (fun i => (i.size, i.bytes)) = some (1, 8) := by kernel_rfl
theorem sz44 : sizeA Try.prog 44 = some 1 := by kernel_rfl
theorem ce44 : Try.prog.cellsOf 44 = 1 := by kernel_rfl
theorem ag44 : isAggA Try.prog 44 = some false := by kernel_rfl
theorem ze44 : zeroA Try.prog 44 = some (.nilf) := by kernel_rfl
theorem in44 : (Try.prog.info? 44).map (fun i => (i.size, i.bytes)) = some (1, 8) := by kernel_rfl
theorem sz45 : sizeA Try.prog 45 = some 1 := by kernel_rfl
theorem ce45 : Try.prog.cellsOf 45 = 1 := by kernel_rfl
theorem ag45 : isAggA Try.prog 45 = some false := by kernel_rfl
theorem ze45 : zeroA Try.prog 45 = some (.nilf) := by kernel_rfl
theorem in45 : (Try.prog.info? 45).map (fun i => (i.size, i.bytes)) = some (1, 8) := by kernel_rfl
theorem sz46 : sizeA Try.prog 46 = some 1 := by kernel_rfl
theorem ce46 : Try.prog.cellsOf 46 = 1 := by kernel_rfl
theorem ag46 : isAggA Try.prog 46 = some false := by kernel_rfl
theorem ze46 : zeroA Try.prog 46 = some (.nilf) := by kernel_rfl
theorem in46 : (Try.prog.info? 46).map (fun i => (i.size, i.bytes)) = some (1, 8) := by kernel_rfl
theorem sz47 : sizeA Try.prog 47 = some 1 := by kernel_rfl
theorem ce47 : Try.prog.cellsOf 47 = 1 := by kernel_rfl
theorem ag47 : isAggA Try.prog 47 = some false := by kernel_rfl
theorem ze47 : zeroA Try.prog 47 = some (.nilf) := by kernel_rfl
theorem in47 : (Try.prog.info? 47).map (fun i => (i.size, i.bytes)) = some (1, 8) := by kernel_rfl
theorem sz48 : sizeA Try.prog 48 = some 2 := by kernel_rfl
theorem ce48 : Try.prog.cellsOf 48 = 2 := by kernel_rfl
theorem ag48 : isAggA Try.prog 48 = some true := by kernel_rfl
theorem ze48 : zeroA Try.prog 48 = some (.agg [.int .i64 0, .int .i64 0]) := by kernel_rfl
theorem in48 : (Try.prog.info? 48).map (fun i => (i.size, i.bytes)) = some (2, 16) := by kernel_rfl
theorem sz49 : sizeA Try.prog 49 = some 2 := by kernel_rfl
theorem ce49 : Try.prog.cellsOf 49 = 2 := by kernel_rfl
theorem ag49 : isAggA Try.prog 49 = some true := by kernel_rfl
theorem ze49 : zeroA Try.prog 49 = some (.agg [.int .i64 0, .int .i64 0]) := by kernel_rfl
theorem in49 : (Try.prog.info? 49).map (fun i => (i.size, i.bytes)) = some (2, 16) := by kernel_rfl
theorem sz50 : sizeA Try.prog 50 = some 1 := by kernel_rfl
theorem ce50 : Try.prog.cellsOf 50 = 1 := by kernel_rfl
theorem ag50 : isAggA Try.prog 50 = some false := by kernel_rfl
theorem ze50 : zeroA Try.prog 50 = some (.nilf) := by kernel_rfl
theorem in50 : (Try.prog.info? 50).map (fun i => (i.size, i.bytes)) = some (1, 8) := by kernel_rfl
theorem sz51 : sizeA Try.prog 51 = some 1 := by kernel_rfl
theorem ce51 : Try.prog.cellsOf 51 = 1 := by kernel_rfl
theorem ag51 : isAggA Try.prog 51 = some false := by kernel_rfl
theorem ze51 : zeroA Try.prog 51 = some (.nilf) := by kernel_rfl
theorem in51 : (Try.prog.info? 51).map (fun i => (i.size, i.bytes)) = some (1, 8) := by kernel_rfl
theorem sz52 : sizeA Try.prog 52 = some 1 := by kernel_rfl
theorem ce52 : Try.prog.cellsOf 52 = 1 := by kernel_rfl
theorem ag52 : isAggA Try.prog 52 = some false := by kernel_rfl
theorem ze52 : zeroA Try.prog 52 = some (.nilf) := by kernel_rfl
theorem in52 : (Try.prog.info? 52).map (fun i => (i.size, i.bytes)) = some (1, 8) := by kernel_rfl
theorem sz53 : sizeA Try.prog 53 = some 1 := by kernel_rfl
theorem ce53 : Try.prog.cellsOf 53 = 1 := by kernel_rfl
theorem ag53 : isAggA Try.prog 53 = some false := by kernel_rfl
theorem ze53 : zeroA Try.prog 53 = some (.int .u64 0) := by kernel_rfl
theorem in53 : (Try.prog.info? 53).map (fun i => (i.size, i.bytes)) = some (1, 8) := by kernel_rfl
theorem sz54 : sizeA Try.prog 54 = some 1 := by kernel_rfl
theorem ce54 : Try.prog.cellsOf 54 = 1 := by kernel_rfl
theorem ag54 : isAggA Try.prog 54 = some false := by kernel_rfl
theorem ze54 : zeroA Try.prog 54 = some (.nilf) := by kernel_rfl
theorem in54 : (Try.prog.info? 54).map (fun i => (i.size, i.bytes)) = some (1, 8) := by kernel_rfl
theorem sz55 : sizeA Try.prog 55 = some 1 := by kernel_rfl
theorem ce55 : Try.prog.cellsOf 55 = 1 := by kernel_rfl
theorem ag55 : isAggA Try.prog 55 = some false := by kernel_rfl
theorem ze55 : zeroA Try.prog 55 = some (.nilf) := by kernel_rfl
theorem in55 : (Try.prog.info? 55).map (fun i => (i.size, i.bytes)) = some (1, 8) := by kernel_rfl
theorem sz56 : sizeA Try.prog 56 = some 1 := by kernel_rfl
theorem ce56 : Try.prog.cellsOf 56 = 1 := by kernel_rfl
theorem ag56 : isAggA Try.prog 56 = some false := by kernel_rfl
theorem ze56 : zeroA Try.prog 56 = some (.nilf) := by kernel_rfl
theorem in56 : (Try.prog.info? 56).map (fun i => (i.size, i.bytes)) = some (1, 8) := by kernel_rfl
theorem sz57 : sizeA Try.prog 57 = some 1 := by kernel_rfl
theorem ce57 : Try.prog.cellsOf 57 = 1 := by kernel_rfl
theorem ag57 : isAggA Try.prog 57 = some false := by kernel_rfl
theorem ze57 : zeroA Try.prog 57 = some (.nilf) := by kernel_rfl
theorem in57 : (Try.prog.info? 57).map (fun i => (i.size, i.bytes)) = some (1, 8) := by kernel_rfl
theorem sz58 : sizeA Try.prog 58 = some 1 := by kernel_rfl
theorem ce58 : Try.prog.cellsOf 58 = 1 := by kernel_rfl
theorem ag58 : isAggA Try.prog 58 = some false := by kernel_rfl
theorem ze58 : zeroA Try.prog 58 = some (.nilf) := by kernel_rfl
theorem in58 : (Try.prog.info? 58).map (fun i => (i.size, i.bytes)) = some (1, 8) := by kernel_rfl
theorem sz59 : sizeA Try.prog 59 = some 1 := by kernel_rfl
theorem ce59 : Try.prog.cellsOf 59 = 1 := by kernel_rfl
theorem ag59 : isAggA Try.prog 59 = some false := by kernel_rfl
theorem ze59 : zeroA Try.prog 59 = some (.nilf) := by kernel_rfl
theorem in59 : (Try.prog.info? 59).map (fun i => (i.size, i.bytes)) = some (1, 8) := by kernel_rfl
theorem sz60 : sizeA Try.prog 60 = some 1 := by kernel_rfl
theorem ce60 : Try.prog.cellsOf 60 = 1 := by kernel_rfl
theorem ag60 : isAggA Try.prog 60 = some false := by kernel_rfl
theorem ze60 : zeroA Try.prog 60 = some (.nilf) := by kernel_rfl
theorem in60 : (Try.prog.info? 60).map (fun i => (i.size, i.bytes)) = some (1, 8) := by kernel_rfl
theorem sz61 : sizeA Try.prog 61 = some 1 := by kernel_rfl
theorem ce61 : Try.prog.cellsOf 61 = 1 := by kernel_rfl
theorem ag61 : isAggA Try.prog 61 = some false := by kernel_rfl
theorem ze61 : zeroA Try.prog 61 = some (.nilf) := by kernel_rfl
theorem in61 : (Try.prog.info? 61).map (fun i => (i.size, i.bytes)) = some (1, 8) := by kernel_rfl
theorem sz62 : sizeA Try.prog 62 = some 1 := by kernel_rfl
theorem ce62 : Try.prog.cellsOf 62 = 1 := by kernel_rfl
theorem ag62 : isAggA Try.prog 62 = some false := by kernel_rfl
theorem ze62 : zeroA Try.prog 62 = some (.nilf) := by kernel_rfl
theorem in62 : (Try.prog.info? 62).map (fun i => (i.size, i.bytes)) = some (1, 8) := by kernel_rfl
theorem sz63 : sizeA Try.prog 63 = some 1 := by kernel_rfl
theorem ce63 : Try.prog.cellsOf 63 = 1 := by kernel_rfl
theorem ag63 : isAggA Try.prog 63 = some false := by kernel_rfl
theorem ze63 : zeroA Try.prog 63 = some (.nilf) := by kernel_rfl
theorem in63 : (Try.prog.info? 63).map (fun i => (i.size, i.bytes)) = some (1, 8) := by kernel_rfl
theorem sz64 : sizeA Try.prog 64 = some 1 := by kernel_rfl
theorem ce64 : Try.prog.cellsOf 64 = 1 := by kernel_rfl
theorem ag64 : isAggA Try.prog 64 = some false := by kernel_rfl
theorem ze64 : zeroA Try.prog 64 = some (.nilf) := by kernel_rfl
theorem in64 : (Try.prog.info? 64).map (fun i => (i.size, i.bytes)) = some (1, 8) := by kernel_rfl
theorem sz65 : sizeA Try.prog 65 = some 1 := by kernel_rfl
theorem ce65 : Try.prog.cellsOf 65 = 1 := by kernel_rfl
theorem ag65 : isAggA Try.prog 65 = some false := by kernel_rfl
theorem ze65 : zeroA Try.prog 65 = some (.rsl none 0 0 []) := by kernel_rfl
theorem in65 : (Try.prog.info? 65).map (fun i => (i.size, i.bytes)) = some (1, 24) := by kernel_rfl
theorem sz66 : sizeA Try.prog 66 = some 1 := by kernel_rfl
theorem ce66 : Try.prog.cellsOf 66 = 1 := by kernel_rfl
theorem ag66 : isAggA Try.prog 66 = some false := by kernel_rfl
theorem ze66 : zeroA Try.prog 66 = some (.nilf) := by kernel_rfl
theorem in66 : (Try.prog.info? 66).map (fun i => (i.size, i.bytes)) = some (1, 8) := by kernel_rfl
theorem sz67 : sizeA Try.prog 67 = some 1 := by kernel_rfl
theorem ce67 : Try.prog.cellsOf 67 = 1 := by kernel_rfl
theorem ag67 : isAggA Try.prog 67 = some false := by kernel_rfl
theorem ze67 : zeroA Try.prog 67 = some (.nilf) := by kernel_rfl
theorem in67 : (Try.prog.info? 67).map (fun i => (i.size, i.bytes)) = some (1, 8) := by kernel_rfl
theorem sz68 : sizeA Try.prog 68 = some 1 := by kernel_rfl
theorem ce68 : Try.prog.cellsOf 68 = 1 := by kernel_rfl
theorem ag68 : isAggA Try.prog 68 = some false := by kernel_rfl
theorem ze68 : zeroA Try.prog 68 = some (.nilf) := by kernel_rfl
theorem in68 : (Try.prog.info? 68).map (fun i => (i.size, i.bytes)) = some (1, 8) := by kernel_rfl
theorem sz69 : sizeA Try.prog 69 = some 1 := by kernel_rfl
theorem ce69 : Try.prog.cellsOf 69 = 1 := by kernel_rfl
theorem ag69 : isAggA Try.prog 69 = some false := by kernel_rfl
theorem ze69 : zeroA Try.prog 69 = some (.nilf) := by kernel_rfl
theorem in69 : (Try.prog.info? 69).map (fun i => (i.size, i.bytes)) = some (1, 8) := by kernel_rfl
theorem sz70 : sizeA Try.prog 70 = some 1 := by kernel_rfl
theorem ce70 : Try.prog.cellsOf 70 = 1 := by kernel_rfl
theorem ag70 : isAggA Try.prog 70 = some false := by kernel_rfl
theorem ze70 : zeroA Try.prog 70 = some (.nilf) := by kernel_rfl
theorem in70 : (Try.prog.info? 70).map (fun i => (i.size, i.bytes)) = some (1, 8) := by kernel_rfl
theorem sz71 : sizeA Try.prog 71 = some 1 := by kernel_rfl
theorem ce71 : Try.prog.cellsOf 71 = 1 := by kernel_rfl
theorem ag71 : isAggA Try.prog 71 = some false := by kernel_rfl
theorem ze71 : zeroA Try.prog 71 = some (.nilf) := by kernel_rfl
theorem in71 : (Try.prog.info? 71).map (fun i => (i.size, i.bytes)) = some (1, 8) := by kernel_rfl
theorem sz72 : sizeA Try.prog 72 = some 1 := by kernel_rfl
theorem ce72 : Try.prog.cellsOf 72 = 1 := by kernel_rfl
theorem ag72 : isAggA Try.prog 72 = some false := by kernel_rfl
theorem ze72 : zeroA Try.prog 72 = some (.nilf) := by kernel_rfl
theorem in72 : (Try.prog.info? 72).map (fun i => (i.size, i.bytes)) = some (1, 8) := by kernel_rfl
theorem sz73 : sizeA Try.prog 73 = some 4 := by kernel_rfl
theorem ce73 : Try.prog.cellsOf 73 = 4 := by kernel_rfl
theorem ag73 : isAggA Try.prog 73 = some true := by kernel_rfl
theorem ze73 : zeroA Try.prog 73 = some (.agg [.nilp, .nilp, .nilp, .str ByteArray.empty]) := by kernel_rfl
theorem in73 : (Try.prog.info? 73).map (fun i => (i.size, i.bytes)) = some (4, 40) := by kernel_rfl
theorem sz74 : sizeA Try.prog 74 = some 4 := by kernel_rfl
theorem ce74 : Try.prog.cellsOf 74 = 4 := by kernel_rfl
theorem ag74 : isAggA Try.prog 74 = some true := by kernel_rfl
theorem ze74 : zeroA Try.prog 74 = some (.agg [.nilp, .nilp, .nilp, .str ByteArray.empty]) := by kernel_rfl
theorem in74 : (Try.prog.info? 74).map (fun i => (i.size, i.bytes)) = some (4, 40) := by kernel_rfl
theorem sz75 : sizeA Try.prog 75 = some 0 := by kernel_rfl
theorem ce75 : Try.prog.cellsOf 75 = 0 := by kernel_rfl
theorem ag75 : isAggA Try.prog 75 = some true := by kernel_rfl
theorem ze75 : zeroA Try.prog 75 = some (.agg []) := by kernel_rfl
theorem in75 : (Try.prog.info? 75).map (fun i => (i.size, i.bytes)) = some (0, 0) := by kernel_rfl
theorem sz76 : sizeA Try.prog 76 = some 0 := by kernel_rfl
theorem ce76 : Try.prog.cellsOf 76 = 0 := by kernel_rfl
theorem ag76 : isAggA Try.prog 76 = some true := by kernel_rfl
theorem ze76 : zeroA Try.prog 76 = some (.agg []) := by kernel_rfl
theorem in76 : (Try.prog.info? 76).map (fun i => (i.size, i.bytes)) = some (0, 0) := by kernel_rfl
theorem sz77 : sizeA Try.prog 77 = some 0 := by kernel_rfl
theorem ce77 : Try.prog.cellsOf 77 = 0 := by kernel_rfl
theorem ag77 : isAggA Try.prog 77 = some true := by kernel_rfl
theorem ze77 : zeroA Try.prog 77 = some (.agg []) := by kernel_rfl
theorem in77 : (Try.prog.info? 77).map (fun i => (i.size, i.bytes)) = some (0, 0) := by kernel_rfl
theorem sz78 : sizeA Try.prog 78 = some 1 := by kernel_rfl
theorem ce78 : Try.prog.cellsOf 78 = 1 := by kernel_rfl
theorem ag78 : isAggA Try.prog 78 = some false := by kernel_rfl
theorem ze78 : zeroA Try.prog 78 = some (.nilf) := by kernel_rfl
theorem in78 : (Try.prog.info? 78).map (fun i => (i.size, i.bytes)) = some (1, 8) := by kernel_rfl
theorem sz79 : sizeA Try.prog 79 = some 1 := by kernel_rfl
theorem ce79 : Try.prog.cellsOf 79 = 1 := by kernel_rfl
theorem ag79 : isAggA Try.prog 79 = some false := by kernel_rfl
theorem ze79 : zeroA Try.prog 79 = some (.int .u32 0) := by kernel_rfl
theorem in79 : (Try.prog.info? 79).map (fun i => (i.size, i.bytes)) = some (1, 4) := by kernel_rfl
theorem sz80 : sizeA Try.prog 80 = some 1 := by kernel_rfl
theorem ce80 : Try.prog.cellsOf 80 = 1 := by kernel_rfl
theorem ag80 : isAggA Try.prog 80 = some false := by kernel_rfl
theorem ze80 : zeroA Try.prog 80 = some (.int .u8 0) := by kernel_rfl
theorem in80 : (Try.prog.info? 80).map (fun i => (i.size, i.bytes)) = some (1, 1) := by kernel_rfl
theorem sz81 : sizeA Try.prog 81 = some 1 := by kernel_rfl
theorem ce81 : Try.prog.cellsOf 81 = 1 := by kernel_rfl
theorem ag81 : isAggA Try.prog 81 = some false := by kernel_rfl
theorem ze81 : zeroA Try.prog 81 = some (.int .u8 0) := by kernel_rfl
theorem in81 : (Try.prog.info? 81).map (fun i => (i.size, i.bytes)) = some (1, 1) := by kernel_rfl
theorem sz82 : sizeA Try.prog 82 = some 1 := by kernel_rfl
theorem ce82 : Try.prog.cellsOf 82 = 1 := by kernel_rfl
theorem ag82 : isAggA Try.prog 82 = some false := by kernel_rfl
theorem ze82 : zeroA Try.prog 82 = some (.nilf) := by kernel_rfl
theorem in82 : (Try.prog.info? 82).map (fun i => (i.size, i.bytes)) = some (1, 8) := by kernel_rfl
theorem sz83 : sizeA Try.prog 83 = some 1 := by kernel_rfl
theorem ce83 : Try.prog.cellsOf 83 = 1 := by kernel_rfl
theorem ag83 : isAggA Try.prog 83 = some false := by kernel_rfl
theorem ze83 : zeroA Try.prog 83 = some (.nilp) := by kernel_rfl
theorem in83 : (Try.prog.info? 83).map (fun i => (i.size, i.bytes)) = some (1, 8) := by kernel_rfl
theorem sz84 : sizeA Try.prog 84 = some 1 := by kernel_rfl
theorem ce84 : Try.prog.cellsOf 84 = 1 := by kernel_rfl
theorem ag84 : isAggA Try.prog 84 = some false := by kernel_rfl
theorem ze84 : zeroA Try.prog 84 = some (.int .i32 0) := by kernel_rfl
theorem in84 : (Try.prog.info? 84).map (fun i => (i.size, i.bytes)) = some (1, 4) := by kernel_rfl
theorem sz85 : sizeA Try.prog 85 = some 1 := by kernel_rfl
theorem ce85 : Try.prog.cellsOf 85 = 1 := by kernel_rfl
theorem ag85 : isAggA Try.prog 85 = some false := by kernel_rfl
theorem ze85 : zeroA Try.prog 85 = some (.int .i32 0) := by kernel_rfl
theorem in85 : (Try.prog.info? 85).map (fun i => (i.size, i.bytes)) = some (1, 4) := by kernel_rfl
theorem sz86 : sizeA Try.prog 86 = some 11 := by kernel_rfl
theorem ce86 : Try.prog.cellsOf 86 = 11 := by kernel_rfl
theorem ag86 : isAggA Try.prog 86 = some true := by kernel_rfl
theorem ze86 : zeroA Try.prog 86 = some (.agg [.int .u64 0, .int .u64 0, .int .u32 0, .int .u8 0, .int .u8 0, .int .u8 0, .int .u8 0, .nilf, .nilp, .int .i32 0, .int .i32 0]) := by kernel_rfl
theorem in86 : (Try.prog.info? 86).map (fun i => (i.size, i.bytes)) = some (11, 48) := by kernel_rfl
theorem sz87 : sizeA Try.prog 87 = some 11 := by kernel_rfl
theorem ce87 : Try.prog.cellsOf 87 = 11 := by kernel_rfl
theorem ag87 : isAggA Try.prog 87 = some true := by kernel_rfl
theorem ze87 : zeroA Try.prog 87 = some (.agg [.int .u64 0, .int .u64 0, .int .u32 0, .int .u8 0, .int .u8 0, .int .u8 0, .int .u8 0, .nilf, .nilp, .int .i32 0, .int .i32 0]) := by kernel_rfl
theorem in87 : (Try.prog.info? 87).map (fun i => (i.size, i.bytes)) = some (11, 48) := by kernel_rfl
theorem sz88 : sizeA Try.prog 88 = some 1 := by kernel_rfl
theorem ce88 : Try.prog.cellsOf 88 = 1 := by kernel_rfl
theorem ag88 : isAggA Try.prog 88 = some false := by kernel_rfl
theorem ze88 : zeroA Try.prog 88 = some (.nilp) := by kernel_rfl
theorem in88 : (Try.prog.info? 88).map (fun i => (i.size, i.bytes)) = some (1, 8) := by kernel_rfl
theorem dr4_14 : drawLen (regAt Try.f4 14) = some 10 := by kernel_rfl
theorem dr12_7 : drawLen (regAt Try.f12 7) = some 7 := by kernel_rfl
theorem dr14_6 : drawLen (regAt Try.f14 6) = some 6 := by kernel_rfl
theorem dr20_6 : drawLen (regAt Try.f20 6) = some 7 := by kernel_rfl
theorem dr22_4 : drawLen (regAt Try.f22 4) = some 8 := by kernel_rfl
theorem dr22_10 : drawLen (regAt Try.f22 10) = some 11 := by kernel_rfl
theorem dr24_9 : drawLen (regAt Try.f24 9) = some 11 := by kernel_rfl
theorem dr26_11 : drawLen (regAt Try.f26 11) = some 5 := by kernel_rfl
theorem dr27_8 : drawLen (regAt Try.f27 8) = some 21 := by kernel_rfl
theorem dr27_13 : drawLen (regAt Try.f27 13) = some 34 := by kernel_rfl
end Go.Proofs.Ytlbkcdfllglddaa.fmt
