/- Facts of the program's types and of its regions whose order is open and what follows. Conditions: in each statement. -/
import Derived.Test.YtejmfbeiejlgkaaRows
import Derived.Test.YtejmfbeiejlgkaaA2
import Derived.KernelRfl
/-! Facts of the program's types and of its regions whose order is open. Printed by a program of this session (mkty.py). Conditions: none. -/
namespace Go.Proofs.Ytejmfbeiejlgkaa.obj
open Go Go.Ab
set_option maxRecDepth 100000
theorem sz0 : sizeA Try.prog 0 = some 1 := by kernel_rfl
theorem ce0 : Try.prog.cellsOf 0 = 1 := by kernel_rfl
theorem ag0 : isAggA Try.prog 0 = some false := by kernel_rfl
theorem in0 : (Try.prog.info? 0).map (fun i => (i.size, i.bytes)) = some (1, 0) := by kernel_rfl
theorem sz1 : sizeA Try.prog 1 = some 1 := by kernel_rfl
theorem ce1 : Try.prog.cellsOf 1 = 1 := by kernel_rfl
theorem ag1 : isAggA Try.prog 1 = some false := by kernel_rfl
theorem ze1 : zeroA Try.prog 1 = some (.nilf) := by kernel_rfl
theorem in1 : (Try.prog.info? 1).map (fun i => (i.size, i.bytes)) = some (1, 8) := by kernel_rfl
theorem sz2 : sizeA Try.prog 2 = some 1 := by kernel_rfl
theorem ce2 : Try.prog.cellsOf 2 = 1 := by kernel_rfl
theorem ag2 : isAggA Try.prog 2 = some false := by kernel_rfl
theorem ze2 : zeroA Try.prog 2 = some (.int .i64 0) := by kernel_rfl
theorem in2 : (Try.prog.info? 2).map (fun i => (i.size, i.bytes)) = some (1, 8) := by kernel_rfl
theorem sz3 : sizeA Try.prog 3 = some 1 := by kernel_rfl
theorem ce3 : Try.prog.cellsOf 3 = 1 := by kernel_rfl
theorem ag3 : isAggA Try.prog 3 = some false := by kernel_rfl
theorem ze3 : zeroA Try.prog 3 = some (.int .i64 0) := by kernel_rfl
theorem in3 : (Try.prog.info? 3).map (fun i => (i.size, i.bytes)) = some (1, 8) := by kernel_rfl
theorem sz4 : sizeA Try.prog 4 = some 1 := by kernel_rfl
theorem ce4 : Try.prog.cellsOf 4 = 1 := by kernel_rfl
theorem ag4 : isAggA Try.prog 4 = some false := by kernel_rfl
theorem ze4 : zeroA Try.prog 4 = some (.bool false) := by kernel_rfl
theorem in4 : (Try.prog.info? 4).map (fun i => (i.size, i.bytes)) = some (1, 1) := by kernel_rfl
theorem sz5 : sizeA Try.prog 5 = some 1 := by kernel_rfl
theorem ce5 : Try.prog.cellsOf 5 = 1 := by kernel_rfl
theorem ag5 : isAggA Try.prog 5 = some false := by kernel_rfl
theorem ze5 : zeroA Try.prog 5 = some (.int .u8 0) := by kernel_rfl
theorem in5 : (Try.prog.info? 5).map (fun i => (i.size, i.bytes)) = some (1, 1) := by kernel_rfl
theorem sz6 : sizeA Try.prog 6 = some 1 := by kernel_rfl
theorem ce6 : Try.prog.cellsOf 6 = 1 := by kernel_rfl
theorem ag6 : isAggA Try.prog 6 = some false := by kernel_rfl
theorem ze6 : zeroA Try.prog 6 = some (.int .u8 0) := by kernel_rfl
theorem in6 : (Try.prog.info? 6).map (fun i => (i.size, i.bytes)) = some (1, 1) := by kernel_rfl
theorem sz7 : sizeA Try.prog 7 = some 4 := by kernel_rfl
theorem ce7 : Try.prog.cellsOf 7 = 4 := by kernel_rfl
theorem ag7 : isAggA Try.prog 7 = some true := by kernel_rfl
theorem ze7 : zeroA Try.prog 7 = some (.agg [.int .i64 0, .int .i64 0, .bool false, .int .u8 0]) := by kernel_rfl
theorem in7 : (Try.prog.info? 7).map (fun i => (i.size, i.bytes)) = some (4, 24) := by kernel_rfl
theorem sz8 : sizeA Try.prog 8 = some 4 := by kernel_rfl
theorem ce8 : Try.prog.cellsOf 8 = 4 := by kernel_rfl
theorem ag8 : isAggA Try.prog 8 = some true := by kernel_rfl
theorem ze8 : zeroA Try.prog 8 = some (.agg [.int .i64 0, .int .i64 0, .bool false, .int .u8 0]) := by kernel_rfl
theorem in8 : (Try.prog.info? 8).map (fun i => (i.size, i.bytes)) = some (4, 24) := by kernel_rfl
theorem sz9 : sizeA Try.prog 9 = some 1 := by kernel_rfl
theorem ce9 : Try.prog.cellsOf 9 = 1 := by kernel_rfl
theorem ag9 : isAggA Try.prog 9 = some false := by kernel_rfl
theorem ze9 : zeroA Try.prog 9 = some (.str ByteArray.empty) := by kernel_rfl
theorem in9 : (Try.prog.info? 9).map (fun i => (i.size, i.bytes)) = some (1, 16) := by kernel_rfl
theorem sz10 : sizeA Try.prog 10 = some 1 := by kernel_rfl
theorem ce10 : Try.prog.cellsOf 10 = 1 := by kernel_rfl
theorem ag10 : isAggA Try.prog 10 = some false := by kernel_rfl
theorem ze10 : zeroA Try.prog 10 = some (.str ByteArray.empty) := by kernel_rfl
theorem in10 : (Try.prog.info? 10).map (fun i => (i.size, i.bytes)) = some (1, 16) := by kernel_rfl
theorem sz11 : sizeA Try.prog 11 = some 1 := by kernel_rfl
theorem ce11 : Try.prog.cellsOf 11 = 1 := by kernel_rfl
theorem ag11 : isAggA Try.prog 11 = some false := by kernel_rfl
theorem ze11 : zeroA Try.prog 11 = some (.str ByteArray.empty) := by kernel_rfl
theorem in11 : (Try.prog.info? 11).map (fun i => (i.size, i.bytes)) = some (1, 16) := by kernel_rfl
theorem sz12 : sizeA Try.prog 12 = some 1 := by kernel_rfl
theorem ce12 : Try.prog.cellsOf 12 = 1 := by kernel_rfl
theorem ag12 : isAggA Try.prog 12 = some false := by kernel_rfl
theorem ze12 : zeroA Try.prog 12 = some (.int .u64 0) := by kernel_rfl
theorem in12 : (Try.prog.info? 12).map (fun i => (i.size, i.bytes)) = some (1, 8) := by kernel_rfl
theorem sz13 : sizeA Try.prog 13 = some 2 := by kernel_rfl
theorem ce13 : Try.prog.cellsOf 13 = 2 := by kernel_rfl
theorem ag13 : isAggA Try.prog 13 = some true := by kernel_rfl
theorem ze13 : zeroA Try.prog 13 = some (.agg [.str ByteArray.empty, .int .u64 0]) := by kernel_rfl
theorem in13 : (Try.prog.info? 13).map (fun i => (i.size, i.bytes)) = some (2, 24) := by kernel_rfl
theorem sz14 : sizeA Try.prog 14 = some 2 := by kernel_rfl
theorem ce14 : Try.prog.cellsOf 14 = 2 := by kernel_rfl
theorem ag14 : isAggA Try.prog 14 = some true := by kernel_rfl
theorem ze14 : zeroA Try.prog 14 = some (.agg [.str ByteArray.empty, .int .u64 0]) := by kernel_rfl
theorem in14 : (Try.prog.info? 14).map (fun i => (i.size, i.bytes)) = some (2, 24) := by kernel_rfl
theorem sz15 : sizeA Try.prog 15 = some 1 := by kernel_rfl
theorem ce15 : Try.prog.cellsOf 15 = 1 := by kernel_rfl
theorem ag15 : isAggA Try.prog 15 = some false := by kernel_rfl
theorem ze15 : zeroA Try.prog 15 = some (.nilp) := by kernel_rfl
theorem in15 : (Try.prog.info? 15).map (fun i => (i.size, i.bytes)) = some (1, 8) := by kernel_rfl
theorem sz16 : sizeA Try.prog 16 = some 1 := by kernel_rfl
theorem ce16 : Try.prog.cellsOf 16 = 1 := by kernel_rfl
theorem ag16 : isAggA Try.prog 16 = some false := by kernel_rfl
theorem ze16 : zeroA Try.prog 16 = some (.nilp) := by kernel_rfl
theorem in16 : (Try.prog.info? 16).map (fun i => (i.size, i.bytes)) = some (1, 8) := by kernel_rfl
theorem sz17 : sizeA Try.prog 17 = some 1 := by kernel_rfl
theorem ce17 : Try.prog.cellsOf 17 = 1 := by kernel_rfl
theorem ag17 : isAggA Try.prog 17 = some false := by kernel_rfl
theorem ze17 : zeroA Try.prog 17 = some (.nilp) := by kernel_rfl
theorem in17 : (Try.prog.info? 17).map (fun i => (i.size, i.bytes)) = some (1, 8) := by kernel_rfl
theorem sz18 : sizeA Try.prog 18 = some 1 := by kernel_rfl
theorem ce18 : Try.prog.cellsOf 18 = 1 := by kernel_rfl
theorem ag18 : isAggA Try.prog 18 = some true := by kernel_rfl
theorem ze18 : zeroA Try.prog 18 = some (.agg [.nilp]) := by kernel_rfl
theorem in18 : (Try.prog.info? 18).map (fun i => (i.size, i.bytes)) = some (1, 8) := by kernel_rfl
theorem sz19 : sizeA Try.prog 19 = some 1 := by kernel_rfl
theorem ce19 : Try.prog.cellsOf 19 = 1 := by kernel_rfl
theorem ag19 : isAggA Try.prog 19 = some true := by kernel_rfl
theorem ze19 : zeroA Try.prog 19 = some (.agg [.nilp]) := by kernel_rfl
theorem in19 : (Try.prog.info? 19).map (fun i => (i.size, i.bytes)) = some (1, 8) := by kernel_rfl
theorem sz20 : sizeA Try.prog 20 = some 1 := by kernel_rfl
theorem ce20 : Try.prog.cellsOf 20 = 1 := by kernel_rfl
theorem ag20 : isAggA Try.prog 20 = some false := by kernel_rfl
theorem ze20 : zeroA Try.prog 20 = some (.nili) := by kernel_rfl
theorem in20 : (Try.prog.info? 20).map (fun i => (i.size, i.bytes)) = some (1, 16) := by kernel_rfl
theorem sz21 : sizeA Try.prog 21 = some 1 := by kernel_rfl
theorem ce21 : Try.prog.cellsOf 21 = 1 := by kernel_rfl
theorem ag21 : isAggA Try.prog 21 = some false := by kernel_rfl
theorem ze21 : zeroA Try.prog 21 = some (.int .i32 0) := by kernel_rfl
theorem in21 : (Try.prog.info? 21).map (fun i => (i.size, i.bytes)) = some (1, 4) := by kernel_rfl
theorem sz22 : sizeA Try.prog 22 = some 1 := by kernel_rfl
theorem ce22 : Try.prog.cellsOf 22 = 1 := by kernel_rfl
theorem ag22 : isAggA Try.prog 22 = some false := by kernel_rfl
theorem ze22 : zeroA Try.prog 22 = some (.rsl none 0 0 []) := by kernel_rfl
theorem in22 : (Try.prog.info? 22).map (fun i => (i.size, i.bytes)) = some (1, 24) := by kernel_rfl
theorem sz23 : sizeA Try.prog 23 = some 1 := by kernel_rfl
theorem ce23 : Try.prog.cellsOf 23 = 1 := by kernel_rfl
theorem ag23 : isAggA Try.prog 23 = some false := by kernel_rfl
theorem ze23 : zeroA Try.prog 23 = some (.rsl none 0 0 []) := by kernel_rfl
theorem in23 : (Try.prog.info? 23).map (fun i => (i.size, i.bytes)) = some (1, 24) := by kernel_rfl
theorem sz24 : sizeA Try.prog 24 = some 1 := by kernel_rfl
theorem ce24 : Try.prog.cellsOf 24 = 1 := by kernel_rfl
theorem ag24 : isAggA Try.prog 24 = some false := by kernel_rfl
theorem ze24 : zeroA Try.prog 24 = some (.rsl none 0 0 []) := by kernel_rfl
theorem in24 : (Try.prog.info? 24).map (fun i => (i.size, i.bytes)) = some (1, 24) := by kernel_rfl
theorem sz25 : sizeA Try.prog 25 = some 4 := by kernel_rfl
theorem ce25 : Try.prog.cellsOf 25 = 4 := by kernel_rfl
theorem ag25 : isAggA Try.prog 25 = some true := by kernel_rfl
theorem ze25 : zeroA Try.prog 25 = some (.agg [.str ByteArray.empty, .rsl none 0 0 [], .rsl none 0 0 [], .rsl none 0 0 []]) := by kernel_rfl
theorem in25 : (Try.prog.info? 25).map (fun i => (i.size, i.bytes)) = some (4, 88) := by kernel_rfl
theorem sz26 : sizeA Try.prog 26 = some 4 := by kernel_rfl
theorem ce26 : Try.prog.cellsOf 26 = 4 := by kernel_rfl
theorem ag26 : isAggA Try.prog 26 = some true := by kernel_rfl
theorem ze26 : zeroA Try.prog 26 = some (.agg [.str ByteArray.empty, .rsl none 0 0 [], .rsl none 0 0 [], .rsl none 0 0 []]) := by kernel_rfl
theorem in26 : (Try.prog.info? 26).map (fun i => (i.size, i.bytes)) = some (4, 88) := by kernel_rfl
theorem sz27 : sizeA Try.prog 27 = some 1 := by kernel_rfl
theorem ce27 : Try.prog.cellsOf 27 = 1 := by kernel_rfl
theorem ag27 : isAggA Try.prog 27 = some false := by kernel_rfl
theorem ze27 : zeroA Try.prog 27 = some (.nilf) := by kernel_rfl
theorem in27 : (Try.prog.info? 27).map (fun i => (i.size, i.bytes)) = some (1, 8) := by kernel_rfl
theorem sz28 : sizeA Try.prog 28 = some 1 := by kernel_rfl
theorem ce28 : Try.prog.cellsOf 28 = 1 := by kernel_rfl
theorem ag28 : isAggA Try.prog 28 = some false := by kernel_rfl
theorem ze28 : zeroA Try.prog 28 = some (.nilf) := by kernel_rfl
theorem in28 : (Try.prog.info? 28).map (fun i => (i.size, i.bytes)) = some (1, 8) := by kernel_rfl
theorem sz29 : sizeA Try.prog 29 = some 1 := by kernel_rfl
theorem ce29 : Try.prog.cellsOf 29 = 1 := by kernel_rfl
theorem ag29 : isAggA Try.prog 29 = some false := by kernel_rfl
theorem ze29 : zeroA Try.prog 29 = some (.int .i64 0) := by kernel_rfl
theorem in29 : (Try.prog.info? 29).map (fun i => (i.size, i.bytes)) = some (1, 8) := by kernel_rfl
theorem sz30 : sizeA Try.prog 30 = some 1 := by kernel_rfl
theorem ce30 : Try.prog.cellsOf 30 = 1 := by kernel_rfl
theorem ag30 : isAggA Try.prog 30 = some false := by kernel_rfl
theorem in30 : (Try.prog.info? 30).map (fun i => (i.size, i.bytes)) = some (1, 0) := by kernel_rfl
theorem sz31 : sizeA Try.prog 31 = some 1 := by kernel_rfl
theorem ce31 : Try.prog.cellsOf 31 = 1 := by kernel_rfl
theorem ag31 : isAggA Try.prog 31 = some false := by kernel_rfl
theorem ze31 : zeroA Try.prog 31 = some (.nilf) := by kernel_rfl
theorem in31 : (Try.prog.info? 31).map (fun i => (i.size, i.bytes)) = some (1, 8) := by kernel_rfl
theorem sz32 : sizeA Try.prog 32 = some 1 := by kernel_rfl
theorem ce32 : Try.prog.cellsOf 32 = 1 := by kernel_rfl
theorem ag32 : isAggA Try.prog 32 = some false := by kernel_rfl
theorem in32 : (Try.prog.info? 32).map (fun i => (i.size, i.bytes)) = some (1, 0) := by kernel_rfl
theorem sz33 : sizeA Try.prog 33 = some 1 := by kernel_rfl
theorem ce33 : Try.prog.cellsOf 33 = 1 := by kernel_rfl
theorem ag33 : isAggA Try.prog 33 = some false := by kernel_rfl
theorem ze33 : zeroA Try.prog 33 = some (.nilf) := by kernel_rfl
theorem in33 : (Try.prog.info? 33).map (fun i => (i.size, i.bytes)) = some (1, 8) := by kernel_rfl
theorem sz34 : sizeA Try.prog 34 = some 1 := by kernel_rfl
theorem ce34 : Try.prog.cellsOf 34 = 1 := by kernel_rfl
theorem ag34 : isAggA Try.prog 34 = some false := by kernel_rfl
theorem ze34 : zeroA Try.prog 34 = some (.nilf) := by kernel_rfl
theorem in34 : (Try.prog.info? 34).map (fun i => (i.size, i.bytes)) = some (1, 8) := by kernel_rfl
theorem sz35 : sizeA Try.prog 35 = some 1 := by kernel_rfl
theorem ce35 : Try.prog.cellsOf 35 = 1 := by kernel_rfl
theorem ag35 : isAggA Try.prog 35 = some false := by kernel_rfl
theorem ze35 : zeroA Try.prog 35 = some (.nilf) := by kernel_rfl
theorem in35 : (Try.prog.info? 35).map (fun i => (i.size, i.bytes)) = some (1, 8) := by kernel_rfl
theorem sz36 : sizeA Try.prog 36 = some 1 := by kernel_rfl
theorem ce36 : Try.prog.cellsOf 36 = 1 := by kernel_rfl
theorem ag36 : isAggA Try.prog 36 = some false := by kernel_rfl
theorem ze36 : zeroA Try.prog 36 = some (.nilf) := by kernel_rfl
theorem in36 : (Try.prog.info? 36).map (fun i => (i.size, i.bytes)) = some (1, 8) := by kernel_rfl
theorem sz37 : sizeA Try.prog 37 = some 1 := by kernel_rfl
theorem ce37 : Try.prog.cellsOf 37 = 1 := by kernel_rfl
theorem ag37 : isAggA Try.prog 37 = some false := by kernel_rfl
theorem ze37 : zeroA Try.prog 37 = some (.rsl none 0 0 []) := by kernel_rfl
theorem in37 : (Try.prog.info? 37).map (fun i => (i.size, i.bytes)) = some (1, 24) := by kernel_rfl
theorem sz38 : sizeA Try.prog 38 = some 3 := by kernel_rfl
theorem ce38 : Try.prog.cellsOf 38 = 3 := by kernel_rfl
theorem ag38 : isAggA Try.prog 38 = some true := by kernel_rfl
theorem ze38 : zeroA Try.prog 38 = some (.agg [.str ByteArray.empty, .int .i64 0, .rsl none 0 0 []]) := by kernel_rfl
theorem in38 : (Try.prog.info? 38).map (fun i => (i.size, i.bytes)) = some (3, 48) := by kernel_rfl
theorem sz39 : sizeA Try.prog 39 = some 3 := by kernel_rfl
theorem ce39 : Try.prog.cellsOf 39 = 3 := by kernel_rfl
theorem ag39 : isAggA Try.prog 39 = some true := by kernel_rfl
theorem ze39 : zeroA Try.prog 39 = some (.agg [.str ByteArray.empty, .int .i64 0, .rsl none 0 0 []]) := by kernel_rfl
theorem in39 : (Try.prog.info? 39).map (fun i => (i.size, i.bytes)) = some (3, 48) := by kernel_rfl
theorem sz40 : sizeA Try.prog 40 = some 3 := by kernel_rfl
theorem ce40 : Try.prog.cellsOf 40 = 3 := by kernel_rfl
theorem ag40 : isAggA Try.prog 40 = some true := by kernel_rfl
theorem ze40 : zeroA Try.prog 40 = some (.agg [.str ByteArray.empty, .int .i64 0, .int .i64 0]) := by kernel_rfl
theorem in40 : (Try.prog.info? 40).map (fun i => (i.size, i.bytes)) = some (3, 32) := by kernel_rfl
theorem sz41 : sizeA Try.prog 41 = some 3 := by kernel_rfl
theorem ce41 : Try.prog.cellsOf 41 = 3 := by kernel_rfl
theorem ag41 : isAggA Try.prog 41 = some true := by kernel_rfl
theorem ze41 : zeroA Try.prog 41 = some (.agg [.str ByteArray.empty, .int .i64 0, .int .i64 0]) := by kernel_rfl
theorem in41 : (Try.prog.info? 41).map (fun i => (i.size, i.bytes)) = some (3, 32) := by kernel_rfl
theorem sz42 : sizeA Try.prog 42 = some 8 := by kernel_rfl
theorem ce42 : Try.prog.cellsOf 42 = 8 := by kernel_rfl
theorem ag42 : isAggA Try.prog 42 = some true := by kernel_rfl
theorem ze42 : zeroA Try.prog 42 = some (.agg [.int .i64 0, .int .i64 0, .int .u8 0, .int .i64 0, .int .i64 0, .int .i64 0, .int .i64 0, .int .i64 0]) := by kernel_rfl
theorem in42 : (Try.prog.info? 42).map (fun i => (i.size, i.bytes)) = some (8, 64) := by kernel_rfl
theorem sz43 : sizeA Try.prog 43 = some 8 := by kernel_rfl
theorem ce43 : Try.prog.cellsOf 43 = 8 := by kernel_rfl
theorem ag43 : isAggA Try.prog 43 = some true := by kernel_rfl
theorem ze43 : zeroA Try.prog 43 = some (.agg [.int .i64 0, .int .i64 0, .int .u8 0, .int .i64 0, .int .i64 0, .int .i64 0, .int .i64 0, .int .i64 0]) := by kernel_rfl
theorem in43 : (Try.prog.info? 43).map (fun i => (i.size, i.bytes)) = some (8, 64) := by kernel_rfl
theorem sz44 : sizeA Try.prog 44 = some 1 := by kernel_rfl
theorem ce44 : Try.prog.cellsOf 44 = 1 := by kernel_rfl
theorem ag44 : isAggA Try.prog 44 = some false := by kernel_rfl
theorem ze44 : zeroA Try.prog 44 = some (.nilf) := by kernel_rfl
theorem in44 : (Try.prog.info? 44).map (fun i => (i.size, i.bytes)) = some (1, 8) := by kernel_rfl
theorem sz45 : sizeA Try.prog 45 = some 1 := by kernel_rfl
theorem ce45 : Try.prog.cellsOf 45 = 1 := by kernel_rfl
theorem ag45 : isAggA Try.prog 45 = some false := by kernel_rfl
theorem ze45 : zeroA Try.prog 45 = some (.nilf) := by kernel_rfl
theorem in45 : (Try.prog.info? 45).map (fun i => (i.size, i.bytes)) = some (1, 8) := by kernel_rfl
theorem sz46 : sizeA Try.prog 46 = some 1 := by kernel_rfl
theorem ce46 : Try.prog.cellsOf 46 = 1 := by kernel_rfl
theorem ag46 : isAggA Try.prog 46 = some false := by kernel_rfl
theorem ze46 : zeroA Try.prog 46 = some (.nilf) := by kernel_rfl
theorem in46 : (Try.prog.info? 46).map (fun i => (i.size, i.bytes)) = some (1, 8) := by kernel_rfl
theorem sz47 : sizeA Try.prog 47 = some 1 := by kernel_rfl
theorem ce47 : Try.prog.cellsOf 47 = 1 := by kernel_rfl
theorem ag47 : isAggA Try.prog 47 = some false := by kernel_rfl
theorem ze47 : zeroA Try.prog 47 = some (.nilf) := by kernel_rfl
theorem in47 : (Try.prog.info? 47).map (fun i => (i.size, i.bytes)) = some (1, 8) := by kernel_rfl
theorem sz48 : sizeA Try.prog 48 = some 1 := by kernel_rfl
theorem ce48 : Try.prog.cellsOf 48 = 1 := by kernel_rfl
theorem ag48 : isAggA Try.prog 48 = some false := by kernel_rfl
theorem ze48 : zeroA Try.prog 48 = some (.nilf) := by kernel_rfl
theorem in48 : (Try.prog.info? 48).map (fun i => (i.size, i.bytes)) = some (1, 8) := by kernel_rfl
theorem sz49 : sizeA Try.prog 49 = some 1 := by kernel_rfl
theorem ce49 : Try.prog.cellsOf 49 = 1 := by kernel_rfl
theorem ag49 : isAggA Try.prog 49 = some false := by kernel_rfl
theorem ze49 : zeroA Try.prog 49 = some (.nilf) := by kernel_rfl
theorem in49 : (Try.prog.info? 49).map (fun i => (i.size, i.bytes)) = some (1, 8) := by kernel_rfl
theorem sz50 : sizeA Try.prog 50 = some 1 := by kernel_rfl
theorem ce50 : Try.prog.cellsOf 50 = 1 := by kernel_rfl
theorem ag50 : isAggA Try.prog 50 = some false := by kernel_rfl
theorem ze50 : zeroA Try.prog 50 = some (.nilf) := by kernel_rfl
theorem in50 : (Try.prog.info? 50).map (fun i => (i.size, i.bytes)) = some (1, 8) := by kernel_rfl
theorem sz51 : sizeA Try.prog 51 = some 1 := by kernel_rfl
theorem ce51 : Try.prog.cellsOf 51 = 1 := by kernel_rfl
theorem ag51 : isAggA Try.prog 51 = some false := by kernel_rfl
theorem ze51 : zeroA Try.prog 51 = some (.nilf) := by kernel_rfl
theorem in51 : (Try.prog.info? 51).map (fun i => (i.size, i.bytes)) = some (1, 8) := by kernel_rfl
theorem sz52 : sizeA Try.prog 52 = some 1 := by kernel_rfl
theorem ce52 : Try.prog.cellsOf 52 = 1 := by kernel_rfl
theorem ag52 : isAggA Try.prog 52 = some false := by kernel_rfl
theorem ze52 : zeroA Try.prog 52 = some (.nilf) := by kernel_rfl
theorem in52 : (Try.prog.info? 52).map (fun i => (i.size, i.bytes)) = some (1, 8) := by kernel_rfl
theorem sz53 : sizeA Try.prog 53 = some 1 := by kernel_rfl
theorem ce53 : Try.prog.cellsOf 53 = 1 := by kernel_rfl
theorem ag53 : isAggA Try.prog 53 = some false := by kernel_rfl
theorem ze53 : zeroA Try.prog 53 = some (.nilf) := by kernel_rfl
theorem in53 : (Try.prog.info? 53).map (fun i => (i.size, i.bytes)) = some (1, 8) := by kernel_rfl
theorem sz54 : sizeA Try.prog 54 = some 1 := by kernel_rfl
theorem ce54 : Try.prog.cellsOf 54 = 1 := by kernel_rfl
theorem ag54 : isAggA Try.prog 54 = some false := by kernel_rfl
theorem ze54 : zeroA Try.prog 54 = some (.nilf) := by kernel_rfl
theorem in54 : (Try.prog.info? 54).map (fun i => (i.size, i.bytes)) = some (1, 8) := by kernel_rfl
theorem sz55 : sizeA Try.prog 55 = some 1 := by kernel_rfl
theorem ce55 : Try.prog.cellsOf 55 = 1 := by kernel_rfl
theorem ag55 : isAggA Try.prog 55 = some false := by kernel_rfl
theorem ze55 : zeroA Try.prog 55 = some (.nilf) := by kernel_rfl
theorem in55 : (Try.prog.info? 55).map (fun i => (i.size, i.bytes)) = some (1, 8) := by kernel_rfl
theorem sz56 : sizeA Try.prog 56 = some 1 := by kernel_rfl
theorem ce56 : Try.prog.cellsOf 56 = 1 := by kernel_rfl
theorem ag56 : isAggA Try.prog 56 = some false := by kernel_rfl
theorem ze56 : zeroA Try.prog 56 = some (.nilf) := by kernel_rfl
theorem in56 : (Try.prog.info? 56).map (fun i => (i.size, i.bytes)) = some (1, 8) := by kernel_rfl
theorem sz57 : sizeA Try.prog 57 = some 1 := by kernel_rfl
theorem ce57 : Try.prog.cellsOf 57 = 1 := by kernel_rfl
theorem ag57 : isAggA Try.prog 57 = some false := by kernel_rfl
theorem ze57 : zeroA Try.prog 57 = some (.nilf) := by kernel_rfl
theorem in57 : (Try.prog.info? 57).map (fun i => (i.size, i.bytes)) = some (1, 8) := by kernel_rfl
theorem sz58 : sizeA Try.prog 58 = some 1 := by kernel_rfl
theorem ce58 : Try.prog.cellsOf 58 = 1 := by kernel_rfl
theorem ag58 : isAggA Try.prog 58 = some false := by kernel_rfl
theorem ze58 : zeroA Try.prog 58 = some (.nilf) := by kernel_rfl
theorem in58 : (Try.prog.info? 58).map (fun i => (i.size, i.bytes)) = some (1, 8) := by kernel_rfl
theorem sz59 : sizeA Try.prog 59 = some 1 := by kernel_rfl
theorem ce59 : Try.prog.cellsOf 59 = 1 := by kernel_rfl
theorem ag59 : isAggA Try.prog 59 = some false := by kernel_rfl
theorem ze59 : zeroA Try.prog 59 = some (.nilf) := by kernel_rfl
theorem in59 : (Try.prog.info? 59).map (fun i => (i.size, i.bytes)) = some (1, 8) := by kernel_rfl
theorem sz60 : sizeA Try.prog 60 = some 1 := by kernel_rfl
theorem ce60 : Try.prog.cellsOf 60 = 1 := by kernel_rfl
theorem ag60 : isAggA Try.prog 60 = some false := by kernel_rfl
theorem ze60 : zeroA Try.prog 60 = some (.nilf) := by kernel_rfl
theorem in60 : (Try.prog.info? 60).map (fun i => (i.size, i.bytes)) = some (1, 8) := by kernel_rfl
theorem sz61 : sizeA Try.prog 61 = some 1 := by kernel_rfl
theorem ce61 : Try.prog.cellsOf 61 = 1 := by kernel_rfl
theorem ag61 : isAggA Try.prog 61 = some false := by kernel_rfl
theorem ze61 : zeroA Try.prog 61 = some (.nilf) := by kernel_rfl
theorem in61 : (Try.prog.info? 61).map (fun i => (i.size, i.bytes)) = some (1, 8) := by kernel_rfl
theorem sz62 : sizeA Try.prog 62 = some 1 := by kernel_rfl
theorem ce62 : Try.prog.cellsOf 62 = 1 := by kernel_rfl
theorem ag62 : isAggA Try.prog 62 = some false := by kernel_rfl
theorem ze62 : zeroA Try.prog 62 = some (.nilf) := by kernel_rfl
theorem in62 : (Try.prog.info? 62).map (fun i => (i.size, i.bytes)) = some (1, 8) := by kernel_rfl
theorem sz63 : sizeA Try.prog 63 = some 1 := by kernel_rfl
theorem ce63 : Try.prog.cellsOf 63 = 1 := by kernel_rfl
theorem ag63 : isAggA Try.prog 63 = some false := by kernel_rfl
theorem ze63 : zeroA Try.prog 63 = some (.nilf) := by kernel_rfl
theorem in63 : (Try.prog.info? 63).map (fun i => (i.size, i.bytes)) = some (1, 8) := by kernel_rfl
theorem sz64 : sizeA Try.prog 64 = some 1 := by kernel_rfl
theorem ce64 : Try.prog.cellsOf 64 = 1 := by kernel_rfl
theorem ag64 : isAggA Try.prog 64 = some false := by kernel_rfl
theorem ze64 : zeroA Try.prog 64 = some (.nilf) := by kernel_rfl
theorem in64 : (Try.prog.info? 64).map (fun i => (i.size, i.bytes)) = some (1, 8) := by kernel_rfl
theorem sz65 : sizeA Try.prog 65 = some 1 := by kernel_rfl
theorem ce65 : Try.prog.cellsOf 65 = 1 := by kernel_rfl
theorem ag65 : isAggA Try.prog 65 = some false := by kernel_rfl
theorem ze65 : zeroA Try.prog 65 = some (.nilf) := by kernel_rfl
theorem in65 : (Try.prog.info? 65).map (fun i => (i.size, i.bytes)) = some (1, 8) := by kernel_rfl
theorem sz66 : sizeA Try.prog 66 = some 1 := by kernel_rfl
theorem ce66 : Try.prog.cellsOf 66 = 1 := by kernel_rfl
theorem ag66 : isAggA Try.prog 66 = some false := by kernel_rfl
theorem ze66 : zeroA Try.prog 66 = some (.map none) := by kernel_rfl
theorem in66 : (Try.prog.info? 66).map (fun i => (i.size, i.bytes)) = some (1, 8) := by kernel_rfl
theorem sz67 : sizeA Try.prog 67 = some 1 := by kernel_rfl
theorem ce67 : Try.prog.cellsOf 67 = 1 := by kernel_rfl
theorem ag67 : isAggA Try.prog 67 = some false := by kernel_rfl
theorem ze67 : zeroA Try.prog 67 = some (.nilf) := by kernel_rfl
theorem in67 : (Try.prog.info? 67).map (fun i => (i.size, i.bytes)) = some (1, 8) := by kernel_rfl
theorem sz68 : sizeA Try.prog 68 = some 1 := by kernel_rfl
theorem ce68 : Try.prog.cellsOf 68 = 1 := by kernel_rfl
theorem ag68 : isAggA Try.prog 68 = some false := by kernel_rfl
theorem ze68 : zeroA Try.prog 68 = some (.nilf) := by kernel_rfl
theorem in68 : (Try.prog.info? 68).map (fun i => (i.size, i.bytes)) = some (1, 8) := by kernel_rfl
theorem sz69 : sizeA Try.prog 69 = some 1 := by kernel_rfl
theorem ce69 : Try.prog.cellsOf 69 = 1 := by kernel_rfl
theorem ag69 : isAggA Try.prog 69 = some false := by kernel_rfl
theorem ze69 : zeroA Try.prog 69 = some (.rsl none 0 0 []) := by kernel_rfl
theorem in69 : (Try.prog.info? 69).map (fun i => (i.size, i.bytes)) = some (1, 24) := by kernel_rfl
theorem sz70 : sizeA Try.prog 70 = some 1 := by kernel_rfl
theorem ce70 : Try.prog.cellsOf 70 = 1 := by kernel_rfl
theorem ag70 : isAggA Try.prog 70 = some false := by kernel_rfl
theorem ze70 : zeroA Try.prog 70 = some (.nilf) := by kernel_rfl
theorem in70 : (Try.prog.info? 70).map (fun i => (i.size, i.bytes)) = some (1, 8) := by kernel_rfl
theorem sz71 : sizeA Try.prog 71 = some 1 := by kernel_rfl
theorem ce71 : Try.prog.cellsOf 71 = 1 := by kernel_rfl
theorem ag71 : isAggA Try.prog 71 = some false := by kernel_rfl
theorem ze71 : zeroA Try.prog 71 = some (.nilf) := by kernel_rfl
theorem in71 : (Try.prog.info? 71).map (fun i => (i.size, i.bytes)) = some (1, 8) := by kernel_rfl
theorem sz72 : sizeA Try.prog 72 = some 4 := by kernel_rfl
theorem ce72 : Try.prog.cellsOf 72 = 4 := by kernel_rfl
theorem ag72 : isAggA Try.prog 72 = some true := by kernel_rfl
theorem ze72 : zeroA Try.prog 72 = some (.agg [.nilp, .nilp, .nilp, .str ByteArray.empty]) := by kernel_rfl
theorem in72 : (Try.prog.info? 72).map (fun i => (i.size, i.bytes)) = some (4, 40) := by kernel_rfl
theorem sz73 : sizeA Try.prog 73 = some 4 := by kernel_rfl
theorem ce73 : Try.prog.cellsOf 73 = 4 := by kernel_rfl
theorem ag73 : isAggA Try.prog 73 = some true := by kernel_rfl
theorem ze73 : zeroA Try.prog 73 = some (.agg [.nilp, .nilp, .nilp, .str ByteArray.empty]) := by kernel_rfl
theorem in73 : (Try.prog.info? 73).map (fun i => (i.size, i.bytes)) = some (4, 40) := by kernel_rfl
theorem sz74 : sizeA Try.prog 74 = some 0 := by kernel_rfl
theorem ce74 : Try.prog.cellsOf 74 = 0 := by kernel_rfl
theorem ag74 : isAggA Try.prog 74 = some true := by kernel_rfl
theorem ze74 : zeroA Try.prog 74 = some (.agg []) := by kernel_rfl
theorem in74 : (Try.prog.info? 74).map (fun i => (i.size, i.bytes)) = some (0, 0) := by kernel_rfl
theorem sz75 : sizeA Try.prog 75 = some 0 := by kernel_rfl
theorem ce75 : Try.prog.cellsOf 75 = 0 := by kernel_rfl
theorem ag75 : isAggA Try.prog 75 = some true := by kernel_rfl
theorem ze75 : zeroA Try.prog 75 = some (.agg []) := by kernel_rfl
theorem in75 : (Try.prog.info? 75).map (fun i => (i.size, i.bytes)) = some (0, 0) := by kernel_rfl
theorem sz76 : sizeA Try.prog 76 = some 0 := by kernel_rfl
theorem ce76 : Try.prog.cellsOf 76 = 0 := by kernel_rfl
theorem ag76 : isAggA Try.prog 76 = some true := by kernel_rfl
theorem ze76 : zeroA Try.prog 76 = some (.agg []) := by kernel_rfl
theorem in76 : (Try.prog.info? 76).map (fun i => (i.size, i.bytes)) = some (0, 0) := by kernel_rfl
theorem sz77 : sizeA Try.prog 77 = some 1 := by kernel_rfl
theorem ce77 : Try.prog.cellsOf 77 = 1 := by kernel_rfl
theorem ag77 : isAggA Try.prog 77 = some false := by kernel_rfl
theorem ze77 : zeroA Try.prog 77 = some (.nilf) := by kernel_rfl
theorem in77 : (Try.prog.info? 77).map (fun i => (i.size, i.bytes)) = some (1, 8) := by kernel_rfl
theorem sz78 : sizeA Try.prog 78 = some 1 := by kernel_rfl
theorem ce78 : Try.prog.cellsOf 78 = 1 := by kernel_rfl
theorem ag78 : isAggA Try.prog 78 = some false := by kernel_rfl
theorem ze78 : zeroA Try.prog 78 = some (.int .u32 0) := by kernel_rfl
theorem in78 : (Try.prog.info? 78).map (fun i => (i.size, i.bytes)) = some (1, 4) := by kernel_rfl
theorem sz79 : sizeA Try.prog 79 = some 1 := by kernel_rfl
theorem ce79 : Try.prog.cellsOf 79 = 1 := by kernel_rfl
theorem ag79 : isAggA Try.prog 79 = some false := by kernel_rfl
theorem ze79 : zeroA Try.prog 79 = some (.int .u8 0) := by kernel_rfl
theorem in79 : (Try.prog.info? 79).map (fun i => (i.size, i.bytes)) = some (1, 1) := by kernel_rfl
theorem sz80 : sizeA Try.prog 80 = some 1 := by kernel_rfl
theorem ce80 : Try.prog.cellsOf 80 = 1 := by kernel_rfl
theorem ag80 : isAggA Try.prog 80 = some false := by kernel_rfl
theorem ze80 : zeroA Try.prog 80 = some (.int .u8 0) := by kernel_rfl
theorem in80 : (Try.prog.info? 80).map (fun i => (i.size, i.bytes)) = some (1, 1) := by kernel_rfl
theorem sz81 : sizeA Try.prog 81 = some 1 := by kernel_rfl
theorem ce81 : Try.prog.cellsOf 81 = 1 := by kernel_rfl
theorem ag81 : isAggA Try.prog 81 = some false := by kernel_rfl
theorem ze81 : zeroA Try.prog 81 = some (.nilf) := by kernel_rfl
theorem in81 : (Try.prog.info? 81).map (fun i => (i.size, i.bytes)) = some (1, 8) := by kernel_rfl
theorem sz82 : sizeA Try.prog 82 = some 1 := by kernel_rfl
theorem ce82 : Try.prog.cellsOf 82 = 1 := by kernel_rfl
theorem ag82 : isAggA Try.prog 82 = some false := by kernel_rfl
theorem ze82 : zeroA Try.prog 82 = some (.nilp) := by kernel_rfl
theorem in82 : (Try.prog.info? 82).map (fun i => (i.size, i.bytes)) = some (1, 8) := by kernel_rfl
theorem sz83 : sizeA Try.prog 83 = some 1 := by kernel_rfl
theorem ce83 : Try.prog.cellsOf 83 = 1 := by kernel_rfl
theorem ag83 : isAggA Try.prog 83 = some false := by kernel_rfl
theorem ze83 : zeroA Try.prog 83 = some (.int .i32 0) := by kernel_rfl
theorem in83 : (Try.prog.info? 83).map (fun i => (i.size, i.bytes)) = some (1, 4) := by kernel_rfl
theorem sz84 : sizeA Try.prog 84 = some 1 := by kernel_rfl
theorem ce84 : Try.prog.cellsOf 84 = 1 := by kernel_rfl
theorem ag84 : isAggA Try.prog 84 = some false := by kernel_rfl
theorem ze84 : zeroA Try.prog 84 = some (.int .i32 0) := by kernel_rfl
theorem in84 : (Try.prog.info? 84).map (fun i => (i.size, i.bytes)) = some (1, 4) := by kernel_rfl
theorem sz85 : sizeA Try.prog 85 = some 11 := by kernel_rfl
theorem ce85 : Try.prog.cellsOf 85 = 11 := by kernel_rfl
theorem ag85 : isAggA Try.prog 85 = some true := by kernel_rfl
theorem ze85 : zeroA Try.prog 85 = some (.agg [.int .u64 0, .int .u64 0, .int .u32 0, .int .u8 0, .int .u8 0, .int .u8 0, .int .u8 0, .nilf, .nilp, .int .i32 0, .int .i32 0]) := by kernel_rfl
theorem in85 : (Try.prog.info? 85).map (fun i => (i.size, i.bytes)) = some (11, 48) := by kernel_rfl
theorem sz86 : sizeA Try.prog 86 = some 11 := by kernel_rfl
theorem ce86 : Try.prog.cellsOf 86 = 11 := by kernel_rfl
theorem ag86 : isAggA Try.prog 86 = some true := by kernel_rfl
theorem ze86 : zeroA Try.prog 86 = some (.agg [.int .u64 0, .int .u64 0, .int .u32 0, .int .u8 0, .int .u8 0, .int .u8 0, .int .u8 0, .nilf, .nilp, .int .i32 0, .int .i32 0]) := by kernel_rfl
theorem in86 : (Try.prog.info? 86).map (fun i => (i.size, i.bytes)) = some (11, 48) := by kernel_rfl
theorem sz87 : sizeA Try.prog 87 = some 1 := by kernel_rfl
theorem ce87 : Try.prog.cellsOf 87 = 1 := by kernel_rfl
theorem ag87 : isAggA Try.prog 87 = some false := by kernel_rfl
theorem ze87 : zeroA Try.prog 87 = some (.nilp) := by kernel_rfl
theorem in87 : (Try.prog.info? 87).map (fun i => (i.size, i.bytes)) = some (1, 8) := by kernel_rfl
theorem dr3_7 : drawLen (regAt Try.f3 7) = some 27 := by kernel_rfl
theorem dr5_1 : drawLen (regAt Try.f5 1) = some 12 := by kernel_rfl
theorem dr8_1 : drawLen (regAt Try.f8 1) = some 10 := by kernel_rfl
theorem dr8_5 : drawLen (regAt Try.f8 5) = some 10 := by kernel_rfl
theorem dr9_13 : drawLen (regAt Try.f9 13) = some 17 := by kernel_rfl
theorem dr9_27 : drawLen (regAt Try.f9 27) = some 17 := by kernel_rfl
theorem dr9_28 : drawLen (regAt Try.f9 28) = some 12 := by kernel_rfl
theorem dr12_6 : drawLen (regAt Try.f12 6) = some 13 := by kernel_rfl
theorem dr12_12 : drawLen (regAt Try.f12 12) = some 10 := by kernel_rfl
theorem dr12_17 : drawLen (regAt Try.f12 17) = some 10 := by kernel_rfl
theorem dr12_22 : drawLen (regAt Try.f12 22) = some 10 := by kernel_rfl
theorem dr15_12 : drawLen (regAt Try.f15 12) = some 8 := by kernel_rfl
theorem dr15_20 : drawLen (regAt Try.f15 20) = some 23 := by kernel_rfl
theorem dr15_25 : drawLen (regAt Try.f15 25) = some 8 := by kernel_rfl
theorem dr15_30 : drawLen (regAt Try.f15 30) = some 23 := by kernel_rfl
theorem dr27_1 : drawLen (regAt Try.f27 1) = some 14 := by kernel_rfl
theorem dr28_6 : drawLen (regAt Try.f28 6) = some 8 := by kernel_rfl
theorem dr29_6 : drawLen (regAt Try.f29 6) = some 8 := by kernel_rfl
theorem dr35_1 : drawLen (regAt Try.f35 1) = some 29 := by kernel_rfl
end Go.Proofs.Ytejmfbeiejlgkaa.obj
/-! The functions below the Object laws, 0: the interpreter's runs of the small ones, names. Conditions: in each statement. -/
namespace Go.Proofs.Ytejmfbeiejlgkaa.obj
open Go Go.Ab
set_option maxRecDepth 100000
set_option linter.unusedSimpArgs false
set_option linter.unusedVariables false
/-- which blocks the operations of loud regions change -/
def w12_6 (_ : List AV) (H : Heap) (j : Nat) : List Nat := if j = 12 then [H.next] else []
def slEmpty : AV → Bool
  | .rsl _ _ _ l => l.isEmpty
  | _ => true
def w8_1 (_ : List AV) (_ : Heap) (_ : Nat) : List Nat := []
def w8_5 (_ : List AV) (_ : Heap) (_ : Nat) : List Nat := []
/-- the cell of the variable that slot t points to -/
def cellOf (e : List AV) (H : Heap) (t o : Nat) : AV := match gd e t with
  | .ptr b _ => match H.get b with | some (.cells _ c) => c.getD o undefA | _ => undefA
  | _ => undefA
def w5_1 (e : List AV) (H : Heap) (j : Nat) : List Nat := if j = 5 then [H.next] else if j = 9 then [H.next + (if slEmpty (cellOf e H 1 2) then 1 else 2)] else []
def hints : FuncId → Nat → Option (List AV → Heap → Nat → List Nat)
  | 12, 6 => some w12_6
  | 8, 1 => some w8_1
  | 8, 5 => some w8_5
  | 5, 1 => some w5_1
  | _, _ => none
instance : Env := ⟨fun _ => none, fun _ _ => none, hints⟩
theorem nosumm (f : FuncId) (args : List AV) : Env.summ f args = none := rfl
attribute [local simp] ox ou ko ky kn kd oy_seq oy_ret oy_exit oy_skip oy_cond oy_block oy_region oy_draw dr_eq dre_some stl_some st_nil st_op ot ov os_same sy_nil sy_op nxt_normal nxt_ret nxt_exit blk_exit blk_normal blk_ret reg_some cnd_true cnd_false opr_some grd_true grd_false fin_ret fin_normal finv_some Region.wanted opA callV aop evalL evalO putE binA bi_add bi_sub bi_mul bi_eql bi_neq bi_lss bi_leq bi_gtr bi_geq unA ofVal ofLeaf resultsA tupA AV.rfL AV.rf yielded_yv yv_bool yv_undef yv_none og_n List.replicate Option.bind heapFree onlyReads unch_self
theorem in_run (x a b : Int) (lo : Nat) (H : Heap) : callA Try.prog (om Try.prog) lo 34 [.int .i64 x, .int .i64 a, .int .i64 b] H = some (.bool (decide (a ≤ x) && decide (x ≤ b)), H) := by
  rw [call_eq Try.func34 rfl rfl]
  simp (maxDischargeDepth := 8) -implicitDefEqProofs only [Try.f34]
  by_cases h1 : a ≤ x <;> by_cases h2 : x ≤ b <;> simp -implicitDefEqProofs [h1, h2]
theorem within_run (x a b : Int) (lo : Nat) (H : Heap) : callA Try.prog (om Try.prog) lo 25 [.int .i64 x, .int .i64 a, .int .i64 b] H = some (.bool (decide (a ≤ x) && decide (x ≤ b)), H) := by
  rw [call_eq Try.func25 rfl rfl]
  simp (maxDischargeDepth := 8) -implicitDefEqProofs only [Try.f25]
  by_cases h1 : a ≤ x <;> by_cases h2 : x ≤ b <;> simp -implicitDefEqProofs [h1, h2]
theorem isNaN_run (x : Int) (lo : Nat) (H : Heap) : callA Try.prog (om Try.prog) lo 39 [.int .i64 x] H = some (.bool false, H) := by
  rw [call_eq Try.func39 rfl rfl]
  simp -implicitDefEqProofs [Try.f39]
def cmpI (a b : Int) : Int := if a < b then -1 else if b < a then 1 else 0
theorem compare_run (a b : Int) (lo : Nat) (H : Heap) : callA Try.prog (om Try.prog) lo 38 [.int .i64 a, .int .i64 b] H = some (.int .i64 (cmpI a b), H) := by
  rw [call_eq Try.func38 rfl rfl]
  simp (maxDischargeDepth := 8) -implicitDefEqProofs only [Try.f38]
  by_cases h1 : a < b
  · simp -implicitDefEqProofs [isNaN_run, h1, cmpI]
  · by_cases h2 : b < a <;> simp -implicitDefEqProofs [isNaN_run, h1, h2, cmpI]
/-! ### names -/
def letter (c : Int) : Bool := (decide (97 ≤ c) && decide (c ≤ 122)) || (decide (65 ≤ c) && decide (c ≤ 90))
def other (c : Int) : Bool := (decide (48 ≤ c) && decide (c ≤ 57)) || decide (c = 95)
def chOk (i : Nat) (c : Int) : Bool := letter c || (decide (i ≠ 0) && other c)
def chs (s : ByteArray) (i : Nat) : Int := ((s.data.toList.getD i 0).toNat : Int)
def nameFrom (s : ByteArray) : Nat → Nat → Bool
  | 0, _ => true
  | m + 1, i => chOk i (chs s i) && nameFrom s m (i + 1)
def nameOk (s : ByteArray) : Bool := decide (1 ≤ s.size) && decide (s.size ≤ 24) && nameFrom s s.size 0
theorem chs_at (s : ByteArray) (i : Nat) (h : i < s.size) : indexA Try.prog 9 (.str s) (.int .i64 i) = some (.int .u8 (chs s i)) := by
  have e : i < s.data.toList.length := by simpa using h
  unfold indexA chs
  rw [Try.underlying9]
  simp only [Int.natCast_nonneg, if_true, Int.toNat_natCast, List.getElem?_eq_getElem e, List.getD_eq_getElem?_getD, Option.getD_some]
theorem len9 (H : Heap) (s : ByteArray) : lenTA Try.prog H (some 9) (.str s) = some s.size := by unfold lenTA; rw [Option.bind_some, Try.underlying9]
/-- a run that ends so, false in slot 2 -/
def Ends2 (r : Option (Ex × St)) (x : Ex) (H : Heap) (n : Nat) : Prop := ∃ e, r = some (x, ⟨e, [], H⟩) ∧ e.length = n ∧ e.getD 2 undefA = .bool false
set_option maxHeartbeats 8000000 in
theorem name_loop (cx : Ctx) (lo : Nat) (H : Heap) (s : ByteArray) (hs : s.size ≤ 24) : ∀ (m i : Nat) (x1 x3 x4 x5 x6 x7 x8 x9 x10 x11 x12 x13 x14 x17 x18 x19 x20 x21 x22 x23 x24 x25 x26 x27 x28 x29 x30 x31 x32 x33 x34 x35 x36 x37 x38 x39 x40 x41 x42 x43 x44 x45 x46 x47 x48 x49 x50 x51 x52 x53 x54 : AV), i + m = s.size →
    Ends2 (om Try.prog cx lo (loopAt Try.f20 0) ⟨[.str s, x1, .bool false, x3, x4, x5, x6, x7, x8, x9, x10, x11, x12, x13, x14, .int .i64 s.size, .int .i64 i, x17, x18, x19, x20, x21, x22, x23, x24, x25, x26, x27, x28, x29, x30, x31, x32, x33, x34, x35, x36, x37, x38, x39, x40, x41, x42, x43, x44, x45, x46, x47, x48, x49, x50, x51, x52, x53, x54], [], H⟩) (if nameFrom s m i then .exit 0 else .ret) H 55 := by
  simp (maxDischargeDepth := 8) -implicitDefEqProofs only [loopAt, loopIn, firstC, Try.f20, Option.getD, if_true]
  intro m
  induction m with
  | zero =>
    intro i x1 x3 x4 x5 x6 x7 x8 x9 x10 x11 x12 x13 x14 x17 x18 x19 x20 x21 x22 x23 x24 x25 x26 x27 x28 x29 x30 x31 x32 x33 x34 x35 x36 x37 x38 x39 x40 x41 x42 x43 x44 x45 x46 x47 x48 x49 x50 x51 x52 x53 x54 hi
    obtain rfl : i = s.size := by omega
    rw [oy_loop]
    simp (maxDischargeDepth := 8) -implicitDefEqProofs only [ox, ou, ko, ky, kn, kd, oy_seq, oy_ret, oy_exit, oy_skip, oy_cond, oy_block, oy_region, oy_draw, dr_eq, dre_some, stl_some, st_nil, st_op, ot, ov, os_same, sy_nil, sy_op, nxt_normal, nxt_ret, nxt_exit, blk_exit, blk_normal, blk_ret, reg_some, cnd_true, cnd_false, opr_some, grd_true, grd_false, fin_ret, fin_normal, finv_some, Region.wanted, opA, callV, aop, evalL, evalO, putE, binA, bi_add, bi_sub, bi_mul, bi_eql, bi_neq, bi_lss, bi_leq, bi_gtr, bi_geq, unA, ofVal, ofLeaf, resultsA, tupA, AV.rfL, AV.rf, yielded_yv, yv_bool, yv_undef, yv_none, og_n, List.replicate, Option.bind, heapFree, onlyReads, unch_self, List.set, List.getD, List.getElem?_cons_succ, List.getElem?_cons_zero, Option.getD, Option.map, decide_true, decide_false, if_true, if_false, Bool.false_eq_true, Bool.not_true, Bool.not_false, beq_self_eq_true, Bool.true_and, Bool.and_true, Bool.and_self, Bool.false_and, Bool.and_false, Bool.true_or, Bool.or_true, Bool.false_or, Bool.or_false, Bool.or_self, List.length_cons, List.length_nil, List.cons_append, List.nil_append, ite_self, List.getElem?_toArray, Option.bind_some, Option.bind_none, og_tt, og_ff, og_tf, og_ft, Int.reduceBNe, Int.reduceBEq, Int.reduceLT, Int.reduceLE, nameFrom, Int.lt_irrefl]
    exact ⟨_, rfl, rfl, rfl⟩
  | succ m ih =>
    intro i x1 x3 x4 x5 x6 x7 x8 x9 x10 x11 x12 x13 x14 x17 x18 x19 x20 x21 x22 x23 x24 x25 x26 x27 x28 x29 x30 x31 x32 x33 x34 x35 x36 x37 x38 x39 x40 x41 x42 x43 x44 x45 x46 x47 x48 x49 x50 x51 x52 x53 x54 hi
    have e1 : (i : Int) < s.size := by omega
    have w1 : IntKind.i64.wrap ((i : Int) + 1) = ((i + 1 : Nat) : Int) := by rw [wi64 (by omega) (by omega)]; push_cast; rfl
    have c1 := chs_at s i (by omega)
    rw [oy_loop, nameFrom]
    generalize chs s i = c at c1 ⊢
    have z0 : ((i : Int) == 0) = decide (i = 0) := by by_cases h : i = 0 <;> simp [h]
    have z1 : (c != 95) = !decide (c = 95) := by by_cases h : c = 95 <;> simp [h]
    obtain ⟨v7, d7⟩ : ∃ v, decide (c = 95) = v := ⟨_, rfl⟩
    obtain ⟨v8, d8⟩ : ∃ v, decide (i = 0) = v := ⟨_, rfl⟩
    by_cases a1 : (97 : Int) ≤ c <;> by_cases a2 : c ≤ 122 <;> by_cases a3 : (65 : Int) ≤ c <;> by_cases a4 : c ≤ 90 <;> by_cases a5 : c < 48 <;> by_cases a6 : 57 < c <;>
    first
      | (exfalso; omega)
      | (cases v7 <;> cases v8 <;>
         first
           | (exfalso; simp only [decide_eq_true_eq, decide_eq_false_iff_not] at d7; omega)
           | (have k : chOk i c = true := by simp [chOk, letter, other, a1, a2, a3, a4, d7, d8] <;> omega
              simp (maxDischargeDepth := 8) -implicitDefEqProofs only [ox, ou, ko, ky, kn, kd, oy_seq, oy_ret, oy_exit, oy_skip, oy_cond, oy_block, oy_region, oy_draw, dr_eq, dre_some, stl_some, st_nil, st_op, ot, ov, os_same, sy_nil, sy_op, nxt_normal, nxt_ret, nxt_exit, blk_exit, blk_normal, blk_ret, reg_some, cnd_true, cnd_false, opr_some, grd_true, grd_false, fin_ret, fin_normal, finv_some, Region.wanted, opA, callV, aop, evalL, evalO, putE, binA, bi_add, bi_sub, bi_mul, bi_eql, bi_neq, bi_lss, bi_leq, bi_gtr, bi_geq, unA, ofVal, ofLeaf, resultsA, tupA, AV.rfL, AV.rf, yielded_yv, yv_bool, yv_undef, yv_none, og_n, List.replicate, Option.bind, heapFree, onlyReads, unch_self, List.set, List.getD, List.getElem?_cons_succ, List.getElem?_cons_zero, Option.getD, Option.map, decide_true, decide_false, if_true, if_false, Bool.false_eq_true, Bool.not_true, Bool.not_false, beq_self_eq_true, Bool.true_and, Bool.and_true, Bool.and_self, Bool.false_and, Bool.and_false, Bool.true_or, Bool.or_true, Bool.false_or, Bool.or_false, Bool.or_self, List.length_cons, List.length_nil, List.cons_append, List.nil_append, ite_self, List.getElem?_toArray, Option.bind_some, Option.bind_none, og_tt, og_ff, og_tf, og_ft, Int.reduceBNe, Int.reduceBEq, Int.reduceLT, Int.reduceLE, e1, w1, c1, a1, a2, a3, a4, a5, a6, d7, d8, z0, z1, k]
              exact ih (i + 1) _ _ _ _ _ _ _ _ _ _ _ _ _ _ _ _ _ _ _ _ _ _ _ _ _ _ _ _ _ _ _ _ _ _ _ _ _ _ _ _ _ _ _ _ _ _ _ _ _ _ _ (by omega))
           | (have k : chOk i c = false := by simp [chOk, letter, other, a1, a2, a3, a4, d7, d8] <;> omega
              simp (maxDischargeDepth := 8) -implicitDefEqProofs only [ox, ou, ko, ky, kn, kd, oy_seq, oy_ret, oy_exit, oy_skip, oy_cond, oy_block, oy_region, oy_draw, dr_eq, dre_some, stl_some, st_nil, st_op, ot, ov, os_same, sy_nil, sy_op, nxt_normal, nxt_ret, nxt_exit, blk_exit, blk_normal, blk_ret, reg_some, cnd_true, cnd_false, opr_some, grd_true, grd_false, fin_ret, fin_normal, finv_some, Region.wanted, opA, callV, aop, evalL, evalO, putE, binA, bi_add, bi_sub, bi_mul, bi_eql, bi_neq, bi_lss, bi_leq, bi_gtr, bi_geq, unA, ofVal, ofLeaf, resultsA, tupA, AV.rfL, AV.rf, yielded_yv, yv_bool, yv_undef, yv_none, og_n, List.replicate, Option.bind, heapFree, onlyReads, unch_self, List.set, List.getD, List.getElem?_cons_succ, List.getElem?_cons_zero, Option.getD, Option.map, decide_true, decide_false, if_true, if_false, Bool.false_eq_true, Bool.not_true, Bool.not_false, beq_self_eq_true, Bool.true_and, Bool.and_true, Bool.and_self, Bool.false_and, Bool.and_false, Bool.true_or, Bool.or_true, Bool.false_or, Bool.or_false, Bool.or_self, List.length_cons, List.length_nil, List.cons_append, List.nil_append, ite_self, List.getElem?_toArray, Option.bind_some, Option.bind_none, og_tt, og_ff, og_tf, og_ft, Int.reduceBNe, Int.reduceBEq, Int.reduceLT, Int.reduceLE, e1, w1, c1, a1, a2, a3, a4, a5, a6, d7, d8, z0, z1, k]
              exact ⟨_, rfl, rfl, rfl⟩))
end Go.Proofs.Ytejmfbeiejlgkaa.obj
/-! The functions below the Object laws, 1: names. Conditions: none. -/
namespace Go.Proofs.Ytejmfbeiejlgkaa.obj
open Go Go.Ab
set_option maxRecDepth 100000
set_option linter.unusedSimpArgs false
set_option linter.unusedVariables false
attribute [local simp] ox ou ko ky kn kd oy_seq oy_ret oy_exit oy_skip oy_cond oy_block oy_region oy_draw dr_eq dre_some stl_some st_nil st_op ot ov os_same sy_nil sy_op nxt_normal nxt_ret nxt_exit blk_exit blk_normal blk_ret reg_some cnd_true cnd_false opr_some grd_true grd_false fin_ret fin_normal finv_some Region.wanted opA callV aop evalL evalO putE binA bi_add bi_sub bi_mul bi_eql bi_neq bi_lss bi_leq bi_gtr bi_geq unA ofVal ofLeaf resultsA tupA AV.rfL AV.rf yielded_yv yv_bool yv_undef yv_none og_n List.replicate Option.bind heapFree onlyReads unch_self
theorem name_run (s : ByteArray) (lo : Nat) (H : Heap) : callA Try.prog (om Try.prog) lo 20 [.str s] H = some (.bool (nameOk s), H) := by
  rw [call_eq Try.func20 rfl rfl]
  by_cases h1 : (s.size : Int) < 1
  · have k : nameOk s = false := by unfold nameOk; rw [decide_eq_false (by omega)]; rfl
    simp (maxDischargeDepth := 8) -implicitDefEqProofs only [Try.f20]
    simp (maxDischargeDepth := 8) -implicitDefEqProofs only [ox, ou, ko, ky, kn, kd, oy_seq, oy_ret, oy_exit, oy_skip, oy_cond, oy_block, oy_region, oy_draw, dr_eq, dre_some, stl_some, st_nil, st_op, ot, ov, os_same, sy_nil, sy_op, nxt_normal, nxt_ret, nxt_exit, blk_exit, blk_normal, blk_ret, reg_some, cnd_true, cnd_false, opr_some, grd_true, grd_false, fin_ret, fin_normal, finv_some, Region.wanted, opA, callV, aop, evalL, evalO, putE, binA, bi_add, bi_sub, bi_mul, bi_eql, bi_neq, bi_lss, bi_leq, bi_gtr, bi_geq, unA, ofVal, ofLeaf, resultsA, tupA, AV.rfL, AV.rf, yielded_yv, yv_bool, yv_undef, yv_none, og_n, List.replicate, Option.bind, heapFree, onlyReads, unch_self, List.set, List.getD, List.getElem?_cons_succ, List.getElem?_cons_zero, Option.getD, Option.map, decide_true, decide_false, if_true, if_false, Bool.false_eq_true, Bool.not_true, Bool.not_false, beq_self_eq_true, Bool.true_and, Bool.and_true, Bool.and_self, Bool.false_and, Bool.and_false, Bool.true_or, Bool.or_true, Bool.false_or, Bool.or_false, Bool.or_self, List.length_cons, List.length_nil, List.cons_append, List.nil_append, ite_self, List.getElem?_toArray, Option.bind_some, Option.bind_none, og_tt, og_ff, og_tf, og_ft, Int.reduceBNe, Int.reduceBEq, Int.reduceLT, Int.reduceLE, len9, Option.map, h1, k]
  · by_cases h2 : (24 : Int) < s.size
    · have k : nameOk s = false := by unfold nameOk; rw [decide_eq_false (show ¬ s.size ≤ 24 by omega)]; simp
      simp (maxDischargeDepth := 8) -implicitDefEqProofs only [Try.f20]
      simp (maxDischargeDepth := 8) -implicitDefEqProofs only [ox, ou, ko, ky, kn, kd, oy_seq, oy_ret, oy_exit, oy_skip, oy_cond, oy_block, oy_region, oy_draw, dr_eq, dre_some, stl_some, st_nil, st_op, ot, ov, os_same, sy_nil, sy_op, nxt_normal, nxt_ret, nxt_exit, blk_exit, blk_normal, blk_ret, reg_some, cnd_true, cnd_false, opr_some, grd_true, grd_false, fin_ret, fin_normal, finv_some, Region.wanted, opA, callV, aop, evalL, evalO, putE, binA, bi_add, bi_sub, bi_mul, bi_eql, bi_neq, bi_lss, bi_leq, bi_gtr, bi_geq, unA, ofVal, ofLeaf, resultsA, tupA, AV.rfL, AV.rf, yielded_yv, yv_bool, yv_undef, yv_none, og_n, List.replicate, Option.bind, heapFree, onlyReads, unch_self, List.set, List.getD, List.getElem?_cons_succ, List.getElem?_cons_zero, Option.getD, Option.map, decide_true, decide_false, if_true, if_false, Bool.false_eq_true, Bool.not_true, Bool.not_false, beq_self_eq_true, Bool.true_and, Bool.and_true, Bool.and_self, Bool.false_and, Bool.and_false, Bool.true_or, Bool.or_true, Bool.false_or, Bool.or_false, Bool.or_self, List.length_cons, List.length_nil, List.cons_append, List.nil_append, ite_self, List.getElem?_toArray, Option.bind_some, Option.bind_none, og_tt, og_ff, og_tf, og_ft, Int.reduceBNe, Int.reduceBEq, Int.reduceLT, Int.reduceLE, len9, Option.map, h1, h2, k]
    · have k : nameOk s = nameFrom s s.size 0 := by unfold nameOk; rw [decide_eq_true (show 1 ≤ s.size by omega), decide_eq_true (show s.size ≤ 24 by omega)]; simp
      simp (maxDischargeDepth := 8) -implicitDefEqProofs only [Try.f20]
      simp (maxDischargeDepth := 8) -implicitDefEqProofs only [ox, ou, ko, ky, kn, kd, oy_seq, oy_ret, oy_exit, oy_skip, oy_cond, oy_block, oy_region, oy_draw, dr_eq, dre_some, stl_some, st_nil, st_op, ot, ov, os_same, sy_nil, sy_op, nxt_normal, nxt_ret, nxt_exit, blk_exit, blk_normal, blk_ret, reg_some, cnd_true, cnd_false, opr_some, grd_true, grd_false, fin_ret, fin_normal, finv_some, Region.wanted, opA, callV, aop, evalL, evalO, putE, binA, bi_add, bi_sub, bi_mul, bi_eql, bi_neq, bi_lss, bi_leq, bi_gtr, bi_geq, unA, ofVal, ofLeaf, resultsA, tupA, AV.rfL, AV.rf, yielded_yv, yv_bool, yv_undef, yv_none, og_n, List.replicate, Option.bind, heapFree, onlyReads, unch_self, List.set, List.getD, List.getElem?_cons_succ, List.getElem?_cons_zero, Option.getD, Option.map, decide_true, decide_false, if_true, if_false, Bool.false_eq_true, Bool.not_true, Bool.not_false, beq_self_eq_true, Bool.true_and, Bool.and_true, Bool.and_self, Bool.false_and, Bool.and_false, Bool.true_or, Bool.or_true, Bool.false_or, Bool.or_false, Bool.or_self, List.length_cons, List.length_nil, List.cons_append, List.nil_append, ite_self, List.getElem?_toArray, Option.bind_some, Option.bind_none, og_tt, og_ff, og_tf, og_ft, Int.reduceBNe, Int.reduceBEq, Int.reduceLT, Int.reduceLE, len9, Option.map, h1, h2, k]
      generalize hr : om Try.prog _ _ (Code.loop _) _ = r
      have P : Ends2 r (if nameFrom s s.size 0 then .exit 0 else .ret) H 55 := by rw [← hr]; exact name_loop _ _ H s (by omega) s.size 0 _ _ _ _ _ _ _ _ _ _ _ _ _ _ _ _ _ _ _ _ _ _ _ _ _ _ _ _ _ _ _ _ _ _ _ _ _ _ _ _ _ _ _ _ _ _ _ _ _ _ _ (by omega)
      obtain ⟨e, rfl, hl, h2⟩ := P
      rw [List.getD_eq_getElem?_getD] at h2
      cases nameFrom s s.size 0 with
      | true => simp -implicitDefEqProofs [hl]
      | false => simp -implicitDefEqProofs [h2]
end Go.Proofs.Ytejmfbeiejlgkaa.obj
/-! The functions below the Object laws, 2: names, the reference's. Conditions: none. -/
namespace Go.Proofs.Ytejmfbeiejlgkaa.obj
open Go Go.Ab
set_option maxRecDepth 100000
set_option linter.unusedSimpArgs false
set_option linter.unusedVariables false
attribute [local simp] ox ou ko ky kn kd oy_seq oy_ret oy_exit oy_skip oy_cond oy_block oy_region oy_draw dr_eq dre_some stl_some st_nil st_op ot ov os_same sy_nil sy_op nxt_normal nxt_ret nxt_exit blk_exit blk_normal blk_ret reg_some cnd_true cnd_false opr_some grd_true grd_false fin_ret fin_normal finv_some Region.wanted opA callV aop evalL evalO putE binA bi_add bi_sub bi_mul bi_eql bi_neq bi_lss bi_leq bi_gtr bi_geq unA ofVal ofLeaf resultsA tupA AV.rfL AV.rf yielded_yv yv_bool yv_undef yv_none og_n List.replicate Option.bind heapFree onlyReads unch_self
set_option maxHeartbeats 8000000 in
theorem name2_loop (cx : Ctx) (lo : Nat) (H : Heap) (s : ByteArray) (hs : s.size ≤ 24) : ∀ (m i : Nat) (x1 x4 x5 x6 x7 x8 x9 x10 x11 x12 x13 x14 x15 x16 x17 x18 x19 x20 x21 x22 x23 x24 x25 x26 x27 x28 x29 x30 x31 x32 x33 x34 x35 x36 x37 x38 x39 x40 x41 x42 x43 x44 x45 x46 x47 x48 x49 x50 x51 x52 x53 x54 x55 x56 x57 : AV), i + m = s.size →
    Ends2 (om Try.prog cx lo (loopAt Try.f33 0) ⟨[.str s, x1, .bool false, .int .i64 i, x4, x5, x6, x7, x8, x9, x10, x11, x12, x13, x14, x15, x16, x17, x18, x19, x20, x21, x22, x23, x24, x25, x26, x27, x28, x29, x30, x31, x32, x33, x34, x35, x36, x37, x38, x39, x40, x41, x42, x43, x44, x45, x46, x47, x48, x49, x50, x51, x52, x53, x54, x55, x56, x57], [], H⟩) (if nameFrom s m i then .exit 0 else .ret) H 58 := by
  simp (maxDischargeDepth := 8) -implicitDefEqProofs only [loopAt, loopIn, firstC, Try.f33, Option.getD, if_true]
  intro m
  induction m with
  | zero =>
    intro i x1 x4 x5 x6 x7 x8 x9 x10 x11 x12 x13 x14 x15 x16 x17 x18 x19 x20 x21 x22 x23 x24 x25 x26 x27 x28 x29 x30 x31 x32 x33 x34 x35 x36 x37 x38 x39 x40 x41 x42 x43 x44 x45 x46 x47 x48 x49 x50 x51 x52 x53 x54 x55 x56 x57 hi
    obtain rfl : i = s.size := by omega
    rw [oy_loop]
    simp (maxDischargeDepth := 8) -implicitDefEqProofs only [ox, ou, ko, ky, kn, kd, oy_seq, oy_ret, oy_exit, oy_skip, oy_cond, oy_block, oy_region, oy_draw, dr_eq, dre_some, stl_some, st_nil, st_op, ot, ov, os_same, sy_nil, sy_op, nxt_normal, nxt_ret, nxt_exit, blk_exit, blk_normal, blk_ret, reg_some, cnd_true, cnd_false, opr_some, grd_true, grd_false, fin_ret, fin_normal, finv_some, Region.wanted, opA, callV, aop, evalL, evalO, putE, binA, bi_add, bi_sub, bi_mul, bi_eql, bi_neq, bi_lss, bi_leq, bi_gtr, bi_geq, unA, ofVal, ofLeaf, resultsA, tupA, AV.rfL, AV.rf, yielded_yv, yv_bool, yv_undef, yv_none, og_n, List.replicate, Option.bind, heapFree, onlyReads, unch_self, List.set, List.getD, List.getElem?_cons_succ, List.getElem?_cons_zero, Option.getD, Option.map, decide_true, decide_false, if_true, if_false, Bool.false_eq_true, Bool.not_true, Bool.not_false, beq_self_eq_true, Bool.true_and, Bool.and_true, Bool.and_self, Bool.false_and, Bool.and_false, Bool.true_or, Bool.or_true, Bool.false_or, Bool.or_false, Bool.or_self, List.length_cons, List.length_nil, List.cons_append, List.nil_append, ite_self, List.getElem?_toArray, Option.bind_some, Option.bind_none, og_tt, og_ff, og_tf, og_ft, Int.reduceBNe, Int.reduceBEq, Int.reduceLT, Int.reduceLE, nameFrom, Int.lt_irrefl, len9, Option.map]
    exact ⟨_, rfl, rfl, rfl⟩
  | succ m ih =>
    intro i x1 x4 x5 x6 x7 x8 x9 x10 x11 x12 x13 x14 x15 x16 x17 x18 x19 x20 x21 x22 x23 x24 x25 x26 x27 x28 x29 x30 x31 x32 x33 x34 x35 x36 x37 x38 x39 x40 x41 x42 x43 x44 x45 x46 x47 x48 x49 x50 x51 x52 x53 x54 x55 x56 x57 hi
    have e1 : (i : Int) < s.size := by omega
    have w1 : IntKind.i64.wrap ((i : Int) + 1) = ((i + 1 : Nat) : Int) := by rw [wi64 (by omega) (by omega)]; push_cast; rfl
    have c1 := chs_at s i (by omega)
    rw [oy_loop, nameFrom]
    generalize chs s i = c at c1 ⊢
    have z0 : ((i : Int) == 0) = decide (i = 0) := by by_cases h : i = 0 <;> simp [h]
    have z1 : (c == 95) = decide (c = 95) := by by_cases h : c = 95 <;> simp [h]
    obtain ⟨v7, d7⟩ : ∃ v, decide (c = 95) = v := ⟨_, rfl⟩
    obtain ⟨v8, d8⟩ : ∃ v, decide (i = 0) = v := ⟨_, rfl⟩
    by_cases a1 : (97 : Int) ≤ c <;> by_cases a2 : c ≤ 122 <;> by_cases a3 : (65 : Int) ≤ c <;> by_cases a4 : c ≤ 90 <;> by_cases a5 : 48 ≤ c <;> by_cases a6 : c ≤ 57 <;>
    first
      | (exfalso; omega)
      | (cases v7 <;> cases v8 <;>
         first
           | (exfalso; simp only [decide_eq_true_eq, decide_eq_false_iff_not] at d7; omega)
           | (have k : chOk i c = true := by simp [chOk, letter, other, a1, a2, a3, a4, a5, a6, d7, d8]
              simp (maxDischargeDepth := 8) -implicitDefEqProofs only [ox, ou, ko, ky, kn, kd, oy_seq, oy_ret, oy_exit, oy_skip, oy_cond, oy_block, oy_region, oy_draw, dr_eq, dre_some, stl_some, st_nil, st_op, ot, ov, os_same, sy_nil, sy_op, nxt_normal, nxt_ret, nxt_exit, blk_exit, blk_normal, blk_ret, reg_some, cnd_true, cnd_false, opr_some, grd_true, grd_false, fin_ret, fin_normal, finv_some, Region.wanted, opA, callV, aop, evalL, evalO, putE, binA, bi_add, bi_sub, bi_mul, bi_eql, bi_neq, bi_lss, bi_leq, bi_gtr, bi_geq, unA, ofVal, ofLeaf, resultsA, tupA, AV.rfL, AV.rf, yielded_yv, yv_bool, yv_undef, yv_none, og_n, List.replicate, Option.bind, heapFree, onlyReads, unch_self, List.set, List.getD, List.getElem?_cons_succ, List.getElem?_cons_zero, Option.getD, Option.map, decide_true, decide_false, if_true, if_false, Bool.false_eq_true, Bool.not_true, Bool.not_false, beq_self_eq_true, Bool.true_and, Bool.and_true, Bool.and_self, Bool.false_and, Bool.and_false, Bool.true_or, Bool.or_true, Bool.false_or, Bool.or_false, Bool.or_self, List.length_cons, List.length_nil, List.cons_append, List.nil_append, ite_self, List.getElem?_toArray, Option.bind_some, Option.bind_none, og_tt, og_ff, og_tf, og_ft, Int.reduceBNe, Int.reduceBEq, Int.reduceLT, Int.reduceLE, len9, Option.map, e1, w1, c1, a1, a2, a3, a4, a5, a6, d7, d8, z0, z1, k]
              exact ih (i + 1) _ _ _ _ _ _ _ _ _ _ _ _ _ _ _ _ _ _ _ _ _ _ _ _ _ _ _ _ _ _ _ _ _ _ _ _ _ _ _ _ _ _ _ _ _ _ _ _ _ _ _ _ _ _ _ (by omega))
           | (have k : chOk i c = false := by simp [chOk, letter, other, a1, a2, a3, a4, a5, a6, d7, d8]
              simp (maxDischargeDepth := 8) -implicitDefEqProofs only [ox, ou, ko, ky, kn, kd, oy_seq, oy_ret, oy_exit, oy_skip, oy_cond, oy_block, oy_region, oy_draw, dr_eq, dre_some, stl_some, st_nil, st_op, ot, ov, os_same, sy_nil, sy_op, nxt_normal, nxt_ret, nxt_exit, blk_exit, blk_normal, blk_ret, reg_some, cnd_true, cnd_false, opr_some, grd_true, grd_false, fin_ret, fin_normal, finv_some, Region.wanted, opA, callV, aop, evalL, evalO, putE, binA, bi_add, bi_sub, bi_mul, bi_eql, bi_neq, bi_lss, bi_leq, bi_gtr, bi_geq, unA, ofVal, ofLeaf, resultsA, tupA, AV.rfL, AV.rf, yielded_yv, yv_bool, yv_undef, yv_none, og_n, List.replicate, Option.bind, heapFree, onlyReads, unch_self, List.set, List.getD, List.getElem?_cons_succ, List.getElem?_cons_zero, Option.getD, Option.map, decide_true, decide_false, if_true, if_false, Bool.false_eq_true, Bool.not_true, Bool.not_false, beq_self_eq_true, Bool.true_and, Bool.and_true, Bool.and_self, Bool.false_and, Bool.and_false, Bool.true_or, Bool.or_true, Bool.false_or, Bool.or_false, Bool.or_self, List.length_cons, List.length_nil, List.cons_append, List.nil_append, ite_self, List.getElem?_toArray, Option.bind_some, Option.bind_none, og_tt, og_ff, og_tf, og_ft, Int.reduceBNe, Int.reduceBEq, Int.reduceLT, Int.reduceLE, len9, Option.map, e1, w1, c1, a1, a2, a3, a4, a5, a6, d7, d8, z0, z1, k]
              exact ⟨_, rfl, rfl, rfl⟩))
theorem name2_run (s : ByteArray) (lo : Nat) (H : Heap) : callA Try.prog (om Try.prog) lo 33 [.str s] H = some (.bool (nameOk s), H) := by
  rw [call_eq Try.func33 rfl rfl]
  by_cases h1 : s.size = 0
  · have k : nameOk s = false := by unfold nameOk; rw [decide_eq_false (by omega)]; rfl
    have z : ((s.size : Int) == 0) = true := by simp [h1]
    simp (maxDischargeDepth := 8) -implicitDefEqProofs only [Try.f33]
    simp (maxDischargeDepth := 8) -implicitDefEqProofs only [ox, ou, ko, ky, kn, kd, oy_seq, oy_ret, oy_exit, oy_skip, oy_cond, oy_block, oy_region, oy_draw, dr_eq, dre_some, stl_some, st_nil, st_op, ot, ov, os_same, sy_nil, sy_op, nxt_normal, nxt_ret, nxt_exit, blk_exit, blk_normal, blk_ret, reg_some, cnd_true, cnd_false, opr_some, grd_true, grd_false, fin_ret, fin_normal, finv_some, Region.wanted, opA, callV, aop, evalL, evalO, putE, binA, bi_add, bi_sub, bi_mul, bi_eql, bi_neq, bi_lss, bi_leq, bi_gtr, bi_geq, unA, ofVal, ofLeaf, resultsA, tupA, AV.rfL, AV.rf, yielded_yv, yv_bool, yv_undef, yv_none, og_n, List.replicate, Option.bind, heapFree, onlyReads, unch_self, List.set, List.getD, List.getElem?_cons_succ, List.getElem?_cons_zero, Option.getD, Option.map, decide_true, decide_false, if_true, if_false, Bool.false_eq_true, Bool.not_true, Bool.not_false, beq_self_eq_true, Bool.true_and, Bool.and_true, Bool.and_self, Bool.false_and, Bool.and_false, Bool.true_or, Bool.or_true, Bool.false_or, Bool.or_false, Bool.or_self, List.length_cons, List.length_nil, List.cons_append, List.nil_append, ite_self, List.getElem?_toArray, Option.bind_some, Option.bind_none, og_tt, og_ff, og_tf, og_ft, Int.reduceBNe, Int.reduceBEq, Int.reduceLT, Int.reduceLE, len9, Option.map, z, k]
  · have z : ((s.size : Int) == 0) = false := beq_eq_false_iff_ne.2 (by omega)
    by_cases h2 : (24 : Int) < s.size
    · have k : nameOk s = false := by unfold nameOk; rw [decide_eq_false (show ¬ s.size ≤ 24 by omega)]; simp
      simp (maxDischargeDepth := 8) -implicitDefEqProofs only [Try.f33]
      simp (maxDischargeDepth := 8) -implicitDefEqProofs only [ox, ou, ko, ky, kn, kd, oy_seq, oy_ret, oy_exit, oy_skip, oy_cond, oy_block, oy_region, oy_draw, dr_eq, dre_some, stl_some, st_nil, st_op, ot, ov, os_same, sy_nil, sy_op, nxt_normal, nxt_ret, nxt_exit, blk_exit, blk_normal, blk_ret, reg_some, cnd_true, cnd_false, opr_some, grd_true, grd_false, fin_ret, fin_normal, finv_some, Region.wanted, opA, callV, aop, evalL, evalO, putE, binA, bi_add, bi_sub, bi_mul, bi_eql, bi_neq, bi_lss, bi_leq, bi_gtr, bi_geq, unA, ofVal, ofLeaf, resultsA, tupA, AV.rfL, AV.rf, yielded_yv, yv_bool, yv_undef, yv_none, og_n, List.replicate, Option.bind, heapFree, onlyReads, unch_self, List.set, List.getD, List.getElem?_cons_succ, List.getElem?_cons_zero, Option.getD, Option.map, decide_true, decide_false, if_true, if_false, Bool.false_eq_true, Bool.not_true, Bool.not_false, beq_self_eq_true, Bool.true_and, Bool.and_true, Bool.and_self, Bool.false_and, Bool.and_false, Bool.true_or, Bool.or_true, Bool.false_or, Bool.or_false, Bool.or_self, List.length_cons, List.length_nil, List.cons_append, List.nil_append, ite_self, List.getElem?_toArray, Option.bind_some, Option.bind_none, og_tt, og_ff, og_tf, og_ft, Int.reduceBNe, Int.reduceBEq, Int.reduceLT, Int.reduceLE, len9, Option.map, z, h2, k]
    · have k : nameOk s = nameFrom s s.size 0 := by unfold nameOk; rw [decide_eq_true (show 1 ≤ s.size by omega), decide_eq_true (show s.size ≤ 24 by omega)]; simp
      simp (maxDischargeDepth := 8) -implicitDefEqProofs only [Try.f33]
      simp (maxDischargeDepth := 8) -implicitDefEqProofs only [ox, ou, ko, ky, kn, kd, oy_seq, oy_ret, oy_exit, oy_skip, oy_cond, oy_block, oy_region, oy_draw, dr_eq, dre_some, stl_some, st_nil, st_op, ot, ov, os_same, sy_nil, sy_op, nxt_normal, nxt_ret, nxt_exit, blk_exit, blk_normal, blk_ret, reg_some, cnd_true, cnd_false, opr_some, grd_true, grd_false, fin_ret, fin_normal, finv_some, Region.wanted, opA, callV, aop, evalL, evalO, putE, binA, bi_add, bi_sub, bi_mul, bi_eql, bi_neq, bi_lss, bi_leq, bi_gtr, bi_geq, unA, ofVal, ofLeaf, resultsA, tupA, AV.rfL, AV.rf, yielded_yv, yv_bool, yv_undef, yv_none, og_n, List.replicate, Option.bind, heapFree, onlyReads, unch_self, List.set, List.getD, List.getElem?_cons_succ, List.getElem?_cons_zero, Option.getD, Option.map, decide_true, decide_false, if_true, if_false, Bool.false_eq_true, Bool.not_true, Bool.not_false, beq_self_eq_true, Bool.true_and, Bool.and_true, Bool.and_self, Bool.false_and, Bool.and_false, Bool.true_or, Bool.or_true, Bool.false_or, Bool.or_false, Bool.or_self, List.length_cons, List.length_nil, List.cons_append, List.nil_append, ite_self, List.getElem?_toArray, Option.bind_some, Option.bind_none, og_tt, og_ff, og_tf, og_ft, Int.reduceBNe, Int.reduceBEq, Int.reduceLT, Int.reduceLE, len9, Option.map, z, h2, k]
      generalize hr : om Try.prog _ _ (Code.loop _) _ = r
      have P : Ends2 r (if nameFrom s s.size 0 then .exit 0 else .ret) H 58 := by rw [← hr]; exact name2_loop _ _ H s (by omega) s.size 0 _ _ _ _ _ _ _ _ _ _ _ _ _ _ _ _ _ _ _ _ _ _ _ _ _ _ _ _ _ _ _ _ _ _ _ _ _ _ _ _ _ _ _ _ _ _ _ _ _ _ _ _ _ _ _ (by omega)
      obtain ⟨e, rfl, hl, h2⟩ := P
      rw [List.getD_eq_getElem?_getD] at h2
      cases nameFrom s s.size 0 with
      | true => simp -implicitDefEqProofs [hl]
      | false => simp -implicitDefEqProofs [h2]
end Go.Proofs.Ytejmfbeiejlgkaa.obj
/-! The functions below the Object laws, 3: objects as lists; how they lie in memory; the small functions over them. Conditions: in each statement. -/
namespace Go.Proofs.Ytejmfbeiejlgkaa.obj
open Go Go.Ab
set_option maxRecDepth 100000
set_option linter.unusedSimpArgs false
set_option linter.unusedVariables false
attribute [local simp] ox ou ko ky kn kd oy_seq oy_ret oy_exit oy_skip oy_cond oy_block oy_region oy_draw dr_eq dre_some stl_some st_nil st_op ot ov os_same sy_nil sy_op nxt_normal nxt_ret nxt_exit blk_exit blk_normal blk_ret reg_some cnd_true cnd_false opr_some grd_true grd_false fin_ret fin_normal finv_some Region.wanted opA callV aop evalL evalO putE binA bi_add bi_sub bi_mul bi_eql bi_neq bi_lss bi_leq bi_gtr bi_geq unA ofVal ofLeaf resultsA tupA AV.rfL AV.rf yielded_yv yv_bool yv_undef yv_none og_n List.replicate Option.bind heapFree onlyReads unch_self
structure Sec where
  name : ByteArray
  align : Int
  bytes : List UInt8
  deriving DecidableEq
structure Sym where
  name : ByteArray
  sect : Int
  at_ : Int
  deriving DecidableEq
structure Rel where
  sect : Int
  at_ : Int
  kind : Int
  sym : Int
  addend : Int
  instr : Int
  operand : Int
  shift : Int
  deriving DecidableEq
structure Obj where
  machine : ByteArray
  secs : List Sec
  syms : List Sym
  rels : List Rel
  deriving DecidableEq
def symV (s : Sym) : AV := .agg [.str s.name, .int .i64 s.sect, .int .i64 s.at_]
def relV (r : Rel) : AV := .agg [.int .i64 r.sect, .int .i64 r.at_, .int .u8 r.kind, .int .i64 r.sym, .int .i64 r.addend, .int .i64 r.instr, .int .i64 r.operand, .int .i64 r.shift]
def secV (s : Sec) (b : AV) : AV := .agg [.str s.name, .int .i64 s.align, b]
/-- bytes that a slice holds -/
def SvB (H : Heap) (v : AV) (l : List UInt8) : Prop := Sv H 1 v (l.map fun n => .int .u8 (n.toNat : Int))
/-- sections that a slice holds: their bytes lie in slices -/
def SvS (H : Heap) (v : AV) (l : List Sec) : Prop := ∃ bs : List AV, bs.length = l.length ∧ Sv H 3 v ((l.zip bs).map fun p => secV p.1 p.2) ∧ ∀ (i : Nat) (s : Sec) (b : AV), l[i]? = some s → bs[i]? = some b → SvB H b s.bytes
def SvY (H : Heap) (v : AV) (l : List Sym) : Prop := Sv H 3 v (l.map symV)
def SvR (H : Heap) (v : AV) (l : List Rel) : Prop := Sv H 8 v (l.map relV)
/-- an object that reads so -/
def RdO (H : Heap) (v : AV) (o : Obj) : Prop := ∃ vs vy vr, v = .agg [.str o.machine, vs, vy, vr] ∧ SvS H vs o.secs ∧ SvY H vy o.syms ∧ SvR H vr o.rels
theorem SvS.ext {H H' : Heap} {v : AV} {l : List Sec} (h : SvS H v l) (e : Ext H H') : SvS H' v l := by
  obtain ⟨bs, h1, h2, h3⟩ := h
  exact ⟨bs, h1, h2.ext e, fun i s b hs hb => Sv.ext (h3 i s b hs hb) e⟩
theorem RdO.ext {H H' : Heap} {v : AV} {o : Obj} (h : RdO H v o) (e : Ext H H') : RdO H' v o := by
  obtain ⟨vs, vy, vr, h1, h2, h3, h4⟩ := h
  exact ⟨vs, vy, vr, h1, h2.ext e, Sv.ext h3 e, Sv.ext h4 e⟩
theorem SvS.len {H : Heap} {v : AV} {l : List Sec} (h : SvS H v l) : lenTA Try.prog H (some 22) v = some l.length := by
  obtain ⟨bs, h1, h2, h3⟩ := h
  rw [h2.len Try.underlying22]
  simp [h1]
theorem SvY.len {H : Heap} {v : AV} {l : List Sym} (h : SvY H v l) : lenTA Try.prog H (some 23) v = some l.length := by
  rw [Sv.len h Try.underlying23]; simp
theorem SvR.len {H : Heap} {v : AV} {l : List Rel} (h : SvR H v l) : lenTA Try.prog H (some 24) v = some l.length := by
  rw [Sv.len h Try.underlying24]; simp
theorem SvB.len {H : Heap} {v : AV} {l : List UInt8} (h : SvB H v l) : lenTA Try.prog H (some 37) v = some l.length := by
  rw [Sv.len h Try.underlying37]; simp
/-- an element of each -/
theorem SvY.at {H : Heap} {v : AV} {l : List Sym} (h : SvY H v l) {i : Nat} {s : Sym} (hi : l[i]? = some s) : ∃ q, indexAddrA Try.prog 23 v (.int .i64 i) = some q ∧ Pt H q (symV s).cells ∧ loadA Try.prog H 41 q = some (symV s) := by
  obtain ⟨q, h1, h2⟩ := Sv.at (k := .i64) h Try.underlying23 sz41 (x := symV s) (i := i) (by rw [List.getElem?_map, hi]; rfl)
  exact ⟨q, h1, h2, h2.agg ag41 sz41⟩
theorem SvR.at {H : Heap} {v : AV} {l : List Rel} (h : SvR H v l) {i : Nat} {s : Rel} (hi : l[i]? = some s) : ∃ q, indexAddrA Try.prog 24 v (.int .i64 i) = some q ∧ Pt H q (relV s).cells ∧ loadA Try.prog H 43 q = some (relV s) := by
  obtain ⟨q, h1, h2⟩ := Sv.at (k := .i64) h Try.underlying24 sz43 (x := relV s) (i := i) (by rw [List.getElem?_map, hi]; rfl)
  exact ⟨q, h1, h2, h2.agg ag43 sz43⟩
theorem SvS.at {H : Heap} {v : AV} {l : List Sec} (h : SvS H v l) {i : Nat} {s : Sec} (hi : l[i]? = some s) : ∃ q b, indexAddrA Try.prog 22 v (.int .i64 i) = some q ∧ Pt H q (secV s b).cells ∧ loadA Try.prog H 39 q = some (secV s b) ∧ SvB H b s.bytes := by
  obtain ⟨bs, h1, h2, h3⟩ := h
  have hlt : i < l.length := (List.getElem?_eq_some_iff.1 hi).1
  have hb : bs[i]? = some (bs[i]'(by omega)) := List.getElem?_eq_getElem (by omega)
  obtain ⟨q, g1, g2⟩ := Sv.at (k := .i64) h2 Try.underlying22 sz39 (x := secV s (bs[i]'(by omega))) (i := i) (by rw [List.getElem?_map, (List.getElem?_zip_eq_some (z := (s, bs[i]'(by omega)))).2 ⟨hi, hb⟩]; rfl)
  exact ⟨q, _, g1, g2, g2.agg ag39 sz39, h3 i s _ hi hb⟩
end Go.Proofs.Ytejmfbeiejlgkaa.obj
