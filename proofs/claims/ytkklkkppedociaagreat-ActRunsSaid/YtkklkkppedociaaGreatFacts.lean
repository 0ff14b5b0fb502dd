/- Sizes and zero values of the program's types. -/
import Derived.Test.YtkklkkppedociaaGreatEvM
import Derived.Test.YtkklkkppedociaaGreatProg
import Derived.KernelRfl
namespace Go.Proofs.YtkklkkppedociaaGreat.Ev
open Go
theorem sz2 : szOf Tryz.prog 2 = some 1 := by kernel_rfl
theorem by2 : byOf Tryz.prog 2 = some 8 := by kernel_rfl
theorem ag2 : isAggT Tryz.prog 2 = some false := by kernel_rfl
theorem zr2 : zeroC Tryz.prog 2 = some (.w (.d (.int .i64 0))) := by kernel_rfl
theorem sz3 : szOf Tryz.prog 3 = some 1 := by kernel_rfl
theorem by3 : byOf Tryz.prog 3 = some 8 := by kernel_rfl
theorem ag3 : isAggT Tryz.prog 3 = some false := by kernel_rfl
theorem zr3 : zeroC Tryz.prog 3 = some (.w (.d (.int .i64 0))) := by kernel_rfl
theorem sz4 : szOf Tryz.prog 4 = some 1 := by kernel_rfl
theorem by4 : byOf Tryz.prog 4 = some 1 := by kernel_rfl
theorem ag4 : isAggT Tryz.prog 4 = some false := by kernel_rfl
theorem zr4 : zeroC Tryz.prog 4 = some (.w (.d (.bool false))) := by kernel_rfl
theorem sz5 : szOf Tryz.prog 5 = some 1 := by kernel_rfl
theorem by5 : byOf Tryz.prog 5 = some 1 := by kernel_rfl
theorem ag5 : isAggT Tryz.prog 5 = some false := by kernel_rfl
theorem zr5 : zeroC Tryz.prog 5 = some (.w (.d (.int .u8 0))) := by kernel_rfl
theorem sz6 : szOf Tryz.prog 6 = some 1 := by kernel_rfl
theorem by6 : byOf Tryz.prog 6 = some 1 := by kernel_rfl
theorem ag6 : isAggT Tryz.prog 6 = some false := by kernel_rfl
theorem zr6 : zeroC Tryz.prog 6 = some (.w (.d (.int .u8 0))) := by kernel_rfl
theorem sz7 : szOf Tryz.prog 7 = some 4 := by kernel_rfl
theorem by7 : byOf Tryz.prog 7 = some 24 := by kernel_rfl
theorem ag7 : isAggT Tryz.prog 7 = some true := by kernel_rfl
theorem zr7 : zeroC Tryz.prog 7 = some (.agg [.d (.int .i64 0), .d (.int .i64 0), .d (.bool false), .d (.int .u8 0)]) := by kernel_rfl
theorem sz8 : szOf Tryz.prog 8 = some 4 := by kernel_rfl
theorem by8 : byOf Tryz.prog 8 = some 24 := by kernel_rfl
theorem ag8 : isAggT Tryz.prog 8 = some true := by kernel_rfl
theorem zr8 : zeroC Tryz.prog 8 = some (.agg [.d (.int .i64 0), .d (.int .i64 0), .d (.bool false), .d (.int .u8 0)]) := by kernel_rfl
theorem sz9 : szOf Tryz.prog 9 = some 1 := by kernel_rfl
theorem by9 : byOf Tryz.prog 9 = some 16 := by kernel_rfl
theorem ag9 : isAggT Tryz.prog 9 = some false := by kernel_rfl
theorem zr9 : zeroC Tryz.prog 9 = some (.w (.d (.str []))) := by kernel_rfl
theorem sz10 : szOf Tryz.prog 10 = some 1 := by kernel_rfl
theorem by10 : byOf Tryz.prog 10 = some 16 := by kernel_rfl
theorem ag10 : isAggT Tryz.prog 10 = some false := by kernel_rfl
theorem zr10 : zeroC Tryz.prog 10 = some (.w (.d (.str []))) := by kernel_rfl
theorem sz11 : szOf Tryz.prog 11 = some 1 := by kernel_rfl
theorem by11 : byOf Tryz.prog 11 = some 16 := by kernel_rfl
theorem ag11 : isAggT Tryz.prog 11 = some false := by kernel_rfl
theorem zr11 : zeroC Tryz.prog 11 = some (.w (.d (.str []))) := by kernel_rfl
theorem sz12 : szOf Tryz.prog 12 = some 1 := by kernel_rfl
theorem by12 : byOf Tryz.prog 12 = some 8 := by kernel_rfl
theorem ag12 : isAggT Tryz.prog 12 = some false := by kernel_rfl
theorem zr12 : zeroC Tryz.prog 12 = some (.w (.d (.int .u64 0))) := by kernel_rfl
theorem sz13 : szOf Tryz.prog 13 = some 2 := by kernel_rfl
theorem by13 : byOf Tryz.prog 13 = some 24 := by kernel_rfl
theorem ag13 : isAggT Tryz.prog 13 = some true := by kernel_rfl
theorem zr13 : zeroC Tryz.prog 13 = some (.agg [.d (.str []), .d (.int .u64 0)]) := by kernel_rfl
theorem sz14 : szOf Tryz.prog 14 = some 2 := by kernel_rfl
theorem by14 : byOf Tryz.prog 14 = some 24 := by kernel_rfl
theorem ag14 : isAggT Tryz.prog 14 = some true := by kernel_rfl
theorem zr14 : zeroC Tryz.prog 14 = some (.agg [.d (.str []), .d (.int .u64 0)]) := by kernel_rfl
theorem sz15 : szOf Tryz.prog 15 = some 1 := by kernel_rfl
theorem by15 : byOf Tryz.prog 15 = some 8 := by kernel_rfl
theorem ag15 : isAggT Tryz.prog 15 = some false := by kernel_rfl
theorem zr15 : zeroC Tryz.prog 15 = some (.w (.nil)) := by kernel_rfl
theorem sz16 : szOf Tryz.prog 16 = some 1 := by kernel_rfl
theorem by16 : byOf Tryz.prog 16 = some 8 := by kernel_rfl
theorem ag16 : isAggT Tryz.prog 16 = some false := by kernel_rfl
theorem zr16 : zeroC Tryz.prog 16 = some (.w (.nil)) := by kernel_rfl
theorem sz17 : szOf Tryz.prog 17 = some 1 := by kernel_rfl
theorem by17 : byOf Tryz.prog 17 = some 8 := by kernel_rfl
theorem ag17 : isAggT Tryz.prog 17 = some false := by kernel_rfl
theorem zr17 : zeroC Tryz.prog 17 = some (.w (.nil)) := by kernel_rfl
theorem sz18 : szOf Tryz.prog 18 = some 1 := by kernel_rfl
theorem by18 : byOf Tryz.prog 18 = some 8 := by kernel_rfl
theorem ag18 : isAggT Tryz.prog 18 = some true := by kernel_rfl
theorem zr18 : zeroC Tryz.prog 18 = some (.agg [.nil]) := by kernel_rfl
theorem sz19 : szOf Tryz.prog 19 = some 1 := by kernel_rfl
theorem by19 : byOf Tryz.prog 19 = some 8 := by kernel_rfl
theorem ag19 : isAggT Tryz.prog 19 = some true := by kernel_rfl
theorem zr19 : zeroC Tryz.prog 19 = some (.agg [.nil]) := by kernel_rfl
theorem sz21 : szOf Tryz.prog 21 = some 1 := by kernel_rfl
theorem by21 : byOf Tryz.prog 21 = some 4 := by kernel_rfl
theorem ag21 : isAggT Tryz.prog 21 = some false := by kernel_rfl
theorem zr21 : zeroC Tryz.prog 21 = some (.w (.d (.int .i32 0))) := by kernel_rfl
theorem sz22 : szOf Tryz.prog 22 = some 1 := by kernel_rfl
theorem by22 : byOf Tryz.prog 22 = some 24 := by kernel_rfl
theorem ag22 : isAggT Tryz.prog 22 = some false := by kernel_rfl
theorem zr22 : zeroC Tryz.prog 22 = some (.w (.full [])) := by kernel_rfl
theorem sz23 : szOf Tryz.prog 23 = some 1 := by kernel_rfl
theorem by23 : byOf Tryz.prog 23 = some 24 := by kernel_rfl
theorem ag23 : isAggT Tryz.prog 23 = some false := by kernel_rfl
theorem zr23 : zeroC Tryz.prog 23 = some (.w (.full [])) := by kernel_rfl
theorem sz24 : szOf Tryz.prog 24 = some 4 := by kernel_rfl
theorem by24 : byOf Tryz.prog 24 = some 32 := by kernel_rfl
theorem ag24 : isAggT Tryz.prog 24 = some true := by kernel_rfl
theorem zr24 : zeroC Tryz.prog 24 = some (.agg [.d (.int .i64 0), .d (.int .i64 0), .d (.int .i64 0), .d (.int .i64 0)]) := by kernel_rfl
theorem sz25 : szOf Tryz.prog 25 = some 1 := by kernel_rfl
theorem by25 : byOf Tryz.prog 25 = some 24 := by kernel_rfl
theorem ag25 : isAggT Tryz.prog 25 = some false := by kernel_rfl
theorem zr25 : zeroC Tryz.prog 25 = some (.w (.full [])) := by kernel_rfl
theorem sz26 : szOf Tryz.prog 26 = some 6 := by kernel_rfl
theorem by26 : byOf Tryz.prog 26 = some 80 := by kernel_rfl
theorem ag26 : isAggT Tryz.prog 26 = some true := by kernel_rfl
theorem zr26 : zeroC Tryz.prog 26 = some (.agg [.full [], .d (.int .i64 0), .d (.int .i64 0), .d (.int .i64 0), .d (.int .i64 0), .full []]) := by kernel_rfl
theorem sz27 : szOf Tryz.prog 27 = some 6 := by kernel_rfl
theorem by27 : byOf Tryz.prog 27 = some 80 := by kernel_rfl
theorem ag27 : isAggT Tryz.prog 27 = some true := by kernel_rfl
theorem zr27 : zeroC Tryz.prog 27 = some (.agg [.full [], .d (.int .i64 0), .d (.int .i64 0), .d (.int .i64 0), .d (.int .i64 0), .full []]) := by kernel_rfl
theorem sz31 : szOf Tryz.prog 31 = some 1 := by kernel_rfl
theorem by31 : byOf Tryz.prog 31 = some 24 := by kernel_rfl
theorem ag31 : isAggT Tryz.prog 31 = some false := by kernel_rfl
theorem zr31 : zeroC Tryz.prog 31 = some (.w (.full [])) := by kernel_rfl
theorem sz32 : szOf Tryz.prog 32 = some 1 := by kernel_rfl
theorem by32 : byOf Tryz.prog 32 = some 8 := by kernel_rfl
theorem ag32 : isAggT Tryz.prog 32 = some false := by kernel_rfl
theorem zr32 : zeroC Tryz.prog 32 = some (.w (.d (.int .i64 0))) := by kernel_rfl
theorem sz37 : szOf Tryz.prog 37 = some 4 := by kernel_rfl
theorem by37 : byOf Tryz.prog 37 = some 40 := by kernel_rfl
theorem ag37 : isAggT Tryz.prog 37 = some true := by kernel_rfl
theorem zr37 : zeroC Tryz.prog 37 = some (.agg [.d (.str []), .d (.int .i64 0), .d (.int .i64 0), .d (.int .i64 0)]) := by kernel_rfl
theorem sz38 : szOf Tryz.prog 38 = some 4 := by kernel_rfl
theorem by38 : byOf Tryz.prog 38 = some 40 := by kernel_rfl
theorem ag38 : isAggT Tryz.prog 38 = some true := by kernel_rfl
theorem zr38 : zeroC Tryz.prog 38 = some (.agg [.d (.str []), .d (.int .i64 0), .d (.int .i64 0), .d (.int .i64 0)]) := by kernel_rfl
theorem sz40 : szOf Tryz.prog 40 = some 1 := by kernel_rfl
theorem by40 : byOf Tryz.prog 40 = some 24 := by kernel_rfl
theorem ag40 : isAggT Tryz.prog 40 = some false := by kernel_rfl
theorem zr40 : zeroC Tryz.prog 40 = some (.w (.full [])) := by kernel_rfl
theorem sz41 : szOf Tryz.prog 41 = some 3 := by kernel_rfl
theorem by41 : byOf Tryz.prog 41 = some 48 := by kernel_rfl
theorem ag41 : isAggT Tryz.prog 41 = some true := by kernel_rfl
theorem zr41 : zeroC Tryz.prog 41 = some (.agg [.d (.str []), .d (.bool false), .full []]) := by kernel_rfl
theorem sz42 : szOf Tryz.prog 42 = some 3 := by kernel_rfl
theorem by42 : byOf Tryz.prog 42 = some 48 := by kernel_rfl
theorem ag42 : isAggT Tryz.prog 42 = some true := by kernel_rfl
theorem zr42 : zeroC Tryz.prog 42 = some (.agg [.d (.str []), .d (.bool false), .full []]) := by kernel_rfl
theorem sz43 : szOf Tryz.prog 43 = some 3 := by kernel_rfl
theorem by43 : byOf Tryz.prog 43 = some 32 := by kernel_rfl
theorem ag43 : isAggT Tryz.prog 43 = some true := by kernel_rfl
theorem zr43 : zeroC Tryz.prog 43 = some (.agg [.d (.int .i64 0), .d (.int .i64 0), .d (.str [])]) := by kernel_rfl
theorem sz44 : szOf Tryz.prog 44 = some 3 := by kernel_rfl
theorem by44 : byOf Tryz.prog 44 = some 32 := by kernel_rfl
theorem ag44 : isAggT Tryz.prog 44 = some true := by kernel_rfl
theorem zr44 : zeroC Tryz.prog 44 = some (.agg [.d (.int .i64 0), .d (.int .i64 0), .d (.str [])]) := by kernel_rfl
theorem sz60 : szOf Tryz.prog 60 = some 1 := by kernel_rfl
theorem by60 : byOf Tryz.prog 60 = some 8 := by kernel_rfl
theorem ag60 : isAggT Tryz.prog 60 = some false := by kernel_rfl
theorem zr60 : zeroC Tryz.prog 60 = some (.w (.d (.int .u64 0))) := by kernel_rfl
theorem sz67 : szOf Tryz.prog 67 = some 1 := by kernel_rfl
theorem by67 : byOf Tryz.prog 67 = some 8 := by kernel_rfl
theorem ag67 : isAggT Tryz.prog 67 = some false := by kernel_rfl
theorem zr67 : zeroC Tryz.prog 67 = some (.w (.d (.int .u64 0))) := by kernel_rfl
theorem sz69 : szOf Tryz.prog 69 = some 1 := by kernel_rfl
theorem by69 : byOf Tryz.prog 69 = some 24 := by kernel_rfl
theorem ag69 : isAggT Tryz.prog 69 = some false := by kernel_rfl
theorem zr69 : zeroC Tryz.prog 69 = some (.w (.full [])) := by kernel_rfl
theorem sz76 : szOf Tryz.prog 76 = some 1 := by kernel_rfl
theorem by76 : byOf Tryz.prog 76 = some 8 := by kernel_rfl
theorem ag76 : isAggT Tryz.prog 76 = some false := by kernel_rfl
theorem zr76 : zeroC Tryz.prog 76 = some (.w (.nil)) := by kernel_rfl
theorem sz77 : szOf Tryz.prog 77 = some 1 := by kernel_rfl
theorem by77 : byOf Tryz.prog 77 = some 24 := by kernel_rfl
theorem ag77 : isAggT Tryz.prog 77 = some false := by kernel_rfl
theorem zr77 : zeroC Tryz.prog 77 = some (.w (.full [])) := by kernel_rfl
theorem sz78 : szOf Tryz.prog 78 = some 2 := by kernel_rfl
theorem by78 : byOf Tryz.prog 78 = some 32 := by kernel_rfl
theorem ag78 : isAggT Tryz.prog 78 = some true := by kernel_rfl
theorem zr78 : zeroC Tryz.prog 78 = some (.agg [.nil, .full []]) := by kernel_rfl
theorem sz79 : szOf Tryz.prog 79 = some 2 := by kernel_rfl
theorem by79 : byOf Tryz.prog 79 = some 32 := by kernel_rfl
theorem ag79 : isAggT Tryz.prog 79 = some true := by kernel_rfl
theorem zr79 : zeroC Tryz.prog 79 = some (.agg [.nil, .full []]) := by kernel_rfl
theorem sz91 : szOf Tryz.prog 91 = some 1 := by kernel_rfl
theorem by91 : byOf Tryz.prog 91 = some 24 := by kernel_rfl
theorem ag91 : isAggT Tryz.prog 91 = some false := by kernel_rfl
theorem zr91 : zeroC Tryz.prog 91 = some (.w (.full [])) := by kernel_rfl
theorem sz100 : szOf Tryz.prog 100 = some 1 := by kernel_rfl
theorem by100 : byOf Tryz.prog 100 = some 8 := by kernel_rfl
theorem ag100 : isAggT Tryz.prog 100 = some false := by kernel_rfl
theorem zr100 : zeroC Tryz.prog 100 = some (.w (.d (.int .i64 0))) := by kernel_rfl
theorem sz108 : szOf Tryz.prog 108 = some 1 := by kernel_rfl
theorem by108 : byOf Tryz.prog 108 = some 4 := by kernel_rfl
theorem ag108 : isAggT Tryz.prog 108 = some false := by kernel_rfl
theorem zr108 : zeroC Tryz.prog 108 = some (.w (.d (.int .u32 0))) := by kernel_rfl
theorem sz118 : szOf Tryz.prog 118 = some 1 := by kernel_rfl
theorem by118 : byOf Tryz.prog 118 = some 8 := by kernel_rfl
theorem ag118 : isAggT Tryz.prog 118 = some false := by kernel_rfl
theorem zr118 : zeroC Tryz.prog 118 = some (.w (.nil)) := by kernel_rfl
theorem sz123 : szOf Tryz.prog 123 = some 1 := by kernel_rfl
theorem by123 : byOf Tryz.prog 123 = some 8 := by kernel_rfl
theorem ag123 : isAggT Tryz.prog 123 = some false := by kernel_rfl
theorem zr123 : zeroC Tryz.prog 123 = some (.w (.nil)) := by kernel_rfl
theorem sz124 : szOf Tryz.prog 124 = some 1 := by kernel_rfl
theorem by124 : byOf Tryz.prog 124 = some 8 := by kernel_rfl
theorem ag124 : isAggT Tryz.prog 124 = some false := by kernel_rfl
theorem zr124 : zeroC Tryz.prog 124 = some (.w (.d (.int .u64 0))) := by kernel_rfl
theorem sz128 : szOf Tryz.prog 128 = some 1 := by kernel_rfl
theorem by128 : byOf Tryz.prog 128 = some 8 := by kernel_rfl
theorem ag128 : isAggT Tryz.prog 128 = some false := by kernel_rfl
theorem zr128 : zeroC Tryz.prog 128 = some (.w (.nil)) := by kernel_rfl
theorem sz135 : szOf Tryz.prog 135 = some 21 := by kernel_rfl
theorem by135 : byOf Tryz.prog 135 = some 336 := by kernel_rfl
theorem ag135 : isAggT Tryz.prog 135 = some true := by kernel_rfl
theorem zr135 : zeroC Tryz.prog 135 = some (.agg [.d (.str []), .d (.str []), .d (.str []), .d (.str []), .d (.str []), .d (.str []), .d (.str []), .d (.str []), .d (.str []), .d (.str []), .d (.str []), .d (.str []), .d (.str []), .d (.str []), .d (.str []), .d (.str []), .d (.str []), .d (.str []), .d (.str []), .d (.str []), .d (.str [])]) := by kernel_rfl
theorem sz142 : szOf Tryz.prog 142 = some 1 := by kernel_rfl
theorem by142 : byOf Tryz.prog 142 = some 8 := by kernel_rfl
theorem ag142 : isAggT Tryz.prog 142 = some false := by kernel_rfl
theorem zr142 : zeroC Tryz.prog 142 = some (.w (.nil)) := by kernel_rfl
theorem sz145 : szOf Tryz.prog 145 = some 20 := by kernel_rfl
theorem by145 : byOf Tryz.prog 145 = some 20 := by kernel_rfl
theorem ag145 : isAggT Tryz.prog 145 = some true := by kernel_rfl
theorem zr145 : zeroC Tryz.prog 145 = some (.agg [.d (.int .u8 0), .d (.int .u8 0), .d (.int .u8 0), .d (.int .u8 0), .d (.int .u8 0), .d (.int .u8 0), .d (.int .u8 0), .d (.int .u8 0), .d (.int .u8 0), .d (.int .u8 0), .d (.int .u8 0), .d (.int .u8 0), .d (.int .u8 0), .d (.int .u8 0), .d (.int .u8 0), .d (.int .u8 0), .d (.int .u8 0), .d (.int .u8 0), .d (.int .u8 0), .d (.int .u8 0)]) := by kernel_rfl
theorem sz151 : szOf Tryz.prog 151 = some 4 := by kernel_rfl
theorem by151 : byOf Tryz.prog 151 = some 40 := by kernel_rfl
theorem ag151 : isAggT Tryz.prog 151 = some true := by kernel_rfl
theorem zr151 : zeroC Tryz.prog 151 = some (.agg [.nil, .nil, .nil, .d (.str [])]) := by kernel_rfl
theorem sz152 : szOf Tryz.prog 152 = some 4 := by kernel_rfl
theorem by152 : byOf Tryz.prog 152 = some 40 := by kernel_rfl
theorem ag152 : isAggT Tryz.prog 152 = some true := by kernel_rfl
theorem zr152 : zeroC Tryz.prog 152 = some (.agg [.nil, .nil, .nil, .d (.str [])]) := by kernel_rfl
theorem sz156 : szOf Tryz.prog 156 = some 1 := by kernel_rfl
theorem by156 : byOf Tryz.prog 156 = some 1 := by kernel_rfl
theorem ag156 : isAggT Tryz.prog 156 = some false := by kernel_rfl
theorem zr156 : zeroC Tryz.prog 156 = some (.w (.d (.int .u8 0))) := by kernel_rfl
theorem sz157 : szOf Tryz.prog 157 = some 1 := by kernel_rfl
theorem by157 : byOf Tryz.prog 157 = some 1 := by kernel_rfl
theorem ag157 : isAggT Tryz.prog 157 = some false := by kernel_rfl
theorem zr157 : zeroC Tryz.prog 157 = some (.w (.d (.int .u8 0))) := by kernel_rfl
theorem sz159 : szOf Tryz.prog 159 = some 1 := by kernel_rfl
theorem by159 : byOf Tryz.prog 159 = some 4 := by kernel_rfl
theorem ag159 : isAggT Tryz.prog 159 = some false := by kernel_rfl
theorem zr159 : zeroC Tryz.prog 159 = some (.w (.d (.int .i32 0))) := by kernel_rfl
theorem sz160 : szOf Tryz.prog 160 = some 1 := by kernel_rfl
theorem by160 : byOf Tryz.prog 160 = some 4 := by kernel_rfl
theorem ag160 : isAggT Tryz.prog 160 = some false := by kernel_rfl
theorem zr160 : zeroC Tryz.prog 160 = some (.w (.d (.int .i32 0))) := by kernel_rfl
theorem sz161 : szOf Tryz.prog 161 = some 11 := by kernel_rfl
theorem by161 : byOf Tryz.prog 161 = some 48 := by kernel_rfl
theorem ag161 : isAggT Tryz.prog 161 = some true := by kernel_rfl
theorem sz162 : szOf Tryz.prog 162 = some 11 := by kernel_rfl
theorem by162 : byOf Tryz.prog 162 = some 48 := by kernel_rfl
theorem ag162 : isAggT Tryz.prog 162 = some true := by kernel_rfl
theorem mixed : Tryz.prog.follows .mixedOrders = true := by kernel_rfl
theorem ownKnob_ : ownKnob Tryz.prog.godebug = none := by kernel_rfl
theorem laid_ : laidOutB Tryz.prog = true := by kernel_rfl
attribute [simp] sz2 by2 ag2 zr2 Tryz.underlying2 sz3 by3 ag3 zr3 Tryz.underlying3 sz4 by4 ag4 zr4 Tryz.underlying4 sz5 by5 ag5 zr5 Tryz.underlying5 sz6 by6 ag6 zr6 Tryz.underlying6 sz7 by7 ag7 zr7 Tryz.underlying7 sz8 by8 ag8 zr8 Tryz.underlying8 sz9 by9 ag9 zr9 Tryz.underlying9 sz10 by10 ag10 zr10 Tryz.underlying10 sz11 by11 ag11 zr11 Tryz.underlying11 sz12 by12 ag12 zr12 Tryz.underlying12 sz13 by13 ag13 zr13 Tryz.underlying13 sz14 by14 ag14 zr14 Tryz.underlying14 sz15 by15 ag15 zr15 Tryz.underlying15 sz16 by16 ag16 zr16 Tryz.underlying16 sz17 by17 ag17 zr17 Tryz.underlying17 sz18 by18 ag18 zr18 Tryz.underlying18 sz19 by19 ag19 zr19 Tryz.underlying19 sz21 by21 ag21 zr21 Tryz.underlying21 sz22 by22 ag22 zr22 Tryz.underlying22 sz23 by23 ag23 zr23 Tryz.underlying23 sz24 by24 ag24 zr24 Tryz.underlying24 sz25 by25 ag25 zr25 Tryz.underlying25 sz26 by26 ag26 zr26 Tryz.underlying26 sz27 by27 ag27 zr27 Tryz.underlying27 sz31 by31 ag31 zr31 Tryz.underlying31 sz32 by32 ag32 zr32 Tryz.underlying32 sz37 by37 ag37 zr37 Tryz.underlying37 sz38 by38 ag38 zr38 Tryz.underlying38 sz40 by40 ag40 zr40 Tryz.underlying40 sz41 by41 ag41 zr41 Tryz.underlying41 sz42 by42 ag42 zr42 Tryz.underlying42 sz43 by43 ag43 zr43 Tryz.underlying43 sz44 by44 ag44 zr44 Tryz.underlying44 sz60 by60 ag60 zr60 Tryz.underlying60 sz67 by67 ag67 zr67 Tryz.underlying67 sz69 by69 ag69 zr69 Tryz.underlying69 sz76 by76 ag76 zr76 Tryz.underlying76 sz77 by77 ag77 zr77 Tryz.underlying77 sz78 by78 ag78 zr78 Tryz.underlying78 sz79 by79 ag79 zr79 Tryz.underlying79 sz91 by91 ag91 zr91 Tryz.underlying91 sz100 by100 ag100 zr100 Tryz.underlying100 sz108 by108 ag108 zr108 Tryz.underlying108 sz118 by118 ag118 zr118 Tryz.underlying118 sz123 by123 ag123 zr123 Tryz.underlying123 sz124 by124 ag124 zr124 Tryz.underlying124 sz128 by128 ag128 zr128 Tryz.underlying128 sz135 by135 ag135 zr135 Tryz.underlying135 sz142 by142 ag142 zr142 Tryz.underlying142 sz145 by145 ag145 zr145 Tryz.underlying145 sz151 by151 ag151 zr151 Tryz.underlying151 sz152 by152 ag152 zr152 Tryz.underlying152 sz156 by156 ag156 zr156 Tryz.underlying156 sz157 by157 ag157 zr157 Tryz.underlying157 sz159 by159 ag159 zr159 Tryz.underlying159 sz160 by160 ag160 zr160 Tryz.underlying160 sz161 by161 ag161 Tryz.underlying161 sz162 by162 ag162 Tryz.underlying162
end Go.Proofs.YtkklkkppedociaaGreat.Ev
