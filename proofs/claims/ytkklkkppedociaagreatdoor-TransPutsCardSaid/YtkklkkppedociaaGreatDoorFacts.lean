/- Sizes and zero values of the program's types. -/
import Derived.Test.YtkklkkppedociaaGreatDoorEvM
import Derived.Test.YtkklkkppedociaaGreatDoorProg
import Derived.KernelRfl
namespace Go.Proofs.YtkklkkppedociaaGreatDoor.Ev
open Go
theorem sz2 : szOf Tryz.prog 2 = some 1 := by kernel_rfl
theorem by2 : byOf Tryz.prog 2 = some 8 := by kernel_rfl
theorem ag2 : isAggT Tryz.prog 2 = some false := by kernel_rfl
theorem zr2 : zeroC Tryz.prog 2 = some (.w (.d (.int .i64 0))) := by kernel_rfl
theorem sz3 : szOf Tryz.prog 3 = some 1 := by kernel_rfl
theorem by3 : byOf Tryz.prog 3 = some 8 := by kernel_rfl
theorem ag3 : isAggT Tryz.prog 3 = some false := by kernel_rfl
theorem zr3 : zeroC Tryz.prog 3 = some (.w (.d (.int .i64 0))) := by kernel_rfl
theorem sz4 : szOf Tryz.prog 4 = some 1 := by kernel_rfl
theorem by4 : byOf Tryz.prog 4 = some 1 := by kernel_rfl
theorem ag4 : isAggT Tryz.prog 4 = some false := by kernel_rfl
theorem zr4 : zeroC Tryz.prog 4 = some (.w (.d (.bool false))) := by kernel_rfl
theorem sz5 : szOf Tryz.prog 5 = some 1 := by kernel_rfl
theorem by5 : byOf Tryz.prog 5 = some 1 := by kernel_rfl
theorem ag5 : isAggT Tryz.prog 5 = some false := by kernel_rfl
theorem zr5 : zeroC Tryz.prog 5 = some (.w (.d (.int .u8 0))) := by kernel_rfl
theorem sz6 : szOf Tryz.prog 6 = some 1 := by kernel_rfl
theorem by6 : byOf Tryz.prog 6 = some 1 := by kernel_rfl
theorem ag6 : isAggT Tryz.prog 6 = some false := by kernel_rfl
theorem zr6 : zeroC Tryz.prog 6 = some (.w (.d (.int .u8 0))) := by kernel_rfl
theorem sz7 : szOf Tryz.prog 7 = some 4 := by kernel_rfl
theorem by7 : byOf Tryz.prog 7 = some 24 := by kernel_rfl
theorem ag7 : isAggT Tryz.prog 7 = some true := by kernel_rfl
theorem zr7 : zeroC Tryz.prog 7 = some (.agg [.d (.int .i64 0), .d (.int .i64 0), .d (.bool false), .d (.int .u8 0)]) := by kernel_rfl
theorem sz8 : szOf Tryz.prog 8 = some 4 := by kernel_rfl
theorem by8 : byOf Tryz.prog 8 = some 24 := by kernel_rfl
theorem ag8 : isAggT Tryz.prog 8 = some true := by kernel_rfl
theorem zr8 : zeroC Tryz.prog 8 = some (.agg [.d (.int .i64 0), .d (.int .i64 0), .d (.bool false), .d (.int .u8 0)]) := by kernel_rfl
theorem sz9 : szOf Tryz.prog 9 = some 1 := by kernel_rfl
theorem by9 : byOf Tryz.prog 9 = some 16 := by kernel_rfl
theorem ag9 : isAggT Tryz.prog 9 = some false := by kernel_rfl
theorem zr9 : zeroC Tryz.prog 9 = some (.w (.d (.str []))) := by kernel_rfl
theorem sz10 : szOf Tryz.prog 10 = some 1 := by kernel_rfl
theorem by10 : byOf Tryz.prog 10 = some 16 := by kernel_rfl
theorem ag10 : isAggT Tryz.prog 10 = some false := by kernel_rfl
theorem zr10 : zeroC Tryz.prog 10 = some (.w (.d (.str []))) := by kernel_rfl
theorem sz11 : szOf Tryz.prog 11 = some 1 := by kernel_rfl
theorem by11 : byOf Tryz.prog 11 = some 16 := by kernel_rfl
theorem ag11 : isAggT Tryz.prog 11 = some false := by kernel_rfl
theorem zr11 : zeroC Tryz.prog 11 = some (.w (.d (.str []))) := by kernel_rfl
theorem sz12 : szOf Tryz.prog 12 = some 1 := by kernel_rfl
theorem by12 : byOf Tryz.prog 12 = some 8 := by kernel_rfl
theorem ag12 : isAggT Tryz.prog 12 = some false := by kernel_rfl
theorem zr12 : zeroC Tryz.prog 12 = some (.w (.d (.int .u64 0))) := by kernel_rfl
theorem sz13 : szOf Tryz.prog 13 = some 2 := by kernel_rfl
theorem by13 : byOf Tryz.prog 13 = some 24 := by kernel_rfl
theorem ag13 : isAggT Tryz.prog 13 = some true := by kernel_rfl
theorem zr13 : zeroC Tryz.prog 13 = some (.agg [.d (.str []), .d (.int .u64 0)]) := by kernel_rfl
theorem sz14 : szOf Tryz.prog 14 = some 2 := by kernel_rfl
theorem by14 : byOf Tryz.prog 14 = some 24 := by kernel_rfl
theorem ag14 : isAggT Tryz.prog 14 = some true := by kernel_rfl
theorem zr14 : zeroC Tryz.prog 14 = some (.agg [.d (.str []), .d (.int .u64 0)]) := by kernel_rfl
theorem sz15 : szOf Tryz.prog 15 = some 1 := by kernel_rfl
theorem by15 : byOf Tryz.prog 15 = some 8 := by kernel_rfl
theorem ag15 : isAggT Tryz.prog 15 = some false := by kernel_rfl
theorem zr15 : zeroC Tryz.prog 15 = some (.w (.nil)) := by kernel_rfl
theorem sz16 : szOf Tryz.prog 16 = some 1 := by kernel_rfl
theorem by16 : byOf Tryz.prog 16 = some 8 := by kernel_rfl
theorem ag16 : isAggT Tryz.prog 16 = some false := by kernel_rfl
theorem zr16 : zeroC Tryz.prog 16 = some (.w (.nil)) := by kernel_rfl
theorem sz17 : szOf Tryz.prog 17 = some 1 := by kernel_rfl
theorem by17 : byOf Tryz.prog 17 = some 8 := by kernel_rfl
theorem ag17 : isAggT Tryz.prog 17 = some false := by kernel_rfl
theorem zr17 : zeroC Tryz.prog 17 = some (.w (.nil)) := by kernel_rfl
theorem sz18 : szOf Tryz.prog 18 = some 1 := by kernel_rfl
theorem by18 : byOf Tryz.prog 18 = some 8 := by kernel_rfl
theorem ag18 : isAggT Tryz.prog 18 = some true := by kernel_rfl
theorem zr18 : zeroC Tryz.prog 18 = some (.agg [.nil]) := by kernel_rfl
theorem sz19 : szOf Tryz.prog 19 = some 1 := by kernel_rfl
theorem by19 : byOf Tryz.prog 19 = some 8 := by kernel_rfl
theorem ag19 : isAggT Tryz.prog 19 = some true := by kernel_rfl
theorem zr19 : zeroC Tryz.prog 19 = some (.agg [.nil]) := by kernel_rfl
theorem sz21 : szOf Tryz.prog 21 = some 1 := by kernel_rfl
theorem by21 : byOf Tryz.prog 21 = some 4 := by kernel_rfl
theorem ag21 : isAggT Tryz.prog 21 = some false := by kernel_rfl
theorem zr21 : zeroC Tryz.prog 21 = some (.w (.d (.int .i32 0))) := by kernel_rfl
theorem sz23 : szOf Tryz.prog 23 = some 1 := by kernel_rfl
theorem by23 : byOf Tryz.prog 23 = some 24 := by kernel_rfl
theorem ag23 : isAggT Tryz.prog 23 = some false := by kernel_rfl
theorem zr23 : zeroC Tryz.prog 23 = some (.w (.full [])) := by kernel_rfl
theorem sz24 : szOf Tryz.prog 24 = some 1 := by kernel_rfl
theorem by24 : byOf Tryz.prog 24 = some 8 := by kernel_rfl
theorem ag24 : isAggT Tryz.prog 24 = some false := by kernel_rfl
theorem zr24 : zeroC Tryz.prog 24 = some (.w (.d (.int .i64 0))) := by kernel_rfl
theorem sz29 : szOf Tryz.prog 29 = some 1 := by kernel_rfl
theorem by29 : byOf Tryz.prog 29 = some 24 := by kernel_rfl
theorem ag29 : isAggT Tryz.prog 29 = some false := by kernel_rfl
theorem zr29 : zeroC Tryz.prog 29 = some (.w (.full [])) := by kernel_rfl
theorem sz30 : szOf Tryz.prog 30 = some 2 := by kernel_rfl
theorem by30 : byOf Tryz.prog 30 = some 16 := by kernel_rfl
theorem ag30 : isAggT Tryz.prog 30 = some true := by kernel_rfl
theorem zr30 : zeroC Tryz.prog 30 = some (.agg [.d (.int .i64 0), .d (.int .i64 0)]) := by kernel_rfl
theorem sz31 : szOf Tryz.prog 31 = some 2 := by kernel_rfl
theorem by31 : byOf Tryz.prog 31 = some 16 := by kernel_rfl
theorem ag31 : isAggT Tryz.prog 31 = some true := by kernel_rfl
theorem zr31 : zeroC Tryz.prog 31 = some (.agg [.d (.int .i64 0), .d (.int .i64 0)]) := by kernel_rfl
theorem sz32 : szOf Tryz.prog 32 = some 4 := by kernel_rfl
theorem by32 : byOf Tryz.prog 32 = some 40 := by kernel_rfl
theorem ag32 : isAggT Tryz.prog 32 = some true := by kernel_rfl
theorem zr32 : zeroC Tryz.prog 32 = some (.agg [.d (.int .i64 0), .d (.str []), .d (.int .i64 0), .d (.int .i64 0)]) := by kernel_rfl
theorem sz33 : szOf Tryz.prog 33 = some 4 := by kernel_rfl
theorem by33 : byOf Tryz.prog 33 = some 40 := by kernel_rfl
theorem ag33 : isAggT Tryz.prog 33 = some true := by kernel_rfl
theorem zr33 : zeroC Tryz.prog 33 = some (.agg [.d (.int .i64 0), .d (.str []), .d (.int .i64 0), .d (.int .i64 0)]) := by kernel_rfl
theorem sz34 : szOf Tryz.prog 34 = some 1 := by kernel_rfl
theorem by34 : byOf Tryz.prog 34 = some 8 := by kernel_rfl
theorem ag34 : isAggT Tryz.prog 34 = some false := by kernel_rfl
theorem zr34 : zeroC Tryz.prog 34 = some (.w (.nil)) := by kernel_rfl
theorem sz37 : szOf Tryz.prog 37 = some 6 := by kernel_rfl
theorem by37 : byOf Tryz.prog 37 = some 64 := by kernel_rfl
theorem ag37 : isAggT Tryz.prog 37 = some true := by kernel_rfl
theorem zr37 : zeroC Tryz.prog 37 = some (.agg [.full [], .d (.int .i64 0), .d (.int .i64 0), .d (.int .i64 0), .d (.int .i64 0), .d (.int .i64 0)]) := by kernel_rfl
theorem sz38 : szOf Tryz.prog 38 = some 6 := by kernel_rfl
theorem by38 : byOf Tryz.prog 38 = some 64 := by kernel_rfl
theorem ag38 : isAggT Tryz.prog 38 = some true := by kernel_rfl
theorem zr38 : zeroC Tryz.prog 38 = some (.agg [.full [], .d (.int .i64 0), .d (.int .i64 0), .d (.int .i64 0), .d (.int .i64 0), .d (.int .i64 0)]) := by kernel_rfl
theorem sz46 : szOf Tryz.prog 46 = some 1 := by kernel_rfl
theorem by46 : byOf Tryz.prog 46 = some 24 := by kernel_rfl
theorem ag46 : isAggT Tryz.prog 46 = some false := by kernel_rfl
theorem zr46 : zeroC Tryz.prog 46 = some (.w (.full [])) := by kernel_rfl
theorem sz47 : szOf Tryz.prog 47 = some 4 := by kernel_rfl
theorem by47 : byOf Tryz.prog 47 = some 80 := by kernel_rfl
theorem ag47 : isAggT Tryz.prog 47 = some true := by kernel_rfl
theorem zr47 : zeroC Tryz.prog 47 = some (.agg [.d (.str []), .full [], .full [], .d (.str [])]) := by kernel_rfl
theorem sz48 : szOf Tryz.prog 48 = some 4 := by kernel_rfl
theorem by48 : byOf Tryz.prog 48 = some 80 := by kernel_rfl
theorem ag48 : isAggT Tryz.prog 48 = some true := by kernel_rfl
theorem zr48 : zeroC Tryz.prog 48 = some (.agg [.d (.str []), .full [], .full [], .d (.str [])]) := by kernel_rfl
theorem sz59 : szOf Tryz.prog 59 = some 3 := by kernel_rfl
theorem by59 : byOf Tryz.prog 59 = some 32 := by kernel_rfl
theorem ag59 : isAggT Tryz.prog 59 = some true := by kernel_rfl
theorem zr59 : zeroC Tryz.prog 59 = some (.agg [.d (.int .i64 0), .d (.int .i64 0), .d (.str [])]) := by kernel_rfl
theorem sz60 : szOf Tryz.prog 60 = some 3 := by kernel_rfl
theorem by60 : byOf Tryz.prog 60 = some 32 := by kernel_rfl
theorem ag60 : isAggT Tryz.prog 60 = some true := by kernel_rfl
theorem zr60 : zeroC Tryz.prog 60 = some (.agg [.d (.int .i64 0), .d (.int .i64 0), .d (.str [])]) := by kernel_rfl
theorem sz63 : szOf Tryz.prog 63 = some 3 := by kernel_rfl
theorem by63 : byOf Tryz.prog 63 = some 24 := by kernel_rfl
theorem ag63 : isAggT Tryz.prog 63 = some true := by kernel_rfl
theorem zr63 : zeroC Tryz.prog 63 = some (.agg [.d (.int .i64 0), .d (.int .i64 0), .d (.int .i64 0)]) := by kernel_rfl
theorem sz64 : szOf Tryz.prog 64 = some 3 := by kernel_rfl
theorem by64 : byOf Tryz.prog 64 = some 24 := by kernel_rfl
theorem ag64 : isAggT Tryz.prog 64 = some true := by kernel_rfl
theorem zr64 : zeroC Tryz.prog 64 = some (.agg [.d (.int .i64 0), .d (.int .i64 0), .d (.int .i64 0)]) := by kernel_rfl
theorem sz65 : szOf Tryz.prog 65 = some 6 := by kernel_rfl
theorem by65 : byOf Tryz.prog 65 = some 64 := by kernel_rfl
theorem ag65 : isAggT Tryz.prog 65 = some true := by kernel_rfl
theorem zr65 : zeroC Tryz.prog 65 = some (.agg [.d (.bool false), .full [], .d (.int .i64 0), .d (.int .i64 0), .d (.int .i64 0), .d (.int .i64 0)]) := by kernel_rfl
theorem sz66 : szOf Tryz.prog 66 = some 6 := by kernel_rfl
theorem by66 : byOf Tryz.prog 66 = some 64 := by kernel_rfl
theorem ag66 : isAggT Tryz.prog 66 = some true := by kernel_rfl
theorem zr66 : zeroC Tryz.prog 66 = some (.agg [.d (.bool false), .full [], .d (.int .i64 0), .d (.int .i64 0), .d (.int .i64 0), .d (.int .i64 0)]) := by kernel_rfl
theorem sz67 : szOf Tryz.prog 67 = some 1 := by kernel_rfl
theorem by67 : byOf Tryz.prog 67 = some 8 := by kernel_rfl
theorem ag67 : isAggT Tryz.prog 67 = some true := by kernel_rfl
theorem zr67 : zeroC Tryz.prog 67 = some (.agg [.nil]) := by kernel_rfl
theorem sz68 : szOf Tryz.prog 68 = some 1 := by kernel_rfl
theorem by68 : byOf Tryz.prog 68 = some 8 := by kernel_rfl
theorem ag68 : isAggT Tryz.prog 68 = some true := by kernel_rfl
theorem zr68 : zeroC Tryz.prog 68 = some (.agg [.nil]) := by kernel_rfl
theorem sz76 : szOf Tryz.prog 76 = some 1 := by kernel_rfl
theorem by76 : byOf Tryz.prog 76 = some 24 := by kernel_rfl
theorem ag76 : isAggT Tryz.prog 76 = some false := by kernel_rfl
theorem zr76 : zeroC Tryz.prog 76 = some (.w (.full [])) := by kernel_rfl
theorem sz77 : szOf Tryz.prog 77 = some 4 := by kernel_rfl
theorem by77 : byOf Tryz.prog 77 = some 32 := by kernel_rfl
theorem ag77 : isAggT Tryz.prog 77 = some true := by kernel_rfl
theorem zr77 : zeroC Tryz.prog 77 = some (.agg [.d (.int .i64 0), .d (.int .i64 0), .d (.int .i64 0), .d (.int .i64 0)]) := by kernel_rfl
theorem sz78 : szOf Tryz.prog 78 = some 1 := by kernel_rfl
theorem by78 : byOf Tryz.prog 78 = some 24 := by kernel_rfl
theorem ag78 : isAggT Tryz.prog 78 = some false := by kernel_rfl
theorem zr78 : zeroC Tryz.prog 78 = some (.w (.full [])) := by kernel_rfl
theorem sz79 : szOf Tryz.prog 79 = some 6 := by kernel_rfl
theorem by79 : byOf Tryz.prog 79 = some 80 := by kernel_rfl
theorem ag79 : isAggT Tryz.prog 79 = some true := by kernel_rfl
theorem zr79 : zeroC Tryz.prog 79 = some (.agg [.full [], .d (.int .i64 0), .d (.int .i64 0), .d (.int .i64 0), .d (.int .i64 0), .full []]) := by kernel_rfl
theorem sz80 : szOf Tryz.prog 80 = some 6 := by kernel_rfl
theorem by80 : byOf Tryz.prog 80 = some 80 := by kernel_rfl
theorem ag80 : isAggT Tryz.prog 80 = some true := by kernel_rfl
theorem zr80 : zeroC Tryz.prog 80 = some (.agg [.full [], .d (.int .i64 0), .d (.int .i64 0), .d (.int .i64 0), .d (.int .i64 0), .full []]) := by kernel_rfl
theorem sz82 : szOf Tryz.prog 82 = some 3 := by kernel_rfl
theorem by82 : byOf Tryz.prog 82 = some 48 := by kernel_rfl
theorem ag82 : isAggT Tryz.prog 82 = some true := by kernel_rfl
theorem zr82 : zeroC Tryz.prog 82 = some (.agg [.d (.str []), .d (.bool false), .full []]) := by kernel_rfl
theorem sz83 : szOf Tryz.prog 83 = some 3 := by kernel_rfl
theorem by83 : byOf Tryz.prog 83 = some 48 := by kernel_rfl
theorem ag83 : isAggT Tryz.prog 83 = some true := by kernel_rfl
theorem zr83 : zeroC Tryz.prog 83 = some (.agg [.d (.str []), .d (.bool false), .full []]) := by kernel_rfl
theorem sz91 : szOf Tryz.prog 91 = some 1 := by kernel_rfl
theorem by91 : byOf Tryz.prog 91 = some 8 := by kernel_rfl
theorem ag91 : isAggT Tryz.prog 91 = some false := by kernel_rfl
theorem zr91 : zeroC Tryz.prog 91 = some (.w (.nil)) := by kernel_rfl
theorem sz92 : szOf Tryz.prog 92 = some 3 := by kernel_rfl
theorem by92 : byOf Tryz.prog 92 = some 32 := by kernel_rfl
theorem ag92 : isAggT Tryz.prog 92 = some true := by kernel_rfl
theorem zr92 : zeroC Tryz.prog 92 = some (.agg [.d (.str []), .d (.int .i64 0), .d (.int .i64 0)]) := by kernel_rfl
theorem sz93 : szOf Tryz.prog 93 = some 3 := by kernel_rfl
theorem by93 : byOf Tryz.prog 93 = some 32 := by kernel_rfl
theorem ag93 : isAggT Tryz.prog 93 = some true := by kernel_rfl
theorem zr93 : zeroC Tryz.prog 93 = some (.agg [.d (.str []), .d (.int .i64 0), .d (.int .i64 0)]) := by kernel_rfl
theorem sz114 : szOf Tryz.prog 114 = some 1 := by kernel_rfl
theorem by114 : byOf Tryz.prog 114 = some 24 := by kernel_rfl
theorem ag114 : isAggT Tryz.prog 114 = some false := by kernel_rfl
theorem zr114 : zeroC Tryz.prog 114 = some (.w (.full [])) := by kernel_rfl
theorem sz122 : szOf Tryz.prog 122 = some 4 := by kernel_rfl
theorem by122 : byOf Tryz.prog 122 = some 40 := by kernel_rfl
theorem ag122 : isAggT Tryz.prog 122 = some true := by kernel_rfl
theorem zr122 : zeroC Tryz.prog 122 = some (.agg [.d (.str []), .d (.int .i64 0), .d (.int .i64 0), .d (.int .i64 0)]) := by kernel_rfl
theorem sz123 : szOf Tryz.prog 123 = some 4 := by kernel_rfl
theorem by123 : byOf Tryz.prog 123 = some 40 := by kernel_rfl
theorem ag123 : isAggT Tryz.prog 123 = some true := by kernel_rfl
theorem zr123 : zeroC Tryz.prog 123 = some (.agg [.d (.str []), .d (.int .i64 0), .d (.int .i64 0), .d (.int .i64 0)]) := by kernel_rfl
theorem sz124 : szOf Tryz.prog 124 = some 1 := by kernel_rfl
theorem by124 : byOf Tryz.prog 124 = some 8 := by kernel_rfl
theorem ag124 : isAggT Tryz.prog 124 = some false := by kernel_rfl
theorem zr124 : zeroC Tryz.prog 124 = some (.w (.nil)) := by kernel_rfl
theorem sz125 : szOf Tryz.prog 125 = some 1 := by kernel_rfl
theorem by125 : byOf Tryz.prog 125 = some 24 := by kernel_rfl
theorem ag125 : isAggT Tryz.prog 125 = some false := by kernel_rfl
theorem zr125 : zeroC Tryz.prog 125 = some (.w (.full [])) := by kernel_rfl
theorem sz126 : szOf Tryz.prog 126 = some 2 := by kernel_rfl
theorem by126 : byOf Tryz.prog 126 = some 32 := by kernel_rfl
theorem ag126 : isAggT Tryz.prog 126 = some true := by kernel_rfl
theorem zr126 : zeroC Tryz.prog 126 = some (.agg [.nil, .full []]) := by kernel_rfl
theorem sz127 : szOf Tryz.prog 127 = some 2 := by kernel_rfl
theorem by127 : byOf Tryz.prog 127 = some 32 := by kernel_rfl
theorem ag127 : isAggT Tryz.prog 127 = some true := by kernel_rfl
theorem zr127 : zeroC Tryz.prog 127 = some (.agg [.nil, .full []]) := by kernel_rfl
theorem sz147 : szOf Tryz.prog 147 = some 1 := by kernel_rfl
theorem by147 : byOf Tryz.prog 147 = some 24 := by kernel_rfl
theorem ag147 : isAggT Tryz.prog 147 = some false := by kernel_rfl
theorem zr147 : zeroC Tryz.prog 147 = some (.w (.full [])) := by kernel_rfl
theorem sz156 : szOf Tryz.prog 156 = some 1 := by kernel_rfl
theorem by156 : byOf Tryz.prog 156 = some 8 := by kernel_rfl
theorem ag156 : isAggT Tryz.prog 156 = some false := by kernel_rfl
theorem zr156 : zeroC Tryz.prog 156 = some (.w (.nil)) := by kernel_rfl
theorem sz164 : szOf Tryz.prog 164 = some 1 := by kernel_rfl
theorem by164 : byOf Tryz.prog 164 = some 8 := by kernel_rfl
theorem ag164 : isAggT Tryz.prog 164 = some false := by kernel_rfl
theorem zr164 : zeroC Tryz.prog 164 = some (.w (.nil)) := by kernel_rfl
theorem sz165 : szOf Tryz.prog 165 = some 7 := by kernel_rfl
theorem by165 : byOf Tryz.prog 165 = some 112 := by kernel_rfl
theorem ag165 : isAggT Tryz.prog 165 = some true := by kernel_rfl
theorem zr165 : zeroC Tryz.prog 165 = some (.agg [.d (.str []), .d (.str []), .d (.str []), .d (.str []), .d (.str []), .d (.str []), .d (.str [])]) := by kernel_rfl
theorem sz167 : szOf Tryz.prog 167 = some 1 := by kernel_rfl
theorem by167 : byOf Tryz.prog 167 = some 8 := by kernel_rfl
theorem ag167 : isAggT Tryz.prog 167 = some false := by kernel_rfl
theorem zr167 : zeroC Tryz.prog 167 = some (.w (.d (.int .u64 0))) := by kernel_rfl
theorem sz168 : szOf Tryz.prog 168 = some 21 := by kernel_rfl
theorem by168 : byOf Tryz.prog 168 = some 336 := by kernel_rfl
theorem ag168 : isAggT Tryz.prog 168 = some true := by kernel_rfl
theorem zr168 : zeroC Tryz.prog 168 = some (.agg [.d (.str []), .d (.str []), .d (.str []), .d (.str []), .d (.str []), .d (.str []), .d (.str []), .d (.str []), .d (.str []), .d (.str []), .d (.str []), .d (.str []), .d (.str []), .d (.str []), .d (.str []), .d (.str []), .d (.str []), .d (.str []), .d (.str []), .d (.str []), .d (.str [])]) := by kernel_rfl
theorem sz169 : szOf Tryz.prog 169 = some 1 := by kernel_rfl
theorem by169 : byOf Tryz.prog 169 = some 8 := by kernel_rfl
theorem ag169 : isAggT Tryz.prog 169 = some false := by kernel_rfl
theorem zr169 : zeroC Tryz.prog 169 = some (.w (.d (.int .u64 0))) := by kernel_rfl
theorem sz180 : szOf Tryz.prog 180 = some 20 := by kernel_rfl
theorem by180 : byOf Tryz.prog 180 = some 20 := by kernel_rfl
theorem ag180 : isAggT Tryz.prog 180 = some true := by kernel_rfl
theorem zr180 : zeroC Tryz.prog 180 = some (.agg [.d (.int .u8 0), .d (.int .u8 0), .d (.int .u8 0), .d (.int .u8 0), .d (.int .u8 0), .d (.int .u8 0), .d (.int .u8 0), .d (.int .u8 0), .d (.int .u8 0), .d (.int .u8 0), .d (.int .u8 0), .d (.int .u8 0), .d (.int .u8 0), .d (.int .u8 0), .d (.int .u8 0), .d (.int .u8 0), .d (.int .u8 0), .d (.int .u8 0), .d (.int .u8 0), .d (.int .u8 0)]) := by kernel_rfl
theorem sz181 : szOf Tryz.prog 181 = some 1 := by kernel_rfl
theorem by181 : byOf Tryz.prog 181 = some 4 := by kernel_rfl
theorem ag181 : isAggT Tryz.prog 181 = some false := by kernel_rfl
theorem zr181 : zeroC Tryz.prog 181 = some (.w (.d (.int .u32 0))) := by kernel_rfl
theorem sz188 : szOf Tryz.prog 188 = some 2 := by kernel_rfl
theorem by188 : byOf Tryz.prog 188 = some 2 := by kernel_rfl
theorem ag188 : isAggT Tryz.prog 188 = some true := by kernel_rfl
theorem zr188 : zeroC Tryz.prog 188 = some (.agg [.d (.int .u8 0), .d (.int .u8 0)]) := by kernel_rfl
theorem sz189 : szOf Tryz.prog 189 = some 2 := by kernel_rfl
theorem by189 : byOf Tryz.prog 189 = some 2 := by kernel_rfl
theorem ag189 : isAggT Tryz.prog 189 = some true := by kernel_rfl
theorem zr189 : zeroC Tryz.prog 189 = some (.agg [.d (.int .u8 0), .d (.int .u8 0)]) := by kernel_rfl
theorem sz190 : szOf Tryz.prog 190 = some 32 := by kernel_rfl
theorem by190 : byOf Tryz.prog 190 = some 32 := by kernel_rfl
theorem ag190 : isAggT Tryz.prog 190 = some true := by kernel_rfl
theorem zr190 : zeroC Tryz.prog 190 = some (.agg [.d (.int .u8 0), .d (.int .u8 0), .d (.int .u8 0), .d (.int .u8 0), .d (.int .u8 0), .d (.int .u8 0), .d (.int .u8 0), .d (.int .u8 0), .d (.int .u8 0), .d (.int .u8 0), .d (.int .u8 0), .d (.int .u8 0), .d (.int .u8 0), .d (.int .u8 0), .d (.int .u8 0), .d (.int .u8 0), .d (.int .u8 0), .d (.int .u8 0), .d (.int .u8 0), .d (.int .u8 0), .d (.int .u8 0), .d (.int .u8 0), .d (.int .u8 0), .d (.int .u8 0), .d (.int .u8 0), .d (.int .u8 0), .d (.int .u8 0), .d (.int .u8 0), .d (.int .u8 0), .d (.int .u8 0), .d (.int .u8 0), .d (.int .u8 0)]) := by kernel_rfl
theorem sz193 : szOf Tryz.prog 193 = some 4 := by kernel_rfl
theorem by193 : byOf Tryz.prog 193 = some 40 := by kernel_rfl
theorem ag193 : isAggT Tryz.prog 193 = some true := by kernel_rfl
theorem zr193 : zeroC Tryz.prog 193 = some (.agg [.nil, .nil, .nil, .d (.str [])]) := by kernel_rfl
theorem sz194 : szOf Tryz.prog 194 = some 4 := by kernel_rfl
theorem by194 : byOf Tryz.prog 194 = some 40 := by kernel_rfl
theorem ag194 : isAggT Tryz.prog 194 = some true := by kernel_rfl
theorem zr194 : zeroC Tryz.prog 194 = some (.agg [.nil, .nil, .nil, .d (.str [])]) := by kernel_rfl
theorem sz198 : szOf Tryz.prog 198 = some 1 := by kernel_rfl
theorem by198 : byOf Tryz.prog 198 = some 1 := by kernel_rfl
theorem ag198 : isAggT Tryz.prog 198 = some false := by kernel_rfl
theorem zr198 : zeroC Tryz.prog 198 = some (.w (.d (.int .u8 0))) := by kernel_rfl
theorem sz199 : szOf Tryz.prog 199 = some 1 := by kernel_rfl
theorem by199 : byOf Tryz.prog 199 = some 1 := by kernel_rfl
theorem ag199 : isAggT Tryz.prog 199 = some false := by kernel_rfl
theorem zr199 : zeroC Tryz.prog 199 = some (.w (.d (.int .u8 0))) := by kernel_rfl
theorem sz201 : szOf Tryz.prog 201 = some 1 := by kernel_rfl
theorem by201 : byOf Tryz.prog 201 = some 4 := by kernel_rfl
theorem ag201 : isAggT Tryz.prog 201 = some false := by kernel_rfl
theorem zr201 : zeroC Tryz.prog 201 = some (.w (.d (.int .i32 0))) := by kernel_rfl
theorem sz202 : szOf Tryz.prog 202 = some 1 := by kernel_rfl
theorem by202 : byOf Tryz.prog 202 = some 4 := by kernel_rfl
theorem ag202 : isAggT Tryz.prog 202 = some false := by kernel_rfl
theorem zr202 : zeroC Tryz.prog 202 = some (.w (.d (.int .i32 0))) := by kernel_rfl
theorem sz203 : szOf Tryz.prog 203 = some 11 := by kernel_rfl
theorem by203 : byOf Tryz.prog 203 = some 48 := by kernel_rfl
theorem ag203 : isAggT Tryz.prog 203 = some true := by kernel_rfl
theorem sz204 : szOf Tryz.prog 204 = some 11 := by kernel_rfl
theorem by204 : byOf Tryz.prog 204 = some 48 := by kernel_rfl
theorem ag204 : isAggT Tryz.prog 204 = some true := by kernel_rfl
theorem mixed : Tryz.prog.follows .mixedOrders = true := by kernel_rfl
theorem ownKnob_ : ownKnob Tryz.prog.godebug = none := by kernel_rfl
theorem laid_ : laidOutB Tryz.prog = true := by kernel_rfl
attribute [simp] sz2 by2 ag2 zr2 Tryz.underlying2 sz3 by3 ag3 zr3 Tryz.underlying3 sz4 by4 ag4 zr4 Tryz.underlying4 sz5 by5 ag5 zr5 Tryz.underlying5 sz6 by6 ag6 zr6 Tryz.underlying6 sz7 by7 ag7 zr7 Tryz.underlying7 sz8 by8 ag8 zr8 Tryz.underlying8 sz9 by9 ag9 zr9 Tryz.underlying9 sz10 by10 ag10 zr10 Tryz.underlying10 sz11 by11 ag11 zr11 Tryz.underlying11 sz12 by12 ag12 zr12 Tryz.underlying12 sz13 by13 ag13 zr13 Tryz.underlying13 sz14 by14 ag14 zr14 Tryz.underlying14 sz15 by15 ag15 zr15 Tryz.underlying15 sz16 by16 ag16 zr16 Tryz.underlying16 sz17 by17 ag17 zr17 Tryz.underlying17 sz18 by18 ag18 zr18 Tryz.underlying18 sz19 by19 ag19 zr19 Tryz.underlying19 sz21 by21 ag21 zr21 Tryz.underlying21 sz23 by23 ag23 zr23 Tryz.underlying23 sz24 by24 ag24 zr24 Tryz.underlying24 sz29 by29 ag29 zr29 Tryz.underlying29 sz30 by30 ag30 zr30 Tryz.underlying30 sz31 by31 ag31 zr31 Tryz.underlying31 sz32 by32 ag32 zr32 Tryz.underlying32 sz33 by33 ag33 zr33 Tryz.underlying33 sz34 by34 ag34 zr34 Tryz.underlying34 sz37 by37 ag37 zr37 Tryz.underlying37 sz38 by38 ag38 zr38 Tryz.underlying38 sz46 by46 ag46 zr46 Tryz.underlying46 sz47 by47 ag47 zr47 Tryz.underlying47 sz48 by48 ag48 zr48 Tryz.underlying48 sz59 by59 ag59 zr59 Tryz.underlying59 sz60 by60 ag60 zr60 Tryz.underlying60 sz63 by63 ag63 zr63 Tryz.underlying63 sz64 by64 ag64 zr64 Tryz.underlying64 sz65 by65 ag65 zr65 Tryz.underlying65 sz66 by66 ag66 zr66 Tryz.underlying66 sz67 by67 ag67 zr67 Tryz.underlying67 sz68 by68 ag68 zr68 Tryz.underlying68 sz76 by76 ag76 zr76 Tryz.underlying76 sz77 by77 ag77 zr77 Tryz.underlying77 sz78 by78 ag78 zr78 Tryz.underlying78 sz79 by79 ag79 zr79 Tryz.underlying79 sz80 by80 ag80 zr80 Tryz.underlying80 sz82 by82 ag82 zr82 Tryz.underlying82 sz83 by83 ag83 zr83 Tryz.underlying83 sz91 by91 ag91 zr91 Tryz.underlying91 sz92 by92 ag92 zr92 Tryz.underlying92 sz93 by93 ag93 zr93 Tryz.underlying93 sz114 by114 ag114 zr114 Tryz.underlying114 sz122 by122 ag122 zr122 Tryz.underlying122 sz123 by123 ag123 zr123 Tryz.underlying123 sz124 by124 ag124 zr124 Tryz.underlying124 sz125 by125 ag125 zr125 Tryz.underlying125 sz126 by126 ag126 zr126 Tryz.underlying126 sz127 by127 ag127 zr127 Tryz.underlying127 sz147 by147 ag147 zr147 Tryz.underlying147 sz156 by156 ag156 zr156 Tryz.underlying156 sz164 by164 ag164 zr164 Tryz.underlying164 sz165 by165 ag165 zr165 Tryz.underlying165 sz167 by167 ag167 zr167 Tryz.underlying167 sz168 by168 ag168 zr168 Tryz.underlying168 sz169 by169 ag169 zr169 Tryz.underlying169 sz180 by180 ag180 zr180 Tryz.underlying180 sz181 by181 ag181 zr181 Tryz.underlying181 sz188 by188 ag188 zr188 Tryz.underlying188 sz189 by189 ag189 zr189 Tryz.underlying189 sz190 by190 ag190 zr190 Tryz.underlying190 sz193 by193 ag193 zr193 Tryz.underlying193 sz194 by194 ag194 zr194 Tryz.underlying194 sz198 by198 ag198 zr198 Tryz.underlying198 sz199 by199 ag199 zr199 Tryz.underlying199 sz201 by201 ag201 zr201 Tryz.underlying201 sz202 by202 ag202 zr202 Tryz.underlying202 sz203 by203 ag203 Tryz.underlying203 sz204 by204 ag204 Tryz.underlying204
end Go.Proofs.YtkklkkppedociaaGreatDoor.Ev
