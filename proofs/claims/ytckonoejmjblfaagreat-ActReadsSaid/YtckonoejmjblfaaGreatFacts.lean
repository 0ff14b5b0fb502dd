/- Sizes and zero values of the program's types. -/
import Derived.Test.YtckonoejmjblfaaGreatEvM
import Derived.Test.YtckonoejmjblfaaGreatProg
import Derived.KernelRfl
namespace Go.Proofs.YtckonoejmjblfaaGreat.Ev
open Go
theorem sz2 : szOf Tryz.prog 2 = some 1 := by kernel_rfl
theorem by2 : byOf Tryz.prog 2 = some 8 := by kernel_rfl
theorem ag2 : isAggT Tryz.prog 2 = some false := by kernel_rfl
theorem zr2 : zeroC Tryz.prog 2 = some (.w (.d (.int .i64 0))) := by kernel_rfl
theorem sz3 : szOf Tryz.prog 3 = some 1 := by kernel_rfl
theorem by3 : byOf Tryz.prog 3 = some 8 := by kernel_rfl
theorem ag3 : isAggT Tryz.prog 3 = some false := by kernel_rfl
theorem zr3 : zeroC Tryz.prog 3 = some (.w (.d (.int .i64 0))) := by kernel_rfl
theorem sz4 : szOf Tryz.prog 4 = some 1 := by kernel_rfl
theorem by4 : byOf Tryz.prog 4 = some 1 := by kernel_rfl
theorem ag4 : isAggT Tryz.prog 4 = some false := by kernel_rfl
theorem zr4 : zeroC Tryz.prog 4 = some (.w (.d (.bool false))) := by kernel_rfl
theorem sz5 : szOf Tryz.prog 5 = some 1 := by kernel_rfl
theorem by5 : byOf Tryz.prog 5 = some 1 := by kernel_rfl
theorem ag5 : isAggT Tryz.prog 5 = some false := by kernel_rfl
theorem zr5 : zeroC Tryz.prog 5 = some (.w (.d (.int .u8 0))) := by kernel_rfl
theorem sz6 : szOf Tryz.prog 6 = some 1 := by kernel_rfl
theorem by6 : byOf Tryz.prog 6 = some 1 := by kernel_rfl
theorem ag6 : isAggT Tryz.prog 6 = some false := by kernel_rfl
theorem zr6 : zeroC Tryz.prog 6 = some (.w (.d (.int .u8 0))) := by kernel_rfl
theorem sz7 : szOf Tryz.prog 7 = some 4 := by kernel_rfl
theorem by7 : byOf Tryz.prog 7 = some 24 := by kernel_rfl
theorem ag7 : isAggT Tryz.prog 7 = some true := by kernel_rfl
theorem zr7 : zeroC Tryz.prog 7 = some (.agg [.d (.int .i64 0), .d (.int .i64 0), .d (.bool false), .d (.int .u8 0)]) := by kernel_rfl
theorem sz8 : szOf Tryz.prog 8 = some 4 := by kernel_rfl
theorem by8 : byOf Tryz.prog 8 = some 24 := by kernel_rfl
theorem ag8 : isAggT Tryz.prog 8 = some true := by kernel_rfl
theorem zr8 : zeroC Tryz.prog 8 = some (.agg [.d (.int .i64 0), .d (.int .i64 0), .d (.bool false), .d (.int .u8 0)]) := by kernel_rfl
theorem sz9 : szOf Tryz.prog 9 = some 1 := by kernel_rfl
theorem by9 : byOf Tryz.prog 9 = some 16 := by kernel_rfl
theorem ag9 : isAggT Tryz.prog 9 = some false := by kernel_rfl
theorem zr9 : zeroC Tryz.prog 9 = some (.w (.d (.str []))) := by kernel_rfl
theorem sz10 : szOf Tryz.prog 10 = some 1 := by kernel_rfl
theorem by10 : byOf Tryz.prog 10 = some 16 := by kernel_rfl
theorem ag10 : isAggT Tryz.prog 10 = some false := by kernel_rfl
theorem zr10 : zeroC Tryz.prog 10 = some (.w (.d (.str []))) := by kernel_rfl
theorem sz11 : szOf Tryz.prog 11 = some 1 := by kernel_rfl
theorem by11 : byOf Tryz.prog 11 = some 16 := by kernel_rfl
theorem ag11 : isAggT Tryz.prog 11 = some false := by kernel_rfl
theorem zr11 : zeroC Tryz.prog 11 = some (.w (.d (.str []))) := by kernel_rfl
theorem sz12 : szOf Tryz.prog 12 = some 1 := by kernel_rfl
theorem by12 : byOf Tryz.prog 12 = some 8 := by kernel_rfl
theorem ag12 : isAggT Tryz.prog 12 = some false := by kernel_rfl
theorem zr12 : zeroC Tryz.prog 12 = some (.w (.d (.int .u64 0))) := by kernel_rfl
theorem sz13 : szOf Tryz.prog 13 = some 2 := by kernel_rfl
theorem by13 : byOf Tryz.prog 13 = some 24 := by kernel_rfl
theorem ag13 : isAggT Tryz.prog 13 = some true := by kernel_rfl
theorem zr13 : zeroC Tryz.prog 13 = some (.agg [.d (.str []), .d (.int .u64 0)]) := by kernel_rfl
theorem sz14 : szOf Tryz.prog 14 = some 2 := by kernel_rfl
theorem by14 : byOf Tryz.prog 14 = some 24 := by kernel_rfl
theorem ag14 : isAggT Tryz.prog 14 = some true := by kernel_rfl
theorem zr14 : zeroC Tryz.prog 14 = some (.agg [.d (.str []), .d (.int .u64 0)]) := by kernel_rfl
theorem sz15 : szOf Tryz.prog 15 = some 1 := by kernel_rfl
theorem by15 : byOf Tryz.prog 15 = some 8 := by kernel_rfl
theorem ag15 : isAggT Tryz.prog 15 = some false := by kernel_rfl
theorem zr15 : zeroC Tryz.prog 15 = some (.w (.nil)) := by kernel_rfl
theorem sz16 : szOf Tryz.prog 16 = some 1 := by kernel_rfl
theorem by16 : byOf Tryz.prog 16 = some 8 := by kernel_rfl
theorem ag16 : isAggT Tryz.prog 16 = some false := by kernel_rfl
theorem zr16 : zeroC Tryz.prog 16 = some (.w (.nil)) := by kernel_rfl
theorem sz17 : szOf Tryz.prog 17 = some 1 := by kernel_rfl
theorem by17 : byOf Tryz.prog 17 = some 8 := by kernel_rfl
theorem ag17 : isAggT Tryz.prog 17 = some false := by kernel_rfl
theorem zr17 : zeroC Tryz.prog 17 = some (.w (.nil)) := by kernel_rfl
theorem sz18 : szOf Tryz.prog 18 = some 1 := by kernel_rfl
theorem by18 : byOf Tryz.prog 18 = some 8 := by kernel_rfl
theorem ag18 : isAggT Tryz.prog 18 = some true := by kernel_rfl
theorem zr18 : zeroC Tryz.prog 18 = some (.agg [.nil]) := by kernel_rfl
theorem sz19 : szOf Tryz.prog 19 = some 1 := by kernel_rfl
theorem by19 : byOf Tryz.prog 19 = some 8 := by kernel_rfl
theorem ag19 : isAggT Tryz.prog 19 = some true := by kernel_rfl
theorem zr19 : zeroC Tryz.prog 19 = some (.agg [.nil]) := by kernel_rfl
theorem sz21 : szOf Tryz.prog 21 = some 1 := by kernel_rfl
theorem by21 : byOf Tryz.prog 21 = some 4 := by kernel_rfl
theorem ag21 : isAggT Tryz.prog 21 = some false := by kernel_rfl
theorem zr21 : zeroC Tryz.prog 21 = some (.w (.d (.int .i32 0))) := by kernel_rfl
theorem sz22 : szOf Tryz.prog 22 = some 1 := by kernel_rfl
theorem by22 : byOf Tryz.prog 22 = some 24 := by kernel_rfl
theorem ag22 : isAggT Tryz.prog 22 = some false := by kernel_rfl
theorem zr22 : zeroC Tryz.prog 22 = some (.w (.full [])) := by kernel_rfl
theorem sz24 : szOf Tryz.prog 24 = some 2 := by kernel_rfl
theorem by24 : byOf Tryz.prog 24 = some 16 := by kernel_rfl
theorem ag24 : isAggT Tryz.prog 24 = some true := by kernel_rfl
theorem zr24 : zeroC Tryz.prog 24 = some (.agg [.d (.int .i64 0), .d (.int .i64 0)]) := by kernel_rfl
theorem sz25 : szOf Tryz.prog 25 = some 2 := by kernel_rfl
theorem by25 : byOf Tryz.prog 25 = some 16 := by kernel_rfl
theorem ag25 : isAggT Tryz.prog 25 = some true := by kernel_rfl
theorem zr25 : zeroC Tryz.prog 25 = some (.agg [.d (.int .i64 0), .d (.int .i64 0)]) := by kernel_rfl
theorem sz26 : szOf Tryz.prog 26 = some 4 := by kernel_rfl
theorem by26 : byOf Tryz.prog 26 = some 40 := by kernel_rfl
theorem ag26 : isAggT Tryz.prog 26 = some true := by kernel_rfl
theorem zr26 : zeroC Tryz.prog 26 = some (.agg [.d (.int .i64 0), .d (.str []), .d (.int .i64 0), .d (.int .i64 0)]) := by kernel_rfl
theorem sz27 : szOf Tryz.prog 27 = some 4 := by kernel_rfl
theorem by27 : byOf Tryz.prog 27 = some 40 := by kernel_rfl
theorem ag27 : isAggT Tryz.prog 27 = some true := by kernel_rfl
theorem zr27 : zeroC Tryz.prog 27 = some (.agg [.d (.int .i64 0), .d (.str []), .d (.int .i64 0), .d (.int .i64 0)]) := by kernel_rfl
theorem sz28 : szOf Tryz.prog 28 = some 1 := by kernel_rfl
theorem by28 : byOf Tryz.prog 28 = some 8 := by kernel_rfl
theorem ag28 : isAggT Tryz.prog 28 = some false := by kernel_rfl
theorem zr28 : zeroC Tryz.prog 28 = some (.w (.nil)) := by kernel_rfl
theorem sz30 : szOf Tryz.prog 30 = some 1 := by kernel_rfl
theorem by30 : byOf Tryz.prog 30 = some 24 := by kernel_rfl
theorem ag30 : isAggT Tryz.prog 30 = some false := by kernel_rfl
theorem zr30 : zeroC Tryz.prog 30 = some (.w (.full [])) := by kernel_rfl
theorem sz32 : szOf Tryz.prog 32 = some 1 := by kernel_rfl
theorem by32 : byOf Tryz.prog 32 = some 8 := by kernel_rfl
theorem ag32 : isAggT Tryz.prog 32 = some false := by kernel_rfl
theorem zr32 : zeroC Tryz.prog 32 = some (.w (.d (.int .i64 0))) := by kernel_rfl
theorem sz33 : szOf Tryz.prog 33 = some 6 := by kernel_rfl
theorem by33 : byOf Tryz.prog 33 = some 64 := by kernel_rfl
theorem ag33 : isAggT Tryz.prog 33 = some true := by kernel_rfl
theorem zr33 : zeroC Tryz.prog 33 = some (.agg [.full [], .d (.int .i64 0), .d (.int .i64 0), .d (.int .i64 0), .d (.int .i64 0), .d (.int .i64 0)]) := by kernel_rfl
theorem sz34 : szOf Tryz.prog 34 = some 6 := by kernel_rfl
theorem by34 : byOf Tryz.prog 34 = some 64 := by kernel_rfl
theorem ag34 : isAggT Tryz.prog 34 = some true := by kernel_rfl
theorem zr34 : zeroC Tryz.prog 34 = some (.agg [.full [], .d (.int .i64 0), .d (.int .i64 0), .d (.int .i64 0), .d (.int .i64 0), .d (.int .i64 0)]) := by kernel_rfl
theorem sz43 : szOf Tryz.prog 43 = some 1 := by kernel_rfl
theorem by43 : byOf Tryz.prog 43 = some 24 := by kernel_rfl
theorem ag43 : isAggT Tryz.prog 43 = some false := by kernel_rfl
theorem zr43 : zeroC Tryz.prog 43 = some (.w (.full [])) := by kernel_rfl
theorem sz44 : szOf Tryz.prog 44 = some 3 := by kernel_rfl
theorem by44 : byOf Tryz.prog 44 = some 48 := by kernel_rfl
theorem ag44 : isAggT Tryz.prog 44 = some true := by kernel_rfl
theorem zr44 : zeroC Tryz.prog 44 = some (.agg [.d (.str []), .d (.bool false), .full []]) := by kernel_rfl
theorem sz45 : szOf Tryz.prog 45 = some 3 := by kernel_rfl
theorem by45 : byOf Tryz.prog 45 = some 48 := by kernel_rfl
theorem ag45 : isAggT Tryz.prog 45 = some true := by kernel_rfl
theorem zr45 : zeroC Tryz.prog 45 = some (.agg [.d (.str []), .d (.bool false), .full []]) := by kernel_rfl
theorem sz46 : szOf Tryz.prog 46 = some 3 := by kernel_rfl
theorem by46 : byOf Tryz.prog 46 = some 32 := by kernel_rfl
theorem ag46 : isAggT Tryz.prog 46 = some true := by kernel_rfl
theorem zr46 : zeroC Tryz.prog 46 = some (.agg [.d (.int .i64 0), .d (.int .i64 0), .d (.str [])]) := by kernel_rfl
theorem sz47 : szOf Tryz.prog 47 = some 3 := by kernel_rfl
theorem by47 : byOf Tryz.prog 47 = some 32 := by kernel_rfl
theorem ag47 : isAggT Tryz.prog 47 = some true := by kernel_rfl
theorem zr47 : zeroC Tryz.prog 47 = some (.agg [.d (.int .i64 0), .d (.int .i64 0), .d (.str [])]) := by kernel_rfl
theorem sz48 : szOf Tryz.prog 48 = some 4 := by kernel_rfl
theorem by48 : byOf Tryz.prog 48 = some 40 := by kernel_rfl
theorem ag48 : isAggT Tryz.prog 48 = some true := by kernel_rfl
theorem zr48 : zeroC Tryz.prog 48 = some (.agg [.d (.str []), .d (.int .i64 0), .d (.int .i64 0), .d (.int .i64 0)]) := by kernel_rfl
theorem sz49 : szOf Tryz.prog 49 = some 4 := by kernel_rfl
theorem by49 : byOf Tryz.prog 49 = some 40 := by kernel_rfl
theorem ag49 : isAggT Tryz.prog 49 = some true := by kernel_rfl
theorem zr49 : zeroC Tryz.prog 49 = some (.agg [.d (.str []), .d (.int .i64 0), .d (.int .i64 0), .d (.int .i64 0)]) := by kernel_rfl
theorem sz50 : szOf Tryz.prog 50 = some 1 := by kernel_rfl
theorem by50 : byOf Tryz.prog 50 = some 24 := by kernel_rfl
theorem ag50 : isAggT Tryz.prog 50 = some false := by kernel_rfl
theorem zr50 : zeroC Tryz.prog 50 = some (.w (.full [])) := by kernel_rfl
theorem sz51 : szOf Tryz.prog 51 = some 4 := by kernel_rfl
theorem by51 : byOf Tryz.prog 51 = some 32 := by kernel_rfl
theorem ag51 : isAggT Tryz.prog 51 = some true := by kernel_rfl
theorem zr51 : zeroC Tryz.prog 51 = some (.agg [.d (.int .i64 0), .d (.int .i64 0), .d (.int .i64 0), .d (.int .i64 0)]) := by kernel_rfl
theorem sz52 : szOf Tryz.prog 52 = some 1 := by kernel_rfl
theorem by52 : byOf Tryz.prog 52 = some 24 := by kernel_rfl
theorem ag52 : isAggT Tryz.prog 52 = some false := by kernel_rfl
theorem zr52 : zeroC Tryz.prog 52 = some (.w (.full [])) := by kernel_rfl
theorem sz53 : szOf Tryz.prog 53 = some 6 := by kernel_rfl
theorem by53 : byOf Tryz.prog 53 = some 80 := by kernel_rfl
theorem ag53 : isAggT Tryz.prog 53 = some true := by kernel_rfl
theorem zr53 : zeroC Tryz.prog 53 = some (.agg [.full [], .d (.int .i64 0), .d (.int .i64 0), .d (.int .i64 0), .d (.int .i64 0), .full []]) := by kernel_rfl
theorem sz54 : szOf Tryz.prog 54 = some 6 := by kernel_rfl
theorem by54 : byOf Tryz.prog 54 = some 80 := by kernel_rfl
theorem ag54 : isAggT Tryz.prog 54 = some true := by kernel_rfl
theorem zr54 : zeroC Tryz.prog 54 = some (.agg [.full [], .d (.int .i64 0), .d (.int .i64 0), .d (.int .i64 0), .d (.int .i64 0), .full []]) := by kernel_rfl
theorem sz55 : szOf Tryz.prog 55 = some 1 := by kernel_rfl
theorem by55 : byOf Tryz.prog 55 = some 24 := by kernel_rfl
theorem ag55 : isAggT Tryz.prog 55 = some false := by kernel_rfl
theorem zr55 : zeroC Tryz.prog 55 = some (.w (.full [])) := by kernel_rfl
theorem sz61 : szOf Tryz.prog 61 = some 3 := by kernel_rfl
theorem by61 : byOf Tryz.prog 61 = some 24 := by kernel_rfl
theorem ag61 : isAggT Tryz.prog 61 = some true := by kernel_rfl
theorem zr61 : zeroC Tryz.prog 61 = some (.agg [.d (.int .i64 0), .d (.int .i64 0), .d (.int .i64 0)]) := by kernel_rfl
theorem sz62 : szOf Tryz.prog 62 = some 3 := by kernel_rfl
theorem by62 : byOf Tryz.prog 62 = some 24 := by kernel_rfl
theorem ag62 : isAggT Tryz.prog 62 = some true := by kernel_rfl
theorem zr62 : zeroC Tryz.prog 62 = some (.agg [.d (.int .i64 0), .d (.int .i64 0), .d (.int .i64 0)]) := by kernel_rfl
theorem sz63 : szOf Tryz.prog 63 = some 6 := by kernel_rfl
theorem by63 : byOf Tryz.prog 63 = some 64 := by kernel_rfl
theorem ag63 : isAggT Tryz.prog 63 = some true := by kernel_rfl
theorem zr63 : zeroC Tryz.prog 63 = some (.agg [.d (.bool false), .full [], .d (.int .i64 0), .d (.int .i64 0), .d (.int .i64 0), .d (.int .i64 0)]) := by kernel_rfl
theorem sz64 : szOf Tryz.prog 64 = some 6 := by kernel_rfl
theorem by64 : byOf Tryz.prog 64 = some 64 := by kernel_rfl
theorem ag64 : isAggT Tryz.prog 64 = some true := by kernel_rfl
theorem zr64 : zeroC Tryz.prog 64 = some (.agg [.d (.bool false), .full [], .d (.int .i64 0), .d (.int .i64 0), .d (.int .i64 0), .d (.int .i64 0)]) := by kernel_rfl
theorem sz98 : szOf Tryz.prog 98 = some 1 := by kernel_rfl
theorem by98 : byOf Tryz.prog 98 = some 8 := by kernel_rfl
theorem ag98 : isAggT Tryz.prog 98 = some false := by kernel_rfl
theorem zr98 : zeroC Tryz.prog 98 = some (.w (.d (.int .u64 0))) := by kernel_rfl
theorem sz105 : szOf Tryz.prog 105 = some 1 := by kernel_rfl
theorem by105 : byOf Tryz.prog 105 = some 8 := by kernel_rfl
theorem ag105 : isAggT Tryz.prog 105 = some false := by kernel_rfl
theorem zr105 : zeroC Tryz.prog 105 = some (.w (.d (.int .u64 0))) := by kernel_rfl
theorem sz107 : szOf Tryz.prog 107 = some 1 := by kernel_rfl
theorem by107 : byOf Tryz.prog 107 = some 24 := by kernel_rfl
theorem ag107 : isAggT Tryz.prog 107 = some false := by kernel_rfl
theorem zr107 : zeroC Tryz.prog 107 = some (.w (.full [])) := by kernel_rfl
theorem sz110 : szOf Tryz.prog 110 = some 1 := by kernel_rfl
theorem by110 : byOf Tryz.prog 110 = some 8 := by kernel_rfl
theorem ag110 : isAggT Tryz.prog 110 = some false := by kernel_rfl
theorem zr110 : zeroC Tryz.prog 110 = some (.w (.nil)) := by kernel_rfl
theorem sz111 : szOf Tryz.prog 111 = some 1 := by kernel_rfl
theorem by111 : byOf Tryz.prog 111 = some 24 := by kernel_rfl
theorem ag111 : isAggT Tryz.prog 111 = some false := by kernel_rfl
theorem zr111 : zeroC Tryz.prog 111 = some (.w (.full [])) := by kernel_rfl
theorem sz112 : szOf Tryz.prog 112 = some 2 := by kernel_rfl
theorem by112 : byOf Tryz.prog 112 = some 32 := by kernel_rfl
theorem ag112 : isAggT Tryz.prog 112 = some true := by kernel_rfl
theorem zr112 : zeroC Tryz.prog 112 = some (.agg [.nil, .full []]) := by kernel_rfl
theorem sz113 : szOf Tryz.prog 113 = some 2 := by kernel_rfl
theorem by113 : byOf Tryz.prog 113 = some 32 := by kernel_rfl
theorem ag113 : isAggT Tryz.prog 113 = some true := by kernel_rfl
theorem zr113 : zeroC Tryz.prog 113 = some (.agg [.nil, .full []]) := by kernel_rfl
theorem sz119 : szOf Tryz.prog 119 = some 1 := by kernel_rfl
theorem by119 : byOf Tryz.prog 119 = some 8 := by kernel_rfl
theorem ag119 : isAggT Tryz.prog 119 = some true := by kernel_rfl
theorem zr119 : zeroC Tryz.prog 119 = some (.agg [.nil]) := by kernel_rfl
theorem sz120 : szOf Tryz.prog 120 = some 1 := by kernel_rfl
theorem by120 : byOf Tryz.prog 120 = some 8 := by kernel_rfl
theorem ag120 : isAggT Tryz.prog 120 = some true := by kernel_rfl
theorem zr120 : zeroC Tryz.prog 120 = some (.agg [.nil]) := by kernel_rfl
theorem sz133 : szOf Tryz.prog 133 = some 1 := by kernel_rfl
theorem by133 : byOf Tryz.prog 133 = some 24 := by kernel_rfl
theorem ag133 : isAggT Tryz.prog 133 = some false := by kernel_rfl
theorem zr133 : zeroC Tryz.prog 133 = some (.w (.full [])) := by kernel_rfl
theorem sz142 : szOf Tryz.prog 142 = some 1 := by kernel_rfl
theorem by142 : byOf Tryz.prog 142 = some 8 := by kernel_rfl
theorem ag142 : isAggT Tryz.prog 142 = some false := by kernel_rfl
theorem zr142 : zeroC Tryz.prog 142 = some (.w (.d (.int .i64 0))) := by kernel_rfl
theorem sz150 : szOf Tryz.prog 150 = some 1 := by kernel_rfl
theorem by150 : byOf Tryz.prog 150 = some 4 := by kernel_rfl
theorem ag150 : isAggT Tryz.prog 150 = some false := by kernel_rfl
theorem zr150 : zeroC Tryz.prog 150 = some (.w (.d (.int .u32 0))) := by kernel_rfl
theorem sz157 : szOf Tryz.prog 157 = some 1 := by kernel_rfl
theorem by157 : byOf Tryz.prog 157 = some 8 := by kernel_rfl
theorem ag157 : isAggT Tryz.prog 157 = some false := by kernel_rfl
theorem zr157 : zeroC Tryz.prog 157 = some (.w (.nil)) := by kernel_rfl
theorem sz168 : szOf Tryz.prog 168 = some 1 := by kernel_rfl
theorem by168 : byOf Tryz.prog 168 = some 8 := by kernel_rfl
theorem ag168 : isAggT Tryz.prog 168 = some false := by kernel_rfl
theorem zr168 : zeroC Tryz.prog 168 = some (.w (.nil)) := by kernel_rfl
theorem sz170 : szOf Tryz.prog 170 = some 1 := by kernel_rfl
theorem by170 : byOf Tryz.prog 170 = some 8 := by kernel_rfl
theorem ag170 : isAggT Tryz.prog 170 = some false := by kernel_rfl
theorem zr170 : zeroC Tryz.prog 170 = some (.w (.d (.int .u64 0))) := by kernel_rfl
theorem sz174 : szOf Tryz.prog 174 = some 1 := by kernel_rfl
theorem by174 : byOf Tryz.prog 174 = some 8 := by kernel_rfl
theorem ag174 : isAggT Tryz.prog 174 = some false := by kernel_rfl
theorem zr174 : zeroC Tryz.prog 174 = some (.w (.nil)) := by kernel_rfl
theorem sz179 : szOf Tryz.prog 179 = some 21 := by kernel_rfl
theorem by179 : byOf Tryz.prog 179 = some 336 := by kernel_rfl
theorem ag179 : isAggT Tryz.prog 179 = some true := by kernel_rfl
theorem zr179 : zeroC Tryz.prog 179 = some (.agg [.d (.str []), .d (.str []), .d (.str []), .d (.str []), .d (.str []), .d (.str []), .d (.str []), .d (.str []), .d (.str []), .d (.str []), .d (.str []), .d (.str []), .d (.str []), .d (.str []), .d (.str []), .d (.str []), .d (.str []), .d (.str []), .d (.str []), .d (.str []), .d (.str [])]) := by kernel_rfl
theorem sz184 : szOf Tryz.prog 184 = some 1 := by kernel_rfl
theorem by184 : byOf Tryz.prog 184 = some 24 := by kernel_rfl
theorem ag184 : isAggT Tryz.prog 184 = some false := by kernel_rfl
theorem zr184 : zeroC Tryz.prog 184 = some (.w (.full [])) := by kernel_rfl
theorem sz189 : szOf Tryz.prog 189 = some 1 := by kernel_rfl
theorem by189 : byOf Tryz.prog 189 = some 8 := by kernel_rfl
theorem ag189 : isAggT Tryz.prog 189 = some false := by kernel_rfl
theorem zr189 : zeroC Tryz.prog 189 = some (.w (.nil)) := by kernel_rfl
theorem sz192 : szOf Tryz.prog 192 = some 20 := by kernel_rfl
theorem by192 : byOf Tryz.prog 192 = some 20 := by kernel_rfl
theorem ag192 : isAggT Tryz.prog 192 = some true := by kernel_rfl
theorem zr192 : zeroC Tryz.prog 192 = some (.agg [.d (.int .u8 0), .d (.int .u8 0), .d (.int .u8 0), .d (.int .u8 0), .d (.int .u8 0), .d (.int .u8 0), .d (.int .u8 0), .d (.int .u8 0), .d (.int .u8 0), .d (.int .u8 0), .d (.int .u8 0), .d (.int .u8 0), .d (.int .u8 0), .d (.int .u8 0), .d (.int .u8 0), .d (.int .u8 0), .d (.int .u8 0), .d (.int .u8 0), .d (.int .u8 0), .d (.int .u8 0)]) := by kernel_rfl
theorem sz198 : szOf Tryz.prog 198 = some 4 := by kernel_rfl
theorem by198 : byOf Tryz.prog 198 = some 40 := by kernel_rfl
theorem ag198 : isAggT Tryz.prog 198 = some true := by kernel_rfl
theorem zr198 : zeroC Tryz.prog 198 = some (.agg [.nil, .nil, .nil, .d (.str [])]) := by kernel_rfl
theorem sz199 : szOf Tryz.prog 199 = some 4 := by kernel_rfl
theorem by199 : byOf Tryz.prog 199 = some 40 := by kernel_rfl
theorem ag199 : isAggT Tryz.prog 199 = some true := by kernel_rfl
theorem zr199 : zeroC Tryz.prog 199 = some (.agg [.nil, .nil, .nil, .d (.str [])]) := by kernel_rfl
theorem sz203 : szOf Tryz.prog 203 = some 1 := by kernel_rfl
theorem by203 : byOf Tryz.prog 203 = some 1 := by kernel_rfl
theorem ag203 : isAggT Tryz.prog 203 = some false := by kernel_rfl
theorem zr203 : zeroC Tryz.prog 203 = some (.w (.d (.int .u8 0))) := by kernel_rfl
theorem sz204 : szOf Tryz.prog 204 = some 1 := by kernel_rfl
theorem by204 : byOf Tryz.prog 204 = some 1 := by kernel_rfl
theorem ag204 : isAggT Tryz.prog 204 = some false := by kernel_rfl
theorem zr204 : zeroC Tryz.prog 204 = some (.w (.d (.int .u8 0))) := by kernel_rfl
theorem sz206 : szOf Tryz.prog 206 = some 1 := by kernel_rfl
theorem by206 : byOf Tryz.prog 206 = some 4 := by kernel_rfl
theorem ag206 : isAggT Tryz.prog 206 = some false := by kernel_rfl
theorem zr206 : zeroC Tryz.prog 206 = some (.w (.d (.int .i32 0))) := by kernel_rfl
theorem sz207 : szOf Tryz.prog 207 = some 1 := by kernel_rfl
theorem by207 : byOf Tryz.prog 207 = some 4 := by kernel_rfl
theorem ag207 : isAggT Tryz.prog 207 = some false := by kernel_rfl
theorem zr207 : zeroC Tryz.prog 207 = some (.w (.d (.int .i32 0))) := by kernel_rfl
theorem sz208 : szOf Tryz.prog 208 = some 11 := by kernel_rfl
theorem by208 : byOf Tryz.prog 208 = some 48 := by kernel_rfl
theorem ag208 : isAggT Tryz.prog 208 = some true := by kernel_rfl
theorem sz209 : szOf Tryz.prog 209 = some 11 := by kernel_rfl
theorem by209 : byOf Tryz.prog 209 = some 48 := by kernel_rfl
theorem ag209 : isAggT Tryz.prog 209 = some true := by kernel_rfl
theorem mixed : Tryz.prog.follows .mixedOrders = true := by kernel_rfl
theorem ownKnob_ : ownKnob Tryz.prog.godebug = none := by kernel_rfl
theorem laid_ : laidOutB Tryz.prog = true := by kernel_rfl
attribute [simp] sz2 by2 ag2 zr2 Tryz.underlying2 sz3 by3 ag3 zr3 Tryz.underlying3 sz4 by4 ag4 zr4 Tryz.underlying4 sz5 by5 ag5 zr5 Tryz.underlying5 sz6 by6 ag6 zr6 Tryz.underlying6 sz7 by7 ag7 zr7 Tryz.underlying7 sz8 by8 ag8 zr8 Tryz.underlying8 sz9 by9 ag9 zr9 Tryz.underlying9 sz10 by10 ag10 zr10 Tryz.underlying10 sz11 by11 ag11 zr11 Tryz.underlying11 sz12 by12 ag12 zr12 Tryz.underlying12 sz13 by13 ag13 zr13 Tryz.underlying13 sz14 by14 ag14 zr14 Tryz.underlying14 sz15 by15 ag15 zr15 Tryz.underlying15 sz16 by16 ag16 zr16 Tryz.underlying16 sz17 by17 ag17 zr17 Tryz.underlying17 sz18 by18 ag18 zr18 Tryz.underlying18 sz19 by19 ag19 zr19 Tryz.underlying19 sz21 by21 ag21 zr21 Tryz.underlying21 sz22 by22 ag22 zr22 Tryz.underlying22 sz24 by24 ag24 zr24 Tryz.underlying24 sz25 by25 ag25 zr25 Tryz.underlying25 sz26 by26 ag26 zr26 Tryz.underlying26 sz27 by27 ag27 zr27 Tryz.underlying27 sz28 by28 ag28 zr28 Tryz.underlying28 sz30 by30 ag30 zr30 Tryz.underlying30 sz32 by32 ag32 zr32 Tryz.underlying32 sz33 by33 ag33 zr33 Tryz.underlying33 sz34 by34 ag34 zr34 Tryz.underlying34 sz43 by43 ag43 zr43 Tryz.underlying43 sz44 by44 ag44 zr44 Tryz.underlying44 sz45 by45 ag45 zr45 Tryz.underlying45 sz46 by46 ag46 zr46 Tryz.underlying46 sz47 by47 ag47 zr47 Tryz.underlying47 sz48 by48 ag48 zr48 Tryz.underlying48 sz49 by49 ag49 zr49 Tryz.underlying49 sz50 by50 ag50 zr50 Tryz.underlying50 sz51 by51 ag51 zr51 Tryz.underlying51 sz52 by52 ag52 zr52 Tryz.underlying52 sz53 by53 ag53 zr53 Tryz.underlying53 sz54 by54 ag54 zr54 Tryz.underlying54 sz55 by55 ag55 zr55 Tryz.underlying55 sz61 by61 ag61 zr61 Tryz.underlying61 sz62 by62 ag62 zr62 Tryz.underlying62 sz63 by63 ag63 zr63 Tryz.underlying63 sz64 by64 ag64 zr64 Tryz.underlying64 sz98 by98 ag98 zr98 Tryz.underlying98 sz105 by105 ag105 zr105 Tryz.underlying105 sz107 by107 ag107 zr107 Tryz.underlying107 sz110 by110 ag110 zr110 Tryz.underlying110 sz111 by111 ag111 zr111 Tryz.underlying111 sz112 by112 ag112 zr112 Tryz.underlying112 sz113 by113 ag113 zr113 Tryz.underlying113 sz119 by119 ag119 zr119 Tryz.underlying119 sz120 by120 ag120 zr120 Tryz.underlying120 sz133 by133 ag133 zr133 Tryz.underlying133 sz142 by142 ag142 zr142 Tryz.underlying142 sz150 by150 ag150 zr150 Tryz.underlying150 sz157 by157 ag157 zr157 Tryz.underlying157 sz168 by168 ag168 zr168 Tryz.underlying168 sz170 by170 ag170 zr170 Tryz.underlying170 sz174 by174 ag174 zr174 Tryz.underlying174 sz179 by179 ag179 zr179 Tryz.underlying179 sz184 by184 ag184 zr184 Tryz.underlying184 sz189 by189 ag189 zr189 Tryz.underlying189 sz192 by192 ag192 zr192 Tryz.underlying192 sz198 by198 ag198 zr198 Tryz.underlying198 sz199 by199 ag199 zr199 Tryz.underlying199 sz203 by203 ag203 zr203 Tryz.underlying203 sz204 by204 ag204 zr204 Tryz.underlying204 sz206 by206 ag206 zr206 Tryz.underlying206 sz207 by207 ag207 zr207 Tryz.underlying207 sz208 by208 ag208 Tryz.underlying208 sz209 by209 ag209 Tryz.underlying209
end Go.Proofs.YtckonoejmjblfaaGreat.Ev
