/- Sizes and zero values of the program's types. -/
import Derived.Test.YtckonoejmjblfaaGreatDoorPkEvLM
import Derived.Test.YtckonoejmjblfaaGreatDoorProg
import Derived.KernelRfl
namespace Go.Proofs.YtckonoejmjblfaaGreatDoor.Ev
open Go
theorem sz2 : szOf Tryz.prog 2 = some 1 := by kernel_rfl
theorem by2 : byOf Tryz.prog 2 = some 8 := by kernel_rfl
theorem ag2 : isAggT Tryz.prog 2 = some false := by kernel_rfl
theorem zr2 : zeroC Tryz.prog 2 = some (.w (.d (.int .i64 0))) := by kernel_rfl
theorem sz3 : szOf Tryz.prog 3 = some 1 := by kernel_rfl
theorem by3 : byOf Tryz.prog 3 = some 8 := by kernel_rfl
theorem ag3 : isAggT Tryz.prog 3 = some false := by kernel_rfl
theorem zr3 : zeroC Tryz.prog 3 = some (.w (.d (.int .i64 0))) := by kernel_rfl
theorem sz4 : szOf Tryz.prog 4 = some 1 := by kernel_rfl
theorem by4 : byOf Tryz.prog 4 = some 1 := by kernel_rfl
theorem ag4 : isAggT Tryz.prog 4 = some false := by kernel_rfl
theorem zr4 : zeroC Tryz.prog 4 = some (.w (.d (.bool false))) := by kernel_rfl
theorem sz5 : szOf Tryz.prog 5 = some 1 := by kernel_rfl
theorem by5 : byOf Tryz.prog 5 = some 1 := by kernel_rfl
theorem ag5 : isAggT Tryz.prog 5 = some false := by kernel_rfl
theorem zr5 : zeroC Tryz.prog 5 = some (.w (.d (.int .u8 0))) := by kernel_rfl
theorem sz6 : szOf Tryz.prog 6 = some 1 := by kernel_rfl
theorem by6 : byOf Tryz.prog 6 = some 1 := by kernel_rfl
theorem ag6 : isAggT Tryz.prog 6 = some false := by kernel_rfl
theorem zr6 : zeroC Tryz.prog 6 = some (.w (.d (.int .u8 0))) := by kernel_rfl
theorem sz7 : szOf Tryz.prog 7 = some 4 := by kernel_rfl
theorem by7 : byOf Tryz.prog 7 = some 24 := by kernel_rfl
theorem ag7 : isAggT Tryz.prog 7 = some true := by kernel_rfl
theorem zr7 : zeroC Tryz.prog 7 = some (.agg [.d (.int .i64 0), .d (.int .i64 0), .d (.bool false), .d (.int .u8 0)]) := by kernel_rfl
theorem sz8 : szOf Tryz.prog 8 = some 4 := by kernel_rfl
theorem by8 : byOf Tryz.prog 8 = some 24 := by kernel_rfl
theorem ag8 : isAggT Tryz.prog 8 = some true := by kernel_rfl
theorem zr8 : zeroC Tryz.prog 8 = some (.agg [.d (.int .i64 0), .d (.int .i64 0), .d (.bool false), .d (.int .u8 0)]) := by kernel_rfl
theorem sz9 : szOf Tryz.prog 9 = some 1 := by kernel_rfl
theorem by9 : byOf Tryz.prog 9 = some 16 := by kernel_rfl
theorem ag9 : isAggT Tryz.prog 9 = some false := by kernel_rfl
theorem zr9 : zeroC Tryz.prog 9 = some (.w (.d (.str []))) := by kernel_rfl
theorem sz10 : szOf Tryz.prog 10 = some 1 := by kernel_rfl
theorem by10 : byOf Tryz.prog 10 = some 16 := by kernel_rfl
theorem ag10 : isAggT Tryz.prog 10 = some false := by kernel_rfl
theorem zr10 : zeroC Tryz.prog 10 = some (.w (.d (.str []))) := by kernel_rfl
theorem sz11 : szOf Tryz.prog 11 = some 1 := by kernel_rfl
theorem by11 : byOf Tryz.prog 11 = some 16 := by kernel_rfl
theorem ag11 : isAggT Tryz.prog 11 = some false := by kernel_rfl
theorem zr11 : zeroC Tryz.prog 11 = some (.w (.d (.str []))) := by kernel_rfl
theorem sz12 : szOf Tryz.prog 12 = some 1 := by kernel_rfl
theorem by12 : byOf Tryz.prog 12 = some 8 := by kernel_rfl
theorem ag12 : isAggT Tryz.prog 12 = some false := by kernel_rfl
theorem zr12 : zeroC Tryz.prog 12 = some (.w (.d (.int .u64 0))) := by kernel_rfl
theorem sz13 : szOf Tryz.prog 13 = some 2 := by kernel_rfl
theorem by13 : byOf Tryz.prog 13 = some 24 := by kernel_rfl
theorem ag13 : isAggT Tryz.prog 13 = some true := by kernel_rfl
theorem zr13 : zeroC Tryz.prog 13 = some (.agg [.d (.str []), .d (.int .u64 0)]) := by kernel_rfl
theorem sz14 : szOf Tryz.prog 14 = some 2 := by kernel_rfl
theorem by14 : byOf Tryz.prog 14 = some 24 := by kernel_rfl
theorem ag14 : isAggT Tryz.prog 14 = some true := by kernel_rfl
theorem zr14 : zeroC Tryz.prog 14 = some (.agg [.d (.str []), .d (.int .u64 0)]) := by kernel_rfl
theorem sz15 : szOf Tryz.prog 15 = some 1 := by kernel_rfl
theorem by15 : byOf Tryz.prog 15 = some 8 := by kernel_rfl
theorem ag15 : isAggT Tryz.prog 15 = some false := by kernel_rfl
theorem zr15 : zeroC Tryz.prog 15 = some (.w (.nil)) := by kernel_rfl
theorem sz16 : szOf Tryz.prog 16 = some 1 := by kernel_rfl
theorem by16 : byOf Tryz.prog 16 = some 8 := by kernel_rfl
theorem ag16 : isAggT Tryz.prog 16 = some false := by kernel_rfl
theorem zr16 : zeroC Tryz.prog 16 = some (.w (.nil)) := by kernel_rfl
theorem sz17 : szOf Tryz.prog 17 = some 1 := by kernel_rfl
theorem by17 : byOf Tryz.prog 17 = some 8 := by kernel_rfl
theorem ag17 : isAggT Tryz.prog 17 = some false := by kernel_rfl
theorem zr17 : zeroC Tryz.prog 17 = some (.w (.nil)) := by kernel_rfl
theorem sz18 : szOf Tryz.prog 18 = some 1 := by kernel_rfl
theorem by18 : byOf Tryz.prog 18 = some 8 := by kernel_rfl
theorem ag18 : isAggT Tryz.prog 18 = some true := by kernel_rfl
theorem zr18 : zeroC Tryz.prog 18 = some (.agg [.nil]) := by kernel_rfl
theorem sz19 : szOf Tryz.prog 19 = some 1 := by kernel_rfl
theorem by19 : byOf Tryz.prog 19 = some 8 := by kernel_rfl
theorem ag19 : isAggT Tryz.prog 19 = some true := by kernel_rfl
theorem zr19 : zeroC Tryz.prog 19 = some (.agg [.nil]) := by kernel_rfl
theorem sz21 : szOf Tryz.prog 21 = some 1 := by kernel_rfl
theorem by21 : byOf Tryz.prog 21 = some 4 := by kernel_rfl
theorem ag21 : isAggT Tryz.prog 21 = some false := by kernel_rfl
theorem zr21 : zeroC Tryz.prog 21 = some (.w (.d (.int .i32 0))) := by kernel_rfl
theorem sz22 : szOf Tryz.prog 22 = some 1 := by kernel_rfl
theorem by22 : byOf Tryz.prog 22 = some 24 := by kernel_rfl
theorem ag22 : isAggT Tryz.prog 22 = some false := by kernel_rfl
theorem zr22 : zeroC Tryz.prog 22 = some (.w (.full [])) := by kernel_rfl
theorem sz23 : szOf Tryz.prog 23 = some 1 := by kernel_rfl
theorem by23 : byOf Tryz.prog 23 = some 24 := by kernel_rfl
theorem ag23 : isAggT Tryz.prog 23 = some false := by kernel_rfl
theorem zr23 : zeroC Tryz.prog 23 = some (.w (.full [])) := by kernel_rfl
theorem sz24 : szOf Tryz.prog 24 = some 1 := by kernel_rfl
theorem by24 : byOf Tryz.prog 24 = some 24 := by kernel_rfl
theorem ag24 : isAggT Tryz.prog 24 = some false := by kernel_rfl
theorem zr24 : zeroC Tryz.prog 24 = some (.w (.full [])) := by kernel_rfl
theorem sz25 : szOf Tryz.prog 25 = some 4 := by kernel_rfl
theorem by25 : byOf Tryz.prog 25 = some 88 := by kernel_rfl
theorem ag25 : isAggT Tryz.prog 25 = some true := by kernel_rfl
theorem zr25 : zeroC Tryz.prog 25 = some (.agg [.d (.str []), .full [], .full [], .full []]) := by kernel_rfl
theorem sz26 : szOf Tryz.prog 26 = some 4 := by kernel_rfl
theorem by26 : byOf Tryz.prog 26 = some 88 := by kernel_rfl
theorem ag26 : isAggT Tryz.prog 26 = some true := by kernel_rfl
theorem zr26 : zeroC Tryz.prog 26 = some (.agg [.d (.str []), .full [], .full [], .full []]) := by kernel_rfl
theorem sz29 : szOf Tryz.prog 29 = some 1 := by kernel_rfl
theorem by29 : byOf Tryz.prog 29 = some 8 := by kernel_rfl
theorem ag29 : isAggT Tryz.prog 29 = some false := by kernel_rfl
theorem zr29 : zeroC Tryz.prog 29 = some (.w (.d (.int .i64 0))) := by kernel_rfl
theorem sz33 : szOf Tryz.prog 33 = some 2 := by kernel_rfl
theorem by33 : byOf Tryz.prog 33 = some 16 := by kernel_rfl
theorem ag33 : isAggT Tryz.prog 33 = some true := by kernel_rfl
theorem zr33 : zeroC Tryz.prog 33 = some (.agg [.d (.int .i64 0), .d (.int .i64 0)]) := by kernel_rfl
theorem sz34 : szOf Tryz.prog 34 = some 2 := by kernel_rfl
theorem by34 : byOf Tryz.prog 34 = some 16 := by kernel_rfl
theorem ag34 : isAggT Tryz.prog 34 = some true := by kernel_rfl
theorem zr34 : zeroC Tryz.prog 34 = some (.agg [.d (.int .i64 0), .d (.int .i64 0)]) := by kernel_rfl
theorem sz39 : szOf Tryz.prog 39 = some 1 := by kernel_rfl
theorem by39 : byOf Tryz.prog 39 = some 24 := by kernel_rfl
theorem ag39 : isAggT Tryz.prog 39 = some false := by kernel_rfl
theorem zr39 : zeroC Tryz.prog 39 = some (.w (.full [])) := by kernel_rfl
theorem sz40 : szOf Tryz.prog 40 = some 1 := by kernel_rfl
theorem by40 : byOf Tryz.prog 40 = some 24 := by kernel_rfl
theorem ag40 : isAggT Tryz.prog 40 = some false := by kernel_rfl
theorem zr40 : zeroC Tryz.prog 40 = some (.w (.full [])) := by kernel_rfl
theorem sz41 : szOf Tryz.prog 41 = some 6 := by kernel_rfl
theorem by41 : byOf Tryz.prog 41 = some 104 := by kernel_rfl
theorem ag41 : isAggT Tryz.prog 41 = some true := by kernel_rfl
theorem zr41 : zeroC Tryz.prog 41 = some (.agg [.d (.str []), .d (.int .i64 0), .d (.int .i64 0), .full [], .full [], .full []]) := by kernel_rfl
theorem sz42 : szOf Tryz.prog 42 = some 6 := by kernel_rfl
theorem by42 : byOf Tryz.prog 42 = some 104 := by kernel_rfl
theorem ag42 : isAggT Tryz.prog 42 = some true := by kernel_rfl
theorem zr42 : zeroC Tryz.prog 42 = some (.agg [.d (.str []), .d (.int .i64 0), .d (.int .i64 0), .full [], .full [], .full []]) := by kernel_rfl
theorem sz43 : szOf Tryz.prog 43 = some 3 := by kernel_rfl
theorem by43 : byOf Tryz.prog 43 = some 32 := by kernel_rfl
theorem ag43 : isAggT Tryz.prog 43 = some true := by kernel_rfl
theorem zr43 : zeroC Tryz.prog 43 = some (.agg [.d (.int .i64 0), .d (.int .i64 0), .d (.str [])]) := by kernel_rfl
theorem sz44 : szOf Tryz.prog 44 = some 3 := by kernel_rfl
theorem by44 : byOf Tryz.prog 44 = some 32 := by kernel_rfl
theorem ag44 : isAggT Tryz.prog 44 = some true := by kernel_rfl
theorem zr44 : zeroC Tryz.prog 44 = some (.agg [.d (.int .i64 0), .d (.int .i64 0), .d (.str [])]) := by kernel_rfl
theorem sz45 : szOf Tryz.prog 45 = some 1 := by kernel_rfl
theorem by45 : byOf Tryz.prog 45 = some 24 := by kernel_rfl
theorem ag45 : isAggT Tryz.prog 45 = some false := by kernel_rfl
theorem zr45 : zeroC Tryz.prog 45 = some (.w (.full [])) := by kernel_rfl
theorem sz46 : szOf Tryz.prog 46 = some 3 := by kernel_rfl
theorem by46 : byOf Tryz.prog 46 = some 48 := by kernel_rfl
theorem ag46 : isAggT Tryz.prog 46 = some true := by kernel_rfl
theorem zr46 : zeroC Tryz.prog 46 = some (.agg [.d (.str []), .d (.bool false), .full []]) := by kernel_rfl
theorem sz47 : szOf Tryz.prog 47 = some 3 := by kernel_rfl
theorem by47 : byOf Tryz.prog 47 = some 48 := by kernel_rfl
theorem ag47 : isAggT Tryz.prog 47 = some true := by kernel_rfl
theorem zr47 : zeroC Tryz.prog 47 = some (.agg [.d (.str []), .d (.bool false), .full []]) := by kernel_rfl
theorem sz48 : szOf Tryz.prog 48 = some 4 := by kernel_rfl
theorem by48 : byOf Tryz.prog 48 = some 80 := by kernel_rfl
theorem ag48 : isAggT Tryz.prog 48 = some true := by kernel_rfl
theorem zr48 : zeroC Tryz.prog 48 = some (.agg [.d (.str []), .full [], .full [], .d (.str [])]) := by kernel_rfl
theorem sz49 : szOf Tryz.prog 49 = some 4 := by kernel_rfl
theorem by49 : byOf Tryz.prog 49 = some 80 := by kernel_rfl
theorem ag49 : isAggT Tryz.prog 49 = some true := by kernel_rfl
theorem zr49 : zeroC Tryz.prog 49 = some (.agg [.d (.str []), .full [], .full [], .d (.str [])]) := by kernel_rfl
theorem sz58 : szOf Tryz.prog 58 = some 1 := by kernel_rfl
theorem by58 : byOf Tryz.prog 58 = some 24 := by kernel_rfl
theorem ag58 : isAggT Tryz.prog 58 = some false := by kernel_rfl
theorem zr58 : zeroC Tryz.prog 58 = some (.w (.full [])) := by kernel_rfl
theorem sz61 : szOf Tryz.prog 61 = some 1 := by kernel_rfl
theorem by61 : byOf Tryz.prog 61 = some 8 := by kernel_rfl
theorem ag61 : isAggT Tryz.prog 61 = some false := by kernel_rfl
theorem zr61 : zeroC Tryz.prog 61 = some (.w (.nil)) := by kernel_rfl
theorem sz65 : szOf Tryz.prog 65 = some 4 := by kernel_rfl
theorem by65 : byOf Tryz.prog 65 = some 40 := by kernel_rfl
theorem ag65 : isAggT Tryz.prog 65 = some true := by kernel_rfl
theorem zr65 : zeroC Tryz.prog 65 = some (.agg [.d (.int .i64 0), .d (.str []), .d (.int .i64 0), .d (.int .i64 0)]) := by kernel_rfl
theorem sz66 : szOf Tryz.prog 66 = some 4 := by kernel_rfl
theorem by66 : byOf Tryz.prog 66 = some 40 := by kernel_rfl
theorem ag66 : isAggT Tryz.prog 66 = some true := by kernel_rfl
theorem zr66 : zeroC Tryz.prog 66 = some (.agg [.d (.int .i64 0), .d (.str []), .d (.int .i64 0), .d (.int .i64 0)]) := by kernel_rfl
theorem sz69 : szOf Tryz.prog 69 = some 4 := by kernel_rfl
theorem by69 : byOf Tryz.prog 69 = some 40 := by kernel_rfl
theorem ag69 : isAggT Tryz.prog 69 = some true := by kernel_rfl
theorem zr69 : zeroC Tryz.prog 69 = some (.agg [.d (.str []), .d (.int .i64 0), .d (.int .i64 0), .d (.int .i64 0)]) := by kernel_rfl
theorem sz70 : szOf Tryz.prog 70 = some 4 := by kernel_rfl
theorem by70 : byOf Tryz.prog 70 = some 40 := by kernel_rfl
theorem ag70 : isAggT Tryz.prog 70 = some true := by kernel_rfl
theorem zr70 : zeroC Tryz.prog 70 = some (.agg [.d (.str []), .d (.int .i64 0), .d (.int .i64 0), .d (.int .i64 0)]) := by kernel_rfl
theorem sz73 : szOf Tryz.prog 73 = some 1 := by kernel_rfl
theorem by73 : byOf Tryz.prog 73 = some 8 := by kernel_rfl
theorem ag73 : isAggT Tryz.prog 73 = some false := by kernel_rfl
theorem zr73 : zeroC Tryz.prog 73 = some (.w (.nil)) := by kernel_rfl
theorem sz74 : szOf Tryz.prog 74 = some 1 := by kernel_rfl
theorem by74 : byOf Tryz.prog 74 = some 8 := by kernel_rfl
theorem ag74 : isAggT Tryz.prog 74 = some false := by kernel_rfl
theorem zr74 : zeroC Tryz.prog 74 = some (.w (.nil)) := by kernel_rfl
theorem sz75 : szOf Tryz.prog 75 = some 1 := by kernel_rfl
theorem by75 : byOf Tryz.prog 75 = some 24 := by kernel_rfl
theorem ag75 : isAggT Tryz.prog 75 = some false := by kernel_rfl
theorem zr75 : zeroC Tryz.prog 75 = some (.w (.full [])) := by kernel_rfl
theorem sz76 : szOf Tryz.prog 76 = some 2 := by kernel_rfl
theorem by76 : byOf Tryz.prog 76 = some 32 := by kernel_rfl
theorem ag76 : isAggT Tryz.prog 76 = some true := by kernel_rfl
theorem zr76 : zeroC Tryz.prog 76 = some (.agg [.nil, .full []]) := by kernel_rfl
theorem sz77 : szOf Tryz.prog 77 = some 2 := by kernel_rfl
theorem by77 : byOf Tryz.prog 77 = some 32 := by kernel_rfl
theorem ag77 : isAggT Tryz.prog 77 = some true := by kernel_rfl
theorem zr77 : zeroC Tryz.prog 77 = some (.agg [.nil, .full []]) := by kernel_rfl
theorem sz78 : szOf Tryz.prog 78 = some 7 := by kernel_rfl
theorem by78 : byOf Tryz.prog 78 = some 128 := by kernel_rfl
theorem ag78 : isAggT Tryz.prog 78 = some true := by kernel_rfl
theorem zr78 : zeroC Tryz.prog 78 = some (.agg [.nil, .full [], .d (.int .i64 0), .d (.str []), .full [], .full [], .full []]) := by kernel_rfl
theorem sz79 : szOf Tryz.prog 79 = some 7 := by kernel_rfl
theorem by79 : byOf Tryz.prog 79 = some 128 := by kernel_rfl
theorem ag79 : isAggT Tryz.prog 79 = some true := by kernel_rfl
theorem zr79 : zeroC Tryz.prog 79 = some (.agg [.nil, .full [], .d (.int .i64 0), .d (.str []), .full [], .full [], .full []]) := by kernel_rfl
theorem sz98 : szOf Tryz.prog 98 = some 1 := by kernel_rfl
theorem by98 : byOf Tryz.prog 98 = some 24 := by kernel_rfl
theorem ag98 : isAggT Tryz.prog 98 = some false := by kernel_rfl
theorem zr98 : zeroC Tryz.prog 98 = some (.w (.full [])) := by kernel_rfl
theorem sz108 : szOf Tryz.prog 108 = some 4 := by kernel_rfl
theorem by108 : byOf Tryz.prog 108 = some 32 := by kernel_rfl
theorem ag108 : isAggT Tryz.prog 108 = some true := by kernel_rfl
theorem zr108 : zeroC Tryz.prog 108 = some (.agg [.d (.int .i64 0), .d (.int .i64 0), .d (.int .i64 0), .d (.int .i64 0)]) := by kernel_rfl
theorem sz109 : szOf Tryz.prog 109 = some 6 := by kernel_rfl
theorem by109 : byOf Tryz.prog 109 = some 80 := by kernel_rfl
theorem ag109 : isAggT Tryz.prog 109 = some true := by kernel_rfl
theorem zr109 : zeroC Tryz.prog 109 = some (.agg [.full [], .d (.int .i64 0), .d (.int .i64 0), .d (.int .i64 0), .d (.int .i64 0), .full []]) := by kernel_rfl
theorem sz110 : szOf Tryz.prog 110 = some 6 := by kernel_rfl
theorem by110 : byOf Tryz.prog 110 = some 80 := by kernel_rfl
theorem ag110 : isAggT Tryz.prog 110 = some true := by kernel_rfl
theorem zr110 : zeroC Tryz.prog 110 = some (.agg [.full [], .d (.int .i64 0), .d (.int .i64 0), .d (.int .i64 0), .d (.int .i64 0), .full []]) := by kernel_rfl
theorem sz111 : szOf Tryz.prog 111 = some 1 := by kernel_rfl
theorem by111 : byOf Tryz.prog 111 = some 24 := by kernel_rfl
theorem ag111 : isAggT Tryz.prog 111 = some false := by kernel_rfl
theorem zr111 : zeroC Tryz.prog 111 = some (.w (.full [])) := by kernel_rfl
theorem sz118 : szOf Tryz.prog 118 = some 1 := by kernel_rfl
theorem by118 : byOf Tryz.prog 118 = some 8 := by kernel_rfl
theorem ag118 : isAggT Tryz.prog 118 = some false := by kernel_rfl
theorem zr118 : zeroC Tryz.prog 118 = some (.w (.nil)) := by kernel_rfl
theorem sz119 : szOf Tryz.prog 119 = some 3 := by kernel_rfl
theorem by119 : byOf Tryz.prog 119 = some 32 := by kernel_rfl
theorem ag119 : isAggT Tryz.prog 119 = some true := by kernel_rfl
theorem zr119 : zeroC Tryz.prog 119 = some (.agg [.d (.str []), .d (.int .i64 0), .d (.int .i64 0)]) := by kernel_rfl
theorem sz120 : szOf Tryz.prog 120 = some 3 := by kernel_rfl
theorem by120 : byOf Tryz.prog 120 = some 32 := by kernel_rfl
theorem ag120 : isAggT Tryz.prog 120 = some true := by kernel_rfl
theorem zr120 : zeroC Tryz.prog 120 = some (.agg [.d (.str []), .d (.int .i64 0), .d (.int .i64 0)]) := by kernel_rfl
theorem sz123 : szOf Tryz.prog 123 = some 3 := by kernel_rfl
theorem by123 : byOf Tryz.prog 123 = some 24 := by kernel_rfl
theorem ag123 : isAggT Tryz.prog 123 = some true := by kernel_rfl
theorem zr123 : zeroC Tryz.prog 123 = some (.agg [.d (.int .i64 0), .d (.int .i64 0), .d (.int .i64 0)]) := by kernel_rfl
theorem sz124 : szOf Tryz.prog 124 = some 3 := by kernel_rfl
theorem by124 : byOf Tryz.prog 124 = some 24 := by kernel_rfl
theorem ag124 : isAggT Tryz.prog 124 = some true := by kernel_rfl
theorem zr124 : zeroC Tryz.prog 124 = some (.agg [.d (.int .i64 0), .d (.int .i64 0), .d (.int .i64 0)]) := by kernel_rfl
theorem sz125 : szOf Tryz.prog 125 = some 6 := by kernel_rfl
theorem by125 : byOf Tryz.prog 125 = some 64 := by kernel_rfl
theorem ag125 : isAggT Tryz.prog 125 = some true := by kernel_rfl
theorem zr125 : zeroC Tryz.prog 125 = some (.agg [.d (.bool false), .full [], .d (.int .i64 0), .d (.int .i64 0), .d (.int .i64 0), .d (.int .i64 0)]) := by kernel_rfl
theorem sz126 : szOf Tryz.prog 126 = some 6 := by kernel_rfl
theorem by126 : byOf Tryz.prog 126 = some 64 := by kernel_rfl
theorem ag126 : isAggT Tryz.prog 126 = some true := by kernel_rfl
theorem zr126 : zeroC Tryz.prog 126 = some (.agg [.d (.bool false), .full [], .d (.int .i64 0), .d (.int .i64 0), .d (.int .i64 0), .d (.int .i64 0)]) := by kernel_rfl
theorem sz139 : szOf Tryz.prog 139 = some 1 := by kernel_rfl
theorem by139 : byOf Tryz.prog 139 = some 8 := by kernel_rfl
theorem ag139 : isAggT Tryz.prog 139 = some false := by kernel_rfl
theorem zr139 : zeroC Tryz.prog 139 = some (.w (.nil)) := by kernel_rfl
theorem sz143 : szOf Tryz.prog 143 = some 1 := by kernel_rfl
theorem by143 : byOf Tryz.prog 143 = some 24 := by kernel_rfl
theorem ag143 : isAggT Tryz.prog 143 = some false := by kernel_rfl
theorem zr143 : zeroC Tryz.prog 143 = some (.w (.full [])) := by kernel_rfl
theorem sz149 : szOf Tryz.prog 149 = some 1 := by kernel_rfl
theorem by149 : byOf Tryz.prog 149 = some 8 := by kernel_rfl
theorem ag149 : isAggT Tryz.prog 149 = some false := by kernel_rfl
theorem zr149 : zeroC Tryz.prog 149 = some (.w (.nil)) := by kernel_rfl
theorem sz150 : szOf Tryz.prog 150 = some 5 := by kernel_rfl
theorem by150 : byOf Tryz.prog 150 = some 96 := by kernel_rfl
theorem ag150 : isAggT Tryz.prog 150 = some true := by kernel_rfl
theorem zr150 : zeroC Tryz.prog 150 = some (.agg [.nil, .d (.str []), .full [], .full [], .full []]) := by kernel_rfl
theorem sz151 : szOf Tryz.prog 151 = some 5 := by kernel_rfl
theorem by151 : byOf Tryz.prog 151 = some 96 := by kernel_rfl
theorem ag151 : isAggT Tryz.prog 151 = some true := by kernel_rfl
theorem zr151 : zeroC Tryz.prog 151 = some (.agg [.nil, .d (.str []), .full [], .full [], .full []]) := by kernel_rfl
theorem sz158 : szOf Tryz.prog 158 = some 6 := by kernel_rfl
theorem by158 : byOf Tryz.prog 158 = some 64 := by kernel_rfl
theorem ag158 : isAggT Tryz.prog 158 = some true := by kernel_rfl
theorem zr158 : zeroC Tryz.prog 158 = some (.agg [.full [], .d (.int .i64 0), .d (.int .i64 0), .d (.int .i64 0), .d (.int .i64 0), .d (.int .i64 0)]) := by kernel_rfl
theorem sz159 : szOf Tryz.prog 159 = some 6 := by kernel_rfl
theorem by159 : byOf Tryz.prog 159 = some 64 := by kernel_rfl
theorem ag159 : isAggT Tryz.prog 159 = some true := by kernel_rfl
theorem zr159 : zeroC Tryz.prog 159 = some (.agg [.full [], .d (.int .i64 0), .d (.int .i64 0), .d (.int .i64 0), .d (.int .i64 0), .d (.int .i64 0)]) := by kernel_rfl
theorem sz166 : szOf Tryz.prog 166 = some 3 := by kernel_rfl
theorem by166 : byOf Tryz.prog 166 = some 32 := by kernel_rfl
theorem ag166 : isAggT Tryz.prog 166 = some true := by kernel_rfl
theorem zr166 : zeroC Tryz.prog 166 = some (.agg [.d (.str []), .d (.int .i64 0), .d (.int .i64 0)]) := by kernel_rfl
theorem sz167 : szOf Tryz.prog 167 = some 3 := by kernel_rfl
theorem by167 : byOf Tryz.prog 167 = some 32 := by kernel_rfl
theorem ag167 : isAggT Tryz.prog 167 = some true := by kernel_rfl
theorem zr167 : zeroC Tryz.prog 167 = some (.agg [.d (.str []), .d (.int .i64 0), .d (.int .i64 0)]) := by kernel_rfl
theorem sz190 : szOf Tryz.prog 190 = some 1 := by kernel_rfl
theorem by190 : byOf Tryz.prog 190 = some 8 := by kernel_rfl
theorem ag190 : isAggT Tryz.prog 190 = some false := by kernel_rfl
theorem zr190 : zeroC Tryz.prog 190 = some (.w (.d (.int .u64 0))) := by kernel_rfl
theorem sz195 : szOf Tryz.prog 195 = some 1 := by kernel_rfl
theorem by195 : byOf Tryz.prog 195 = some 8 := by kernel_rfl
theorem ag195 : isAggT Tryz.prog 195 = some false := by kernel_rfl
theorem zr195 : zeroC Tryz.prog 195 = some (.w (.d (.int .u64 0))) := by kernel_rfl
theorem sz197 : szOf Tryz.prog 197 = some 4 := by kernel_rfl
theorem by197 : byOf Tryz.prog 197 = some 64 := by kernel_rfl
theorem ag197 : isAggT Tryz.prog 197 = some true := by kernel_rfl
theorem zr197 : zeroC Tryz.prog 197 = some (.agg [.d (.str []), .d (.str []), .d (.str []), .d (.str [])]) := by kernel_rfl
theorem sz201 : szOf Tryz.prog 201 = some 1 := by kernel_rfl
theorem by201 : byOf Tryz.prog 201 = some 8 := by kernel_rfl
theorem ag201 : isAggT Tryz.prog 201 = some false := by kernel_rfl
theorem zr201 : zeroC Tryz.prog 201 = some (.w (.nil)) := by kernel_rfl
theorem sz230 : szOf Tryz.prog 230 = some 1 := by kernel_rfl
theorem by230 : byOf Tryz.prog 230 = some 8 := by kernel_rfl
theorem ag230 : isAggT Tryz.prog 230 = some false := by kernel_rfl
theorem zr230 : zeroC Tryz.prog 230 = some (.w (.nil)) := by kernel_rfl
theorem sz231 : szOf Tryz.prog 231 = some 7 := by kernel_rfl
theorem by231 : byOf Tryz.prog 231 = some 112 := by kernel_rfl
theorem ag231 : isAggT Tryz.prog 231 = some true := by kernel_rfl
theorem zr231 : zeroC Tryz.prog 231 = some (.agg [.d (.str []), .d (.str []), .d (.str []), .d (.str []), .d (.str []), .d (.str []), .d (.str [])]) := by kernel_rfl
theorem sz232 : szOf Tryz.prog 232 = some 1 := by kernel_rfl
theorem by232 : byOf Tryz.prog 232 = some 8 := by kernel_rfl
theorem ag232 : isAggT Tryz.prog 232 = some true := by kernel_rfl
theorem zr232 : zeroC Tryz.prog 232 = some (.agg [.nil]) := by kernel_rfl
theorem sz233 : szOf Tryz.prog 233 = some 1 := by kernel_rfl
theorem by233 : byOf Tryz.prog 233 = some 8 := by kernel_rfl
theorem ag233 : isAggT Tryz.prog 233 = some true := by kernel_rfl
theorem zr233 : zeroC Tryz.prog 233 = some (.agg [.nil]) := by kernel_rfl
theorem sz237 : szOf Tryz.prog 237 = some 1 := by kernel_rfl
theorem by237 : byOf Tryz.prog 237 = some 4 := by kernel_rfl
theorem ag237 : isAggT Tryz.prog 237 = some false := by kernel_rfl
theorem zr237 : zeroC Tryz.prog 237 = some (.w (.d (.int .u32 0))) := by kernel_rfl
theorem sz243 : szOf Tryz.prog 243 = some 20 := by kernel_rfl
theorem by243 : byOf Tryz.prog 243 = some 20 := by kernel_rfl
theorem ag243 : isAggT Tryz.prog 243 = some true := by kernel_rfl
theorem zr243 : zeroC Tryz.prog 243 = some (.agg [.d (.int .u8 0), .d (.int .u8 0), .d (.int .u8 0), .d (.int .u8 0), .d (.int .u8 0), .d (.int .u8 0), .d (.int .u8 0), .d (.int .u8 0), .d (.int .u8 0), .d (.int .u8 0), .d (.int .u8 0), .d (.int .u8 0), .d (.int .u8 0), .d (.int .u8 0), .d (.int .u8 0), .d (.int .u8 0), .d (.int .u8 0), .d (.int .u8 0), .d (.int .u8 0), .d (.int .u8 0)]) := by kernel_rfl
theorem sz262 : szOf Tryz.prog 262 = some 1 := by kernel_rfl
theorem by262 : byOf Tryz.prog 262 = some 24 := by kernel_rfl
theorem ag262 : isAggT Tryz.prog 262 = some false := by kernel_rfl
theorem zr262 : zeroC Tryz.prog 262 = some (.w (.full [])) := by kernel_rfl
theorem sz269 : szOf Tryz.prog 269 = some 1 := by kernel_rfl
theorem by269 : byOf Tryz.prog 269 = some 8 := by kernel_rfl
theorem ag269 : isAggT Tryz.prog 269 = some false := by kernel_rfl
theorem zr269 : zeroC Tryz.prog 269 = some (.w (.d (.int .i64 0))) := by kernel_rfl
theorem sz280 : szOf Tryz.prog 280 = some 21 := by kernel_rfl
theorem by280 : byOf Tryz.prog 280 = some 336 := by kernel_rfl
theorem ag280 : isAggT Tryz.prog 280 = some true := by kernel_rfl
theorem zr280 : zeroC Tryz.prog 280 = some (.agg [.d (.str []), .d (.str []), .d (.str []), .d (.str []), .d (.str []), .d (.str []), .d (.str []), .d (.str []), .d (.str []), .d (.str []), .d (.str []), .d (.str []), .d (.str []), .d (.str []), .d (.str []), .d (.str []), .d (.str []), .d (.str []), .d (.str []), .d (.str []), .d (.str [])]) := by kernel_rfl
theorem sz295 : szOf Tryz.prog 295 = some 1 := by kernel_rfl
theorem by295 : byOf Tryz.prog 295 = some 8 := by kernel_rfl
theorem ag295 : isAggT Tryz.prog 295 = some false := by kernel_rfl
theorem zr295 : zeroC Tryz.prog 295 = some (.w (.nil)) := by kernel_rfl
theorem sz297 : szOf Tryz.prog 297 = some 1 := by kernel_rfl
theorem by297 : byOf Tryz.prog 297 = some 8 := by kernel_rfl
theorem ag297 : isAggT Tryz.prog 297 = some false := by kernel_rfl
theorem zr297 : zeroC Tryz.prog 297 = some (.w (.d (.int .u64 0))) := by kernel_rfl
theorem sz301 : szOf Tryz.prog 301 = some 1 := by kernel_rfl
theorem by301 : byOf Tryz.prog 301 = some 8 := by kernel_rfl
theorem ag301 : isAggT Tryz.prog 301 = some false := by kernel_rfl
theorem zr301 : zeroC Tryz.prog 301 = some (.w (.nil)) := by kernel_rfl
theorem sz305 : szOf Tryz.prog 305 = some 1 := by kernel_rfl
theorem by305 : byOf Tryz.prog 305 = some 24 := by kernel_rfl
theorem ag305 : isAggT Tryz.prog 305 = some false := by kernel_rfl
theorem zr305 : zeroC Tryz.prog 305 = some (.w (.full [])) := by kernel_rfl
theorem sz307 : szOf Tryz.prog 307 = some 1 := by kernel_rfl
theorem by307 : byOf Tryz.prog 307 = some 8 := by kernel_rfl
theorem ag307 : isAggT Tryz.prog 307 = some false := by kernel_rfl
theorem zr307 : zeroC Tryz.prog 307 = some (.w (.nil)) := by kernel_rfl
theorem sz311 : szOf Tryz.prog 311 = some 2 := by kernel_rfl
theorem by311 : byOf Tryz.prog 311 = some 2 := by kernel_rfl
theorem ag311 : isAggT Tryz.prog 311 = some true := by kernel_rfl
theorem zr311 : zeroC Tryz.prog 311 = some (.agg [.d (.int .u8 0), .d (.int .u8 0)]) := by kernel_rfl
theorem sz312 : szOf Tryz.prog 312 = some 2 := by kernel_rfl
theorem by312 : byOf Tryz.prog 312 = some 2 := by kernel_rfl
theorem ag312 : isAggT Tryz.prog 312 = some true := by kernel_rfl
theorem zr312 : zeroC Tryz.prog 312 = some (.agg [.d (.int .u8 0), .d (.int .u8 0)]) := by kernel_rfl
theorem sz313 : szOf Tryz.prog 313 = some 32 := by kernel_rfl
theorem by313 : byOf Tryz.prog 313 = some 32 := by kernel_rfl
theorem ag313 : isAggT Tryz.prog 313 = some true := by kernel_rfl
theorem zr313 : zeroC Tryz.prog 313 = some (.agg [.d (.int .u8 0), .d (.int .u8 0), .d (.int .u8 0), .d (.int .u8 0), .d (.int .u8 0), .d (.int .u8 0), .d (.int .u8 0), .d (.int .u8 0), .d (.int .u8 0), .d (.int .u8 0), .d (.int .u8 0), .d (.int .u8 0), .d (.int .u8 0), .d (.int .u8 0), .d (.int .u8 0), .d (.int .u8 0), .d (.int .u8 0), .d (.int .u8 0), .d (.int .u8 0), .d (.int .u8 0), .d (.int .u8 0), .d (.int .u8 0), .d (.int .u8 0), .d (.int .u8 0), .d (.int .u8 0), .d (.int .u8 0), .d (.int .u8 0), .d (.int .u8 0), .d (.int .u8 0), .d (.int .u8 0), .d (.int .u8 0), .d (.int .u8 0)]) := by kernel_rfl
theorem sz317 : szOf Tryz.prog 317 = some 4 := by kernel_rfl
theorem by317 : byOf Tryz.prog 317 = some 40 := by kernel_rfl
theorem ag317 : isAggT Tryz.prog 317 = some true := by kernel_rfl
theorem zr317 : zeroC Tryz.prog 317 = some (.agg [.nil, .nil, .nil, .d (.str [])]) := by kernel_rfl
theorem sz318 : szOf Tryz.prog 318 = some 4 := by kernel_rfl
theorem by318 : byOf Tryz.prog 318 = some 40 := by kernel_rfl
theorem ag318 : isAggT Tryz.prog 318 = some true := by kernel_rfl
theorem zr318 : zeroC Tryz.prog 318 = some (.agg [.nil, .nil, .nil, .d (.str [])]) := by kernel_rfl
theorem sz322 : szOf Tryz.prog 322 = some 1 := by kernel_rfl
theorem by322 : byOf Tryz.prog 322 = some 1 := by kernel_rfl
theorem ag322 : isAggT Tryz.prog 322 = some false := by kernel_rfl
theorem zr322 : zeroC Tryz.prog 322 = some (.w (.d (.int .u8 0))) := by kernel_rfl
theorem sz323 : szOf Tryz.prog 323 = some 1 := by kernel_rfl
theorem by323 : byOf Tryz.prog 323 = some 1 := by kernel_rfl
theorem ag323 : isAggT Tryz.prog 323 = some false := by kernel_rfl
theorem zr323 : zeroC Tryz.prog 323 = some (.w (.d (.int .u8 0))) := by kernel_rfl
theorem sz325 : szOf Tryz.prog 325 = some 1 := by kernel_rfl
theorem by325 : byOf Tryz.prog 325 = some 4 := by kernel_rfl
theorem ag325 : isAggT Tryz.prog 325 = some false := by kernel_rfl
theorem zr325 : zeroC Tryz.prog 325 = some (.w (.d (.int .i32 0))) := by kernel_rfl
theorem sz326 : szOf Tryz.prog 326 = some 1 := by kernel_rfl
theorem by326 : byOf Tryz.prog 326 = some 4 := by kernel_rfl
theorem ag326 : isAggT Tryz.prog 326 = some false := by kernel_rfl
theorem zr326 : zeroC Tryz.prog 326 = some (.w (.d (.int .i32 0))) := by kernel_rfl
theorem sz327 : szOf Tryz.prog 327 = some 11 := by kernel_rfl
theorem by327 : byOf Tryz.prog 327 = some 48 := by kernel_rfl
theorem ag327 : isAggT Tryz.prog 327 = some true := by kernel_rfl
theorem sz328 : szOf Tryz.prog 328 = some 11 := by kernel_rfl
theorem by328 : byOf Tryz.prog 328 = some 48 := by kernel_rfl
theorem ag328 : isAggT Tryz.prog 328 = some true := by kernel_rfl
theorem mixed : Tryz.prog.follows .mixedOrders = true := by kernel_rfl
theorem ownKnob_ : ownKnob Tryz.prog.godebug = none := by kernel_rfl
theorem laid_ : laidOutB Tryz.prog = true := by kernel_rfl
attribute [simp] sz2 by2 ag2 zr2 Tryz.underlying2 sz3 by3 ag3 zr3 Tryz.underlying3 sz4 by4 ag4 zr4 Tryz.underlying4 sz5 by5 ag5 zr5 Tryz.underlying5 sz6 by6 ag6 zr6 Tryz.underlying6 sz7 by7 ag7 zr7 Tryz.underlying7 sz8 by8 ag8 zr8 Tryz.underlying8 sz9 by9 ag9 zr9 Tryz.underlying9 sz10 by10 ag10 zr10 Tryz.underlying10 sz11 by11 ag11 zr11 Tryz.underlying11 sz12 by12 ag12 zr12 Tryz.underlying12 sz13 by13 ag13 zr13 Tryz.underlying13 sz14 by14 ag14 zr14 Tryz.underlying14 sz15 by15 ag15 zr15 Tryz.underlying15 sz16 by16 ag16 zr16 Tryz.underlying16 sz17 by17 ag17 zr17 Tryz.underlying17 sz18 by18 ag18 zr18 Tryz.underlying18 sz19 by19 ag19 zr19 Tryz.underlying19 sz21 by21 ag21 zr21 Tryz.underlying21 sz22 by22 ag22 zr22 Tryz.underlying22 sz23 by23 ag23 zr23 Tryz.underlying23 sz24 by24 ag24 zr24 Tryz.underlying24 sz25 by25 ag25 zr25 Tryz.underlying25 sz26 by26 ag26 zr26 Tryz.underlying26 sz29 by29 ag29 zr29 Tryz.underlying29 sz33 by33 ag33 zr33 Tryz.underlying33 sz34 by34 ag34 zr34 Tryz.underlying34 sz39 by39 ag39 zr39 Tryz.underlying39 sz40 by40 ag40 zr40 Tryz.underlying40 sz41 by41 ag41 zr41 Tryz.underlying41 sz42 by42 ag42 zr42 Tryz.underlying42 sz43 by43 ag43 zr43 Tryz.underlying43 sz44 by44 ag44 zr44 Tryz.underlying44 sz45 by45 ag45 zr45 Tryz.underlying45 sz46 by46 ag46 zr46 Tryz.underlying46 sz47 by47 ag47 zr47 Tryz.underlying47 sz48 by48 ag48 zr48 Tryz.underlying48 sz49 by49 ag49 zr49 Tryz.underlying49 sz58 by58 ag58 zr58 Tryz.underlying58 sz61 by61 ag61 zr61 Tryz.underlying61 sz65 by65 ag65 zr65 Tryz.underlying65 sz66 by66 ag66 zr66 Tryz.underlying66 sz69 by69 ag69 zr69 Tryz.underlying69 sz70 by70 ag70 zr70 Tryz.underlying70 sz73 by73 ag73 zr73 Tryz.underlying73 sz74 by74 ag74 zr74 Tryz.underlying74 sz75 by75 ag75 zr75 Tryz.underlying75 sz76 by76 ag76 zr76 Tryz.underlying76 sz77 by77 ag77 zr77 Tryz.underlying77 sz78 by78 ag78 zr78 Tryz.underlying78 sz79 by79 ag79 zr79 Tryz.underlying79 sz98 by98 ag98 zr98 Tryz.underlying98 sz108 by108 ag108 zr108 Tryz.underlying108 sz109 by109 ag109 zr109 Tryz.underlying109 sz110 by110 ag110 zr110 Tryz.underlying110 sz111 by111 ag111 zr111 Tryz.underlying111 sz118 by118 ag118 zr118 Tryz.underlying118 sz119 by119 ag119 zr119 Tryz.underlying119 sz120 by120 ag120 zr120 Tryz.underlying120 sz123 by123 ag123 zr123 Tryz.underlying123 sz124 by124 ag124 zr124 Tryz.underlying124 sz125 by125 ag125 zr125 Tryz.underlying125 sz126 by126 ag126 zr126 Tryz.underlying126 sz139 by139 ag139 zr139 Tryz.underlying139 sz143 by143 ag143 zr143 Tryz.underlying143 sz149 by149 ag149 zr149 Tryz.underlying149 sz150 by150 ag150 zr150 Tryz.underlying150 sz151 by151 ag151 zr151 Tryz.underlying151 sz158 by158 ag158 zr158 Tryz.underlying158 sz159 by159 ag159 zr159 Tryz.underlying159 sz166 by166 ag166 zr166 Tryz.underlying166 sz167 by167 ag167 zr167 Tryz.underlying167 sz190 by190 ag190 zr190 Tryz.underlying190 sz195 by195 ag195 zr195 Tryz.underlying195 sz197 by197 ag197 zr197 Tryz.underlying197 sz201 by201 ag201 zr201 Tryz.underlying201 sz230 by230 ag230 zr230 Tryz.underlying230 sz231 by231 ag231 zr231 Tryz.underlying231 sz232 by232 ag232 zr232 Tryz.underlying232 sz233 by233 ag233 zr233 Tryz.underlying233 sz237 by237 ag237 zr237 Tryz.underlying237 sz243 by243 ag243 zr243 Tryz.underlying243 sz262 by262 ag262 zr262 Tryz.underlying262 sz269 by269 ag269 zr269 Tryz.underlying269 sz280 by280 ag280 zr280 Tryz.underlying280 sz295 by295 ag295 zr295 Tryz.underlying295 sz297 by297 ag297 zr297 Tryz.underlying297 sz301 by301 ag301 zr301 Tryz.underlying301 sz305 by305 ag305 zr305 Tryz.underlying305 sz307 by307 ag307 zr307 Tryz.underlying307 sz311 by311 ag311 zr311 Tryz.underlying311 sz312 by312 ag312 zr312 Tryz.underlying312 sz313 by313 ag313 zr313 Tryz.underlying313 sz317 by317 ag317 zr317 Tryz.underlying317 sz318 by318 ag318 zr318 Tryz.underlying318 sz322 by322 ag322 zr322 Tryz.underlying322 sz323 by323 ag323 zr323 Tryz.underlying323 sz325 by325 ag325 zr325 Tryz.underlying325 sz326 by326 ag326 zr326 Tryz.underlying326 sz327 by327 ag327 Tryz.underlying327 sz328 by328 ag328 Tryz.underlying328
end Go.Proofs.YtckonoejmjblfaaGreatDoor.Ev
