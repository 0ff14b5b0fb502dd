/- Sizes and zero values of the program's types. -/
import Derived.Test.YtkklkkppedociaaDoorEvM
import Derived.Test.YtkklkkppedociaaDoorProg
import Derived.KernelRfl
namespace Go.Proofs.YtkklkkppedociaaDoor.Ev
open Go
theorem sz2 : szOf Tryd.prog 2 = some 1 := by kernel_rfl
theorem by2 : byOf Tryd.prog 2 = some 8 := by kernel_rfl
theorem ag2 : isAggT Tryd.prog 2 = some false := by kernel_rfl
theorem zr2 : zeroC Tryd.prog 2 = some (.w (.d (.int .i64 0))) := by kernel_rfl
theorem sz3 : szOf Tryd.prog 3 = some 1 := by kernel_rfl
theorem by3 : byOf Tryd.prog 3 = some 8 := by kernel_rfl
theorem ag3 : isAggT Tryd.prog 3 = some false := by kernel_rfl
theorem zr3 : zeroC Tryd.prog 3 = some (.w (.d (.int .i64 0))) := by kernel_rfl
theorem sz4 : szOf Tryd.prog 4 = some 1 := by kernel_rfl
theorem by4 : byOf Tryd.prog 4 = some 1 := by kernel_rfl
theorem ag4 : isAggT Tryd.prog 4 = some false := by kernel_rfl
theorem zr4 : zeroC Tryd.prog 4 = some (.w (.d (.bool false))) := by kernel_rfl
theorem sz5 : szOf Tryd.prog 5 = some 1 := by kernel_rfl
theorem by5 : byOf Tryd.prog 5 = some 1 := by kernel_rfl
theorem ag5 : isAggT Tryd.prog 5 = some false := by kernel_rfl
theorem zr5 : zeroC Tryd.prog 5 = some (.w (.d (.int .u8 0))) := by kernel_rfl
theorem sz6 : szOf Tryd.prog 6 = some 1 := by kernel_rfl
theorem by6 : byOf Tryd.prog 6 = some 1 := by kernel_rfl
theorem ag6 : isAggT Tryd.prog 6 = some false := by kernel_rfl
theorem zr6 : zeroC Tryd.prog 6 = some (.w (.d (.int .u8 0))) := by kernel_rfl
theorem sz7 : szOf Tryd.prog 7 = some 4 := by kernel_rfl
theorem by7 : byOf Tryd.prog 7 = some 24 := by kernel_rfl
theorem ag7 : isAggT Tryd.prog 7 = some true := by kernel_rfl
theorem zr7 : zeroC Tryd.prog 7 = some (.agg [.d (.int .i64 0), .d (.int .i64 0), .d (.bool false), .d (.int .u8 0)]) := by kernel_rfl
theorem sz8 : szOf Tryd.prog 8 = some 4 := by kernel_rfl
theorem by8 : byOf Tryd.prog 8 = some 24 := by kernel_rfl
theorem ag8 : isAggT Tryd.prog 8 = some true := by kernel_rfl
theorem zr8 : zeroC Tryd.prog 8 = some (.agg [.d (.int .i64 0), .d (.int .i64 0), .d (.bool false), .d (.int .u8 0)]) := by kernel_rfl
theorem sz9 : szOf Tryd.prog 9 = some 1 := by kernel_rfl
theorem by9 : byOf Tryd.prog 9 = some 16 := by kernel_rfl
theorem ag9 : isAggT Tryd.prog 9 = some false := by kernel_rfl
theorem zr9 : zeroC Tryd.prog 9 = some (.w (.d (.str []))) := by kernel_rfl
theorem sz10 : szOf Tryd.prog 10 = some 1 := by kernel_rfl
theorem by10 : byOf Tryd.prog 10 = some 16 := by kernel_rfl
theorem ag10 : isAggT Tryd.prog 10 = some false := by kernel_rfl
theorem zr10 : zeroC Tryd.prog 10 = some (.w (.d (.str []))) := by kernel_rfl
theorem sz11 : szOf Tryd.prog 11 = some 1 := by kernel_rfl
theorem by11 : byOf Tryd.prog 11 = some 16 := by kernel_rfl
theorem ag11 : isAggT Tryd.prog 11 = some false := by kernel_rfl
theorem zr11 : zeroC Tryd.prog 11 = some (.w (.d (.str []))) := by kernel_rfl
theorem sz12 : szOf Tryd.prog 12 = some 1 := by kernel_rfl
theorem by12 : byOf Tryd.prog 12 = some 8 := by kernel_rfl
theorem ag12 : isAggT Tryd.prog 12 = some false := by kernel_rfl
theorem zr12 : zeroC Tryd.prog 12 = some (.w (.d (.int .u64 0))) := by kernel_rfl
theorem sz13 : szOf Tryd.prog 13 = some 2 := by kernel_rfl
theorem by13 : byOf Tryd.prog 13 = some 24 := by kernel_rfl
theorem ag13 : isAggT Tryd.prog 13 = some true := by kernel_rfl
theorem zr13 : zeroC Tryd.prog 13 = some (.agg [.d (.str []), .d (.int .u64 0)]) := by kernel_rfl
theorem sz14 : szOf Tryd.prog 14 = some 2 := by kernel_rfl
theorem by14 : byOf Tryd.prog 14 = some 24 := by kernel_rfl
theorem ag14 : isAggT Tryd.prog 14 = some true := by kernel_rfl
theorem zr14 : zeroC Tryd.prog 14 = some (.agg [.d (.str []), .d (.int .u64 0)]) := by kernel_rfl
theorem sz15 : szOf Tryd.prog 15 = some 1 := by kernel_rfl
theorem by15 : byOf Tryd.prog 15 = some 8 := by kernel_rfl
theorem ag15 : isAggT Tryd.prog 15 = some false := by kernel_rfl
theorem zr15 : zeroC Tryd.prog 15 = some (.w (.nil)) := by kernel_rfl
theorem sz16 : szOf Tryd.prog 16 = some 1 := by kernel_rfl
theorem by16 : byOf Tryd.prog 16 = some 8 := by kernel_rfl
theorem ag16 : isAggT Tryd.prog 16 = some false := by kernel_rfl
theorem zr16 : zeroC Tryd.prog 16 = some (.w (.nil)) := by kernel_rfl
theorem sz17 : szOf Tryd.prog 17 = some 1 := by kernel_rfl
theorem by17 : byOf Tryd.prog 17 = some 8 := by kernel_rfl
theorem ag17 : isAggT Tryd.prog 17 = some false := by kernel_rfl
theorem zr17 : zeroC Tryd.prog 17 = some (.w (.nil)) := by kernel_rfl
theorem sz18 : szOf Tryd.prog 18 = some 1 := by kernel_rfl
theorem by18 : byOf Tryd.prog 18 = some 8 := by kernel_rfl
theorem ag18 : isAggT Tryd.prog 18 = some true := by kernel_rfl
theorem zr18 : zeroC Tryd.prog 18 = some (.agg [.nil]) := by kernel_rfl
theorem sz19 : szOf Tryd.prog 19 = some 1 := by kernel_rfl
theorem by19 : byOf Tryd.prog 19 = some 8 := by kernel_rfl
theorem ag19 : isAggT Tryd.prog 19 = some true := by kernel_rfl
theorem zr19 : zeroC Tryd.prog 19 = some (.agg [.nil]) := by kernel_rfl
theorem sz21 : szOf Tryd.prog 21 = some 1 := by kernel_rfl
theorem by21 : byOf Tryd.prog 21 = some 4 := by kernel_rfl
theorem ag21 : isAggT Tryd.prog 21 = some false := by kernel_rfl
theorem zr21 : zeroC Tryd.prog 21 = some (.w (.d (.int .i32 0))) := by kernel_rfl
theorem sz22 : szOf Tryd.prog 22 = some 1 := by kernel_rfl
theorem by22 : byOf Tryd.prog 22 = some 24 := by kernel_rfl
theorem ag22 : isAggT Tryd.prog 22 = some false := by kernel_rfl
theorem zr22 : zeroC Tryd.prog 22 = some (.w (.full [])) := by kernel_rfl
theorem sz24 : szOf Tryd.prog 24 = some 1 := by kernel_rfl
theorem by24 : byOf Tryd.prog 24 = some 8 := by kernel_rfl
theorem ag24 : isAggT Tryd.prog 24 = some false := by kernel_rfl
theorem zr24 : zeroC Tryd.prog 24 = some (.w (.d (.int .i64 0))) := by kernel_rfl
theorem sz34 : szOf Tryd.prog 34 = some 3 := by kernel_rfl
theorem by34 : byOf Tryd.prog 34 = some 32 := by kernel_rfl
theorem ag34 : isAggT Tryd.prog 34 = some true := by kernel_rfl
theorem zr34 : zeroC Tryd.prog 34 = some (.agg [.d (.int .i64 0), .d (.int .i64 0), .d (.str [])]) := by kernel_rfl
theorem sz35 : szOf Tryd.prog 35 = some 3 := by kernel_rfl
theorem by35 : byOf Tryd.prog 35 = some 32 := by kernel_rfl
theorem ag35 : isAggT Tryd.prog 35 = some true := by kernel_rfl
theorem zr35 : zeroC Tryd.prog 35 = some (.agg [.d (.int .i64 0), .d (.int .i64 0), .d (.str [])]) := by kernel_rfl
theorem sz39 : szOf Tryd.prog 39 = some 1 := by kernel_rfl
theorem by39 : byOf Tryd.prog 39 = some 24 := by kernel_rfl
theorem ag39 : isAggT Tryd.prog 39 = some false := by kernel_rfl
theorem zr39 : zeroC Tryd.prog 39 = some (.w (.full [])) := by kernel_rfl
theorem sz40 : szOf Tryd.prog 40 = some 2 := by kernel_rfl
theorem by40 : byOf Tryd.prog 40 = some 16 := by kernel_rfl
theorem ag40 : isAggT Tryd.prog 40 = some true := by kernel_rfl
theorem zr40 : zeroC Tryd.prog 40 = some (.agg [.d (.int .i64 0), .d (.int .i64 0)]) := by kernel_rfl
theorem sz41 : szOf Tryd.prog 41 = some 2 := by kernel_rfl
theorem by41 : byOf Tryd.prog 41 = some 16 := by kernel_rfl
theorem ag41 : isAggT Tryd.prog 41 = some true := by kernel_rfl
theorem zr41 : zeroC Tryd.prog 41 = some (.agg [.d (.int .i64 0), .d (.int .i64 0)]) := by kernel_rfl
theorem sz44 : szOf Tryd.prog 44 = some 1 := by kernel_rfl
theorem by44 : byOf Tryd.prog 44 = some 8 := by kernel_rfl
theorem ag44 : isAggT Tryd.prog 44 = some false := by kernel_rfl
theorem zr44 : zeroC Tryd.prog 44 = some (.w (.nil)) := by kernel_rfl
theorem sz51 : szOf Tryd.prog 51 = some 1 := by kernel_rfl
theorem by51 : byOf Tryd.prog 51 = some 24 := by kernel_rfl
theorem ag51 : isAggT Tryd.prog 51 = some false := by kernel_rfl
theorem zr51 : zeroC Tryd.prog 51 = some (.w (.full [])) := by kernel_rfl
theorem sz54 : szOf Tryd.prog 54 = some 1 := by kernel_rfl
theorem by54 : byOf Tryd.prog 54 = some 24 := by kernel_rfl
theorem ag54 : isAggT Tryd.prog 54 = some false := by kernel_rfl
theorem zr54 : zeroC Tryd.prog 54 = some (.w (.full [])) := by kernel_rfl
theorem sz59 : szOf Tryd.prog 59 = some 1 := by kernel_rfl
theorem by59 : byOf Tryd.prog 59 = some 8 := by kernel_rfl
theorem ag59 : isAggT Tryd.prog 59 = some false := by kernel_rfl
theorem zr59 : zeroC Tryd.prog 59 = some (.w (.nil)) := by kernel_rfl
theorem sz60 : szOf Tryd.prog 60 = some 3 := by kernel_rfl
theorem by60 : byOf Tryd.prog 60 = some 32 := by kernel_rfl
theorem ag60 : isAggT Tryd.prog 60 = some true := by kernel_rfl
theorem zr60 : zeroC Tryd.prog 60 = some (.agg [.d (.str []), .d (.int .i64 0), .d (.int .i64 0)]) := by kernel_rfl
theorem sz61 : szOf Tryd.prog 61 = some 3 := by kernel_rfl
theorem by61 : byOf Tryd.prog 61 = some 32 := by kernel_rfl
theorem ag61 : isAggT Tryd.prog 61 = some true := by kernel_rfl
theorem zr61 : zeroC Tryd.prog 61 = some (.agg [.d (.str []), .d (.int .i64 0), .d (.int .i64 0)]) := by kernel_rfl
theorem sz64 : szOf Tryd.prog 64 = some 4 := by kernel_rfl
theorem by64 : byOf Tryd.prog 64 = some 40 := by kernel_rfl
theorem ag64 : isAggT Tryd.prog 64 = some true := by kernel_rfl
theorem zr64 : zeroC Tryd.prog 64 = some (.agg [.d (.int .i64 0), .d (.str []), .d (.int .i64 0), .d (.int .i64 0)]) := by kernel_rfl
theorem sz65 : szOf Tryd.prog 65 = some 4 := by kernel_rfl
theorem by65 : byOf Tryd.prog 65 = some 40 := by kernel_rfl
theorem ag65 : isAggT Tryd.prog 65 = some true := by kernel_rfl
theorem zr65 : zeroC Tryd.prog 65 = some (.agg [.d (.int .i64 0), .d (.str []), .d (.int .i64 0), .d (.int .i64 0)]) := by kernel_rfl
theorem sz66 : szOf Tryd.prog 66 = some 3 := by kernel_rfl
theorem by66 : byOf Tryd.prog 66 = some 24 := by kernel_rfl
theorem ag66 : isAggT Tryd.prog 66 = some true := by kernel_rfl
theorem zr66 : zeroC Tryd.prog 66 = some (.agg [.d (.int .i64 0), .d (.int .i64 0), .d (.int .i64 0)]) := by kernel_rfl
theorem sz67 : szOf Tryd.prog 67 = some 3 := by kernel_rfl
theorem by67 : byOf Tryd.prog 67 = some 24 := by kernel_rfl
theorem ag67 : isAggT Tryd.prog 67 = some true := by kernel_rfl
theorem zr67 : zeroC Tryd.prog 67 = some (.agg [.d (.int .i64 0), .d (.int .i64 0), .d (.int .i64 0)]) := by kernel_rfl
theorem sz68 : szOf Tryd.prog 68 = some 6 := by kernel_rfl
theorem by68 : byOf Tryd.prog 68 = some 64 := by kernel_rfl
theorem ag68 : isAggT Tryd.prog 68 = some true := by kernel_rfl
theorem zr68 : zeroC Tryd.prog 68 = some (.agg [.d (.bool false), .full [], .d (.int .i64 0), .d (.int .i64 0), .d (.int .i64 0), .d (.int .i64 0)]) := by kernel_rfl
theorem sz69 : szOf Tryd.prog 69 = some 6 := by kernel_rfl
theorem by69 : byOf Tryd.prog 69 = some 64 := by kernel_rfl
theorem ag69 : isAggT Tryd.prog 69 = some true := by kernel_rfl
theorem zr69 : zeroC Tryd.prog 69 = some (.agg [.d (.bool false), .full [], .d (.int .i64 0), .d (.int .i64 0), .d (.int .i64 0), .d (.int .i64 0)]) := by kernel_rfl
theorem sz70 : szOf Tryd.prog 70 = some 1 := by kernel_rfl
theorem by70 : byOf Tryd.prog 70 = some 8 := by kernel_rfl
theorem ag70 : isAggT Tryd.prog 70 = some true := by kernel_rfl
theorem zr70 : zeroC Tryd.prog 70 = some (.agg [.nil]) := by kernel_rfl
theorem sz71 : szOf Tryd.prog 71 = some 1 := by kernel_rfl
theorem by71 : byOf Tryd.prog 71 = some 8 := by kernel_rfl
theorem ag71 : isAggT Tryd.prog 71 = some true := by kernel_rfl
theorem zr71 : zeroC Tryd.prog 71 = some (.agg [.nil]) := by kernel_rfl
theorem sz80 : szOf Tryd.prog 80 = some 1 := by kernel_rfl
theorem by80 : byOf Tryd.prog 80 = some 8 := by kernel_rfl
theorem ag80 : isAggT Tryd.prog 80 = some false := by kernel_rfl
theorem zr80 : zeroC Tryd.prog 80 = some (.w (.d (.int .u64 0))) := by kernel_rfl
theorem sz81 : szOf Tryd.prog 81 = some 21 := by kernel_rfl
theorem by81 : byOf Tryd.prog 81 = some 336 := by kernel_rfl
theorem ag81 : isAggT Tryd.prog 81 = some true := by kernel_rfl
theorem zr81 : zeroC Tryd.prog 81 = some (.agg [.d (.str []), .d (.str []), .d (.str []), .d (.str []), .d (.str []), .d (.str []), .d (.str []), .d (.str []), .d (.str []), .d (.str []), .d (.str []), .d (.str []), .d (.str []), .d (.str []), .d (.str []), .d (.str []), .d (.str []), .d (.str []), .d (.str []), .d (.str []), .d (.str [])]) := by kernel_rfl
theorem sz97 : szOf Tryd.prog 97 = some 20 := by kernel_rfl
theorem by97 : byOf Tryd.prog 97 = some 20 := by kernel_rfl
theorem ag97 : isAggT Tryd.prog 97 = some true := by kernel_rfl
theorem zr97 : zeroC Tryd.prog 97 = some (.agg [.d (.int .u8 0), .d (.int .u8 0), .d (.int .u8 0), .d (.int .u8 0), .d (.int .u8 0), .d (.int .u8 0), .d (.int .u8 0), .d (.int .u8 0), .d (.int .u8 0), .d (.int .u8 0), .d (.int .u8 0), .d (.int .u8 0), .d (.int .u8 0), .d (.int .u8 0), .d (.int .u8 0), .d (.int .u8 0), .d (.int .u8 0), .d (.int .u8 0), .d (.int .u8 0), .d (.int .u8 0)]) := by kernel_rfl
theorem sz98 : szOf Tryd.prog 98 = some 1 := by kernel_rfl
theorem by98 : byOf Tryd.prog 98 = some 24 := by kernel_rfl
theorem ag98 : isAggT Tryd.prog 98 = some false := by kernel_rfl
theorem zr98 : zeroC Tryd.prog 98 = some (.w (.full [])) := by kernel_rfl
theorem sz105 : szOf Tryd.prog 105 = some 1 := by kernel_rfl
theorem by105 : byOf Tryd.prog 105 = some 8 := by kernel_rfl
theorem ag105 : isAggT Tryd.prog 105 = some false := by kernel_rfl
theorem zr105 : zeroC Tryd.prog 105 = some (.w (.nil)) := by kernel_rfl
theorem sz106 : szOf Tryd.prog 106 = some 7 := by kernel_rfl
theorem by106 : byOf Tryd.prog 106 = some 112 := by kernel_rfl
theorem ag106 : isAggT Tryd.prog 106 = some true := by kernel_rfl
theorem zr106 : zeroC Tryd.prog 106 = some (.agg [.d (.str []), .d (.str []), .d (.str []), .d (.str []), .d (.str []), .d (.str []), .d (.str [])]) := by kernel_rfl
theorem sz108 : szOf Tryd.prog 108 = some 1 := by kernel_rfl
theorem by108 : byOf Tryd.prog 108 = some 24 := by kernel_rfl
theorem ag108 : isAggT Tryd.prog 108 = some false := by kernel_rfl
theorem zr108 : zeroC Tryd.prog 108 = some (.w (.full [])) := by kernel_rfl
theorem sz109 : szOf Tryd.prog 109 = some 1 := by kernel_rfl
theorem by109 : byOf Tryd.prog 109 = some 8 := by kernel_rfl
theorem ag109 : isAggT Tryd.prog 109 = some false := by kernel_rfl
theorem zr109 : zeroC Tryd.prog 109 = some (.w (.d (.int .u64 0))) := by kernel_rfl
theorem sz116 : szOf Tryd.prog 116 = some 1 := by kernel_rfl
theorem by116 : byOf Tryd.prog 116 = some 4 := by kernel_rfl
theorem ag116 : isAggT Tryd.prog 116 = some false := by kernel_rfl
theorem zr116 : zeroC Tryd.prog 116 = some (.w (.d (.int .u32 0))) := by kernel_rfl
theorem sz125 : szOf Tryd.prog 125 = some 2 := by kernel_rfl
theorem by125 : byOf Tryd.prog 125 = some 2 := by kernel_rfl
theorem ag125 : isAggT Tryd.prog 125 = some true := by kernel_rfl
theorem zr125 : zeroC Tryd.prog 125 = some (.agg [.d (.int .u8 0), .d (.int .u8 0)]) := by kernel_rfl
theorem sz126 : szOf Tryd.prog 126 = some 2 := by kernel_rfl
theorem by126 : byOf Tryd.prog 126 = some 2 := by kernel_rfl
theorem ag126 : isAggT Tryd.prog 126 = some true := by kernel_rfl
theorem zr126 : zeroC Tryd.prog 126 = some (.agg [.d (.int .u8 0), .d (.int .u8 0)]) := by kernel_rfl
theorem sz127 : szOf Tryd.prog 127 = some 32 := by kernel_rfl
theorem by127 : byOf Tryd.prog 127 = some 32 := by kernel_rfl
theorem ag127 : isAggT Tryd.prog 127 = some true := by kernel_rfl
theorem zr127 : zeroC Tryd.prog 127 = some (.agg [.d (.int .u8 0), .d (.int .u8 0), .d (.int .u8 0), .d (.int .u8 0), .d (.int .u8 0), .d (.int .u8 0), .d (.int .u8 0), .d (.int .u8 0), .d (.int .u8 0), .d (.int .u8 0), .d (.int .u8 0), .d (.int .u8 0), .d (.int .u8 0), .d (.int .u8 0), .d (.int .u8 0), .d (.int .u8 0), .d (.int .u8 0), .d (.int .u8 0), .d (.int .u8 0), .d (.int .u8 0), .d (.int .u8 0), .d (.int .u8 0), .d (.int .u8 0), .d (.int .u8 0), .d (.int .u8 0), .d (.int .u8 0), .d (.int .u8 0), .d (.int .u8 0), .d (.int .u8 0), .d (.int .u8 0), .d (.int .u8 0), .d (.int .u8 0)]) := by kernel_rfl
theorem sz130 : szOf Tryd.prog 130 = some 4 := by kernel_rfl
theorem by130 : byOf Tryd.prog 130 = some 40 := by kernel_rfl
theorem ag130 : isAggT Tryd.prog 130 = some true := by kernel_rfl
theorem zr130 : zeroC Tryd.prog 130 = some (.agg [.nil, .nil, .nil, .d (.str [])]) := by kernel_rfl
theorem sz131 : szOf Tryd.prog 131 = some 4 := by kernel_rfl
theorem by131 : byOf Tryd.prog 131 = some 40 := by kernel_rfl
theorem ag131 : isAggT Tryd.prog 131 = some true := by kernel_rfl
theorem zr131 : zeroC Tryd.prog 131 = some (.agg [.nil, .nil, .nil, .d (.str [])]) := by kernel_rfl
theorem sz135 : szOf Tryd.prog 135 = some 1 := by kernel_rfl
theorem by135 : byOf Tryd.prog 135 = some 1 := by kernel_rfl
theorem ag135 : isAggT Tryd.prog 135 = some false := by kernel_rfl
theorem zr135 : zeroC Tryd.prog 135 = some (.w (.d (.int .u8 0))) := by kernel_rfl
theorem sz136 : szOf Tryd.prog 136 = some 1 := by kernel_rfl
theorem by136 : byOf Tryd.prog 136 = some 1 := by kernel_rfl
theorem ag136 : isAggT Tryd.prog 136 = some false := by kernel_rfl
theorem zr136 : zeroC Tryd.prog 136 = some (.w (.d (.int .u8 0))) := by kernel_rfl
theorem sz138 : szOf Tryd.prog 138 = some 1 := by kernel_rfl
theorem by138 : byOf Tryd.prog 138 = some 8 := by kernel_rfl
theorem ag138 : isAggT Tryd.prog 138 = some false := by kernel_rfl
theorem zr138 : zeroC Tryd.prog 138 = some (.w (.nil)) := by kernel_rfl
theorem sz139 : szOf Tryd.prog 139 = some 1 := by kernel_rfl
theorem by139 : byOf Tryd.prog 139 = some 4 := by kernel_rfl
theorem ag139 : isAggT Tryd.prog 139 = some false := by kernel_rfl
theorem zr139 : zeroC Tryd.prog 139 = some (.w (.d (.int .i32 0))) := by kernel_rfl
theorem sz140 : szOf Tryd.prog 140 = some 1 := by kernel_rfl
theorem by140 : byOf Tryd.prog 140 = some 4 := by kernel_rfl
theorem ag140 : isAggT Tryd.prog 140 = some false := by kernel_rfl
theorem zr140 : zeroC Tryd.prog 140 = some (.w (.d (.int .i32 0))) := by kernel_rfl
theorem sz141 : szOf Tryd.prog 141 = some 11 := by kernel_rfl
theorem by141 : byOf Tryd.prog 141 = some 48 := by kernel_rfl
theorem ag141 : isAggT Tryd.prog 141 = some true := by kernel_rfl
theorem sz142 : szOf Tryd.prog 142 = some 11 := by kernel_rfl
theorem by142 : byOf Tryd.prog 142 = some 48 := by kernel_rfl
theorem ag142 : isAggT Tryd.prog 142 = some true := by kernel_rfl
theorem mixed : Tryd.prog.follows .mixedOrders = true := by kernel_rfl
theorem ownKnob_ : ownKnob Tryd.prog.godebug = none := by kernel_rfl
theorem laid_ : laidOutB Tryd.prog = true := by kernel_rfl
attribute [simp] sz2 by2 ag2 zr2 Tryd.underlying2 sz3 by3 ag3 zr3 Tryd.underlying3 sz4 by4 ag4 zr4 Tryd.underlying4 sz5 by5 ag5 zr5 Tryd.underlying5 sz6 by6 ag6 zr6 Tryd.underlying6 sz7 by7 ag7 zr7 Tryd.underlying7 sz8 by8 ag8 zr8 Tryd.underlying8 sz9 by9 ag9 zr9 Tryd.underlying9 sz10 by10 ag10 zr10 Tryd.underlying10 sz11 by11 ag11 zr11 Tryd.underlying11 sz12 by12 ag12 zr12 Tryd.underlying12 sz13 by13 ag13 zr13 Tryd.underlying13 sz14 by14 ag14 zr14 Tryd.underlying14 sz15 by15 ag15 zr15 Tryd.underlying15 sz16 by16 ag16 zr16 Tryd.underlying16 sz17 by17 ag17 zr17 Tryd.underlying17 sz18 by18 ag18 zr18 Tryd.underlying18 sz19 by19 ag19 zr19 Tryd.underlying19 sz21 by21 ag21 zr21 Tryd.underlying21 sz22 by22 ag22 zr22 Tryd.underlying22 sz24 by24 ag24 zr24 Tryd.underlying24 sz34 by34 ag34 zr34 Tryd.underlying34 sz35 by35 ag35 zr35 Tryd.underlying35 sz39 by39 ag39 zr39 Tryd.underlying39 sz40 by40 ag40 zr40 Tryd.underlying40 sz41 by41 ag41 zr41 Tryd.underlying41 sz44 by44 ag44 zr44 Tryd.underlying44 sz51 by51 ag51 zr51 Tryd.underlying51 sz54 by54 ag54 zr54 Tryd.underlying54 sz59 by59 ag59 zr59 Tryd.underlying59 sz60 by60 ag60 zr60 Tryd.underlying60 sz61 by61 ag61 zr61 Tryd.underlying61 sz64 by64 ag64 zr64 Tryd.underlying64 sz65 by65 ag65 zr65 Tryd.underlying65 sz66 by66 ag66 zr66 Tryd.underlying66 sz67 by67 ag67 zr67 Tryd.underlying67 sz68 by68 ag68 zr68 Tryd.underlying68 sz69 by69 ag69 zr69 Tryd.underlying69 sz70 by70 ag70 zr70 Tryd.underlying70 sz71 by71 ag71 zr71 Tryd.underlying71 sz80 by80 ag80 zr80 Tryd.underlying80 sz81 by81 ag81 zr81 Tryd.underlying81 sz97 by97 ag97 zr97 Tryd.underlying97 sz98 by98 ag98 zr98 Tryd.underlying98 sz105 by105 ag105 zr105 Tryd.underlying105 sz106 by106 ag106 zr106 Tryd.underlying106 sz108 by108 ag108 zr108 Tryd.underlying108 sz109 by109 ag109 zr109 Tryd.underlying109 sz116 by116 ag116 zr116 Tryd.underlying116 sz125 by125 ag125 zr125 Tryd.underlying125 sz126 by126 ag126 zr126 Tryd.underlying126 sz127 by127 ag127 zr127 Tryd.underlying127 sz130 by130 ag130 zr130 Tryd.underlying130 sz131 by131 ag131 zr131 Tryd.underlying131 sz135 by135 ag135 zr135 Tryd.underlying135 sz136 by136 ag136 zr136 Tryd.underlying136 sz138 by138 ag138 zr138 Tryd.underlying138 sz139 by139 ag139 zr139 Tryd.underlying139 sz140 by140 ag140 zr140 Tryd.underlying140 sz141 by141 ag141 Tryd.underlying141 sz142 by142 ag142 Tryd.underlying142
end Go.Proofs.YtkklkkppedociaaDoor.Ev
