/- Sizes and zero values of the program's types. -/
import Derived.Test.YtkklkkppedociaaEvM
import Derived.Test.YtkklkkppedociaaProg
import Derived.KernelRfl
namespace Go.Proofs.Ytkklkkppedociaa.Ev
open Go
theorem sz2 : szOf Try.prog 2 = some 1 := by kernel_rfl
theorem by2 : byOf Try.prog 2 = some 8 := by kernel_rfl
theorem ag2 : isAggT Try.prog 2 = some false := by kernel_rfl
theorem zr2 : zeroC Try.prog 2 = some (.w (.d (.int .i64 0))) := by kernel_rfl
theorem sz3 : szOf Try.prog 3 = some 1 := by kernel_rfl
theorem by3 : byOf Try.prog 3 = some 8 := by kernel_rfl
theorem ag3 : isAggT Try.prog 3 = some false := by kernel_rfl
theorem zr3 : zeroC Try.prog 3 = some (.w (.d (.int .i64 0))) := by kernel_rfl
theorem sz4 : szOf Try.prog 4 = some 1 := by kernel_rfl
theorem by4 : byOf Try.prog 4 = some 1 := by kernel_rfl
theorem ag4 : isAggT Try.prog 4 = some false := by kernel_rfl
theorem zr4 : zeroC Try.prog 4 = some (.w (.d (.bool false))) := by kernel_rfl
theorem sz5 : szOf Try.prog 5 = some 1 := by kernel_rfl
theorem by5 : byOf Try.prog 5 = some 1 := by kernel_rfl
theorem ag5 : isAggT Try.prog 5 = some false := by kernel_rfl
theorem zr5 : zeroC Try.prog 5 = some (.w (.d (.int .u8 0))) := by kernel_rfl
theorem sz6 : szOf Try.prog 6 = some 1 := by kernel_rfl
theorem by6 : byOf Try.prog 6 = some 1 := by kernel_rfl
theorem ag6 : isAggT Try.prog 6 = some false := by kernel_rfl
theorem zr6 : zeroC Try.prog 6 = some (.w (.d (.int .u8 0))) := by kernel_rfl
theorem sz7 : szOf Try.prog 7 = some 4 := by kernel_rfl
theorem by7 : byOf Try.prog 7 = some 24 := by kernel_rfl
theorem ag7 : isAggT Try.prog 7 = some true := by kernel_rfl
theorem zr7 : zeroC Try.prog 7 = some (.agg [.d (.int .i64 0), .d (.int .i64 0), .d (.bool false), .d (.int .u8 0)]) := by kernel_rfl
theorem sz8 : szOf Try.prog 8 = some 4 := by kernel_rfl
theorem by8 : byOf Try.prog 8 = some 24 := by kernel_rfl
theorem ag8 : isAggT Try.prog 8 = some true := by kernel_rfl
theorem zr8 : zeroC Try.prog 8 = some (.agg [.d (.int .i64 0), .d (.int .i64 0), .d (.bool false), .d (.int .u8 0)]) := by kernel_rfl
theorem sz9 : szOf Try.prog 9 = some 1 := by kernel_rfl
theorem by9 : byOf Try.prog 9 = some 16 := by kernel_rfl
theorem ag9 : isAggT Try.prog 9 = some false := by kernel_rfl
theorem zr9 : zeroC Try.prog 9 = some (.w (.d (.str []))) := by kernel_rfl
theorem sz10 : szOf Try.prog 10 = some 1 := by kernel_rfl
theorem by10 : byOf Try.prog 10 = some 16 := by kernel_rfl
theorem ag10 : isAggT Try.prog 10 = some false := by kernel_rfl
theorem zr10 : zeroC Try.prog 10 = some (.w (.d (.str []))) := by kernel_rfl
theorem sz11 : szOf Try.prog 11 = some 1 := by kernel_rfl
theorem by11 : byOf Try.prog 11 = some 16 := by kernel_rfl
theorem ag11 : isAggT Try.prog 11 = some false := by kernel_rfl
theorem zr11 : zeroC Try.prog 11 = some (.w (.d (.str []))) := by kernel_rfl
theorem sz12 : szOf Try.prog 12 = some 1 := by kernel_rfl
theorem by12 : byOf Try.prog 12 = some 8 := by kernel_rfl
theorem ag12 : isAggT Try.prog 12 = some false := by kernel_rfl
theorem zr12 : zeroC Try.prog 12 = some (.w (.d (.int .u64 0))) := by kernel_rfl
theorem sz13 : szOf Try.prog 13 = some 2 := by kernel_rfl
theorem by13 : byOf Try.prog 13 = some 24 := by kernel_rfl
theorem ag13 : isAggT Try.prog 13 = some true := by kernel_rfl
theorem zr13 : zeroC Try.prog 13 = some (.agg [.d (.str []), .d (.int .u64 0)]) := by kernel_rfl
theorem sz14 : szOf Try.prog 14 = some 2 := by kernel_rfl
theorem by14 : byOf Try.prog 14 = some 24 := by kernel_rfl
theorem ag14 : isAggT Try.prog 14 = some true := by kernel_rfl
theorem zr14 : zeroC Try.prog 14 = some (.agg [.d (.str []), .d (.int .u64 0)]) := by kernel_rfl
theorem sz15 : szOf Try.prog 15 = some 1 := by kernel_rfl
theorem by15 : byOf Try.prog 15 = some 8 := by kernel_rfl
theorem ag15 : isAggT Try.prog 15 = some false := by kernel_rfl
theorem zr15 : zeroC Try.prog 15 = some (.w (.nil)) := by kernel_rfl
theorem sz16 : szOf Try.prog 16 = some 1 := by kernel_rfl
theorem by16 : byOf Try.prog 16 = some 8 := by kernel_rfl
theorem ag16 : isAggT Try.prog 16 = some false := by kernel_rfl
theorem zr16 : zeroC Try.prog 16 = some (.w (.nil)) := by kernel_rfl
theorem sz17 : szOf Try.prog 17 = some 1 := by kernel_rfl
theorem by17 : byOf Try.prog 17 = some 8 := by kernel_rfl
theorem ag17 : isAggT Try.prog 17 = some false := by kernel_rfl
theorem zr17 : zeroC Try.prog 17 = some (.w (.nil)) := by kernel_rfl
theorem sz18 : szOf Try.prog 18 = some 1 := by kernel_rfl
theorem by18 : byOf Try.prog 18 = some 8 := by kernel_rfl
theorem ag18 : isAggT Try.prog 18 = some true := by kernel_rfl
theorem zr18 : zeroC Try.prog 18 = some (.agg [.nil]) := by kernel_rfl
theorem sz19 : szOf Try.prog 19 = some 1 := by kernel_rfl
theorem by19 : byOf Try.prog 19 = some 8 := by kernel_rfl
theorem ag19 : isAggT Try.prog 19 = some true := by kernel_rfl
theorem zr19 : zeroC Try.prog 19 = some (.agg [.nil]) := by kernel_rfl
theorem sz21 : szOf Try.prog 21 = some 1 := by kernel_rfl
theorem by21 : byOf Try.prog 21 = some 4 := by kernel_rfl
theorem ag21 : isAggT Try.prog 21 = some false := by kernel_rfl
theorem zr21 : zeroC Try.prog 21 = some (.w (.d (.int .i32 0))) := by kernel_rfl
theorem sz23 : szOf Try.prog 23 = some 1 := by kernel_rfl
theorem by23 : byOf Try.prog 23 = some 8 := by kernel_rfl
theorem ag23 : isAggT Try.prog 23 = some false := by kernel_rfl
theorem zr23 : zeroC Try.prog 23 = some (.w (.d (.int .i64 0))) := by kernel_rfl
theorem sz28 : szOf Try.prog 28 = some 2 := by kernel_rfl
theorem by28 : byOf Try.prog 28 = some 16 := by kernel_rfl
theorem ag28 : isAggT Try.prog 28 = some true := by kernel_rfl
theorem zr28 : zeroC Try.prog 28 = some (.agg [.d (.int .i64 0), .d (.int .i64 0)]) := by kernel_rfl
theorem sz34 : szOf Try.prog 34 = some 1 := by kernel_rfl
theorem by34 : byOf Try.prog 34 = some 24 := by kernel_rfl
theorem ag34 : isAggT Try.prog 34 = some false := by kernel_rfl
theorem zr34 : zeroC Try.prog 34 = some (.w (.full [])) := by kernel_rfl
theorem sz35 : szOf Try.prog 35 = some 1 := by kernel_rfl
theorem by35 : byOf Try.prog 35 = some 24 := by kernel_rfl
theorem ag35 : isAggT Try.prog 35 = some false := by kernel_rfl
theorem zr35 : zeroC Try.prog 35 = some (.w (.full [])) := by kernel_rfl
theorem sz36 : szOf Try.prog 36 = some 2 := by kernel_rfl
theorem by36 : byOf Try.prog 36 = some 16 := by kernel_rfl
theorem ag36 : isAggT Try.prog 36 = some true := by kernel_rfl
theorem zr36 : zeroC Try.prog 36 = some (.agg [.d (.int .i64 0), .d (.int .i64 0)]) := by kernel_rfl
theorem sz37 : szOf Try.prog 37 = some 2 := by kernel_rfl
theorem by37 : byOf Try.prog 37 = some 16 := by kernel_rfl
theorem ag37 : isAggT Try.prog 37 = some true := by kernel_rfl
theorem zr37 : zeroC Try.prog 37 = some (.agg [.d (.int .i64 0), .d (.int .i64 0)]) := by kernel_rfl
theorem sz38 : szOf Try.prog 38 = some 4 := by kernel_rfl
theorem by38 : byOf Try.prog 38 = some 40 := by kernel_rfl
theorem ag38 : isAggT Try.prog 38 = some true := by kernel_rfl
theorem zr38 : zeroC Try.prog 38 = some (.agg [.d (.int .i64 0), .d (.str []), .d (.int .i64 0), .d (.int .i64 0)]) := by kernel_rfl
theorem sz39 : szOf Try.prog 39 = some 4 := by kernel_rfl
theorem by39 : byOf Try.prog 39 = some 40 := by kernel_rfl
theorem ag39 : isAggT Try.prog 39 = some true := by kernel_rfl
theorem zr39 : zeroC Try.prog 39 = some (.agg [.d (.int .i64 0), .d (.str []), .d (.int .i64 0), .d (.int .i64 0)]) := by kernel_rfl
theorem sz40 : szOf Try.prog 40 = some 1 := by kernel_rfl
theorem by40 : byOf Try.prog 40 = some 8 := by kernel_rfl
theorem ag40 : isAggT Try.prog 40 = some false := by kernel_rfl
theorem zr40 : zeroC Try.prog 40 = some (.w (.nil)) := by kernel_rfl
theorem sz42 : szOf Try.prog 42 = some 6 := by kernel_rfl
theorem by42 : byOf Try.prog 42 = some 64 := by kernel_rfl
theorem ag42 : isAggT Try.prog 42 = some true := by kernel_rfl
theorem zr42 : zeroC Try.prog 42 = some (.agg [.full [], .d (.int .i64 0), .d (.int .i64 0), .d (.int .i64 0), .d (.int .i64 0), .d (.int .i64 0)]) := by kernel_rfl
theorem sz43 : szOf Try.prog 43 = some 6 := by kernel_rfl
theorem by43 : byOf Try.prog 43 = some 64 := by kernel_rfl
theorem ag43 : isAggT Try.prog 43 = some true := by kernel_rfl
theorem zr43 : zeroC Try.prog 43 = some (.agg [.full [], .d (.int .i64 0), .d (.int .i64 0), .d (.int .i64 0), .d (.int .i64 0), .d (.int .i64 0)]) := by kernel_rfl
theorem sz44 : szOf Try.prog 44 = some 4 := by kernel_rfl
theorem by44 : byOf Try.prog 44 = some 40 := by kernel_rfl
theorem ag44 : isAggT Try.prog 44 = some true := by kernel_rfl
theorem zr44 : zeroC Try.prog 44 = some (.agg [.d (.int .i64 0), .d (.int .i64 0), .d (.str []), .d (.int .i64 0)]) := by kernel_rfl
theorem sz45 : szOf Try.prog 45 = some 4 := by kernel_rfl
theorem by45 : byOf Try.prog 45 = some 40 := by kernel_rfl
theorem ag45 : isAggT Try.prog 45 = some true := by kernel_rfl
theorem zr45 : zeroC Try.prog 45 = some (.agg [.d (.int .i64 0), .d (.int .i64 0), .d (.str []), .d (.int .i64 0)]) := by kernel_rfl
theorem sz63 : szOf Try.prog 63 = some 3 := by kernel_rfl
theorem by63 : byOf Try.prog 63 = some 24 := by kernel_rfl
theorem ag63 : isAggT Try.prog 63 = some true := by kernel_rfl
theorem zr63 : zeroC Try.prog 63 = some (.agg [.d (.int .i64 0), .d (.int .i64 0), .d (.int .i64 0)]) := by kernel_rfl
theorem sz64 : szOf Try.prog 64 = some 3 := by kernel_rfl
theorem by64 : byOf Try.prog 64 = some 24 := by kernel_rfl
theorem ag64 : isAggT Try.prog 64 = some true := by kernel_rfl
theorem zr64 : zeroC Try.prog 64 = some (.agg [.d (.int .i64 0), .d (.int .i64 0), .d (.int .i64 0)]) := by kernel_rfl
theorem sz65 : szOf Try.prog 65 = some 6 := by kernel_rfl
theorem by65 : byOf Try.prog 65 = some 64 := by kernel_rfl
theorem ag65 : isAggT Try.prog 65 = some true := by kernel_rfl
theorem zr65 : zeroC Try.prog 65 = some (.agg [.d (.bool false), .full [], .d (.int .i64 0), .d (.int .i64 0), .d (.int .i64 0), .d (.int .i64 0)]) := by kernel_rfl
theorem sz66 : szOf Try.prog 66 = some 6 := by kernel_rfl
theorem by66 : byOf Try.prog 66 = some 64 := by kernel_rfl
theorem ag66 : isAggT Try.prog 66 = some true := by kernel_rfl
theorem zr66 : zeroC Try.prog 66 = some (.agg [.d (.bool false), .full [], .d (.int .i64 0), .d (.int .i64 0), .d (.int .i64 0), .d (.int .i64 0)]) := by kernel_rfl
theorem sz68 : szOf Try.prog 68 = some 4 := by kernel_rfl
theorem by68 : byOf Try.prog 68 = some 32 := by kernel_rfl
theorem ag68 : isAggT Try.prog 68 = some true := by kernel_rfl
theorem zr68 : zeroC Try.prog 68 = some (.agg [.d (.int .i64 0), .d (.int .i64 0), .d (.int .i64 0), .d (.int .i64 0)]) := by kernel_rfl
theorem sz70 : szOf Try.prog 70 = some 1 := by kernel_rfl
theorem by70 : byOf Try.prog 70 = some 24 := by kernel_rfl
theorem ag70 : isAggT Try.prog 70 = some false := by kernel_rfl
theorem zr70 : zeroC Try.prog 70 = some (.w (.full [])) := by kernel_rfl
theorem sz72 : szOf Try.prog 72 = some 1 := by kernel_rfl
theorem by72 : byOf Try.prog 72 = some 8 := by kernel_rfl
theorem ag72 : isAggT Try.prog 72 = some false := by kernel_rfl
theorem zr72 : zeroC Try.prog 72 = some (.w (.d (.int .u64 0))) := by kernel_rfl
theorem sz76 : szOf Try.prog 76 = some 1 := by kernel_rfl
theorem by76 : byOf Try.prog 76 = some 24 := by kernel_rfl
theorem ag76 : isAggT Try.prog 76 = some false := by kernel_rfl
theorem zr76 : zeroC Try.prog 76 = some (.w (.full [])) := by kernel_rfl
theorem sz77 : szOf Try.prog 77 = some 3 := by kernel_rfl
theorem by77 : byOf Try.prog 77 = some 48 := by kernel_rfl
theorem ag77 : isAggT Try.prog 77 = some true := by kernel_rfl
theorem zr77 : zeroC Try.prog 77 = some (.agg [.d (.str []), .d (.bool false), .full []]) := by kernel_rfl
theorem sz78 : szOf Try.prog 78 = some 3 := by kernel_rfl
theorem by78 : byOf Try.prog 78 = some 48 := by kernel_rfl
theorem ag78 : isAggT Try.prog 78 = some true := by kernel_rfl
theorem zr78 : zeroC Try.prog 78 = some (.agg [.d (.str []), .d (.bool false), .full []]) := by kernel_rfl
theorem sz79 : szOf Try.prog 79 = some 3 := by kernel_rfl
theorem by79 : byOf Try.prog 79 = some 32 := by kernel_rfl
theorem ag79 : isAggT Try.prog 79 = some true := by kernel_rfl
theorem zr79 : zeroC Try.prog 79 = some (.agg [.d (.int .i64 0), .d (.int .i64 0), .d (.str [])]) := by kernel_rfl
theorem sz80 : szOf Try.prog 80 = some 3 := by kernel_rfl
theorem by80 : byOf Try.prog 80 = some 32 := by kernel_rfl
theorem ag80 : isAggT Try.prog 80 = some true := by kernel_rfl
theorem zr80 : zeroC Try.prog 80 = some (.agg [.d (.int .i64 0), .d (.int .i64 0), .d (.str [])]) := by kernel_rfl
theorem sz81 : szOf Try.prog 81 = some 1 := by kernel_rfl
theorem by81 : byOf Try.prog 81 = some 24 := by kernel_rfl
theorem ag81 : isAggT Try.prog 81 = some false := by kernel_rfl
theorem zr81 : zeroC Try.prog 81 = some (.w (.full [])) := by kernel_rfl
theorem sz82 : szOf Try.prog 82 = some 4 := by kernel_rfl
theorem by82 : byOf Try.prog 82 = some 40 := by kernel_rfl
theorem ag82 : isAggT Try.prog 82 = some true := by kernel_rfl
theorem zr82 : zeroC Try.prog 82 = some (.agg [.d (.str []), .d (.int .i64 0), .d (.int .i64 0), .d (.int .i64 0)]) := by kernel_rfl
theorem sz83 : szOf Try.prog 83 = some 4 := by kernel_rfl
theorem by83 : byOf Try.prog 83 = some 40 := by kernel_rfl
theorem ag83 : isAggT Try.prog 83 = some true := by kernel_rfl
theorem zr83 : zeroC Try.prog 83 = some (.agg [.d (.str []), .d (.int .i64 0), .d (.int .i64 0), .d (.int .i64 0)]) := by kernel_rfl
theorem sz84 : szOf Try.prog 84 = some 1 := by kernel_rfl
theorem by84 : byOf Try.prog 84 = some 24 := by kernel_rfl
theorem ag84 : isAggT Try.prog 84 = some false := by kernel_rfl
theorem zr84 : zeroC Try.prog 84 = some (.w (.full [])) := by kernel_rfl
theorem sz85 : szOf Try.prog 85 = some 1 := by kernel_rfl
theorem by85 : byOf Try.prog 85 = some 24 := by kernel_rfl
theorem ag85 : isAggT Try.prog 85 = some false := by kernel_rfl
theorem zr85 : zeroC Try.prog 85 = some (.w (.full [])) := by kernel_rfl
theorem sz86 : szOf Try.prog 86 = some 6 := by kernel_rfl
theorem by86 : byOf Try.prog 86 = some 80 := by kernel_rfl
theorem ag86 : isAggT Try.prog 86 = some true := by kernel_rfl
theorem zr86 : zeroC Try.prog 86 = some (.agg [.full [], .d (.int .i64 0), .d (.int .i64 0), .d (.int .i64 0), .d (.int .i64 0), .full []]) := by kernel_rfl
theorem sz87 : szOf Try.prog 87 = some 6 := by kernel_rfl
theorem by87 : byOf Try.prog 87 = some 80 := by kernel_rfl
theorem ag87 : isAggT Try.prog 87 = some true := by kernel_rfl
theorem zr87 : zeroC Try.prog 87 = some (.agg [.full [], .d (.int .i64 0), .d (.int .i64 0), .d (.int .i64 0), .d (.int .i64 0), .full []]) := by kernel_rfl
theorem sz88 : szOf Try.prog 88 = some 1 := by kernel_rfl
theorem by88 : byOf Try.prog 88 = some 24 := by kernel_rfl
theorem ag88 : isAggT Try.prog 88 = some false := by kernel_rfl
theorem zr88 : zeroC Try.prog 88 = some (.w (.full [])) := by kernel_rfl
theorem sz93 : szOf Try.prog 93 = some 20 := by kernel_rfl
theorem by93 : byOf Try.prog 93 = some 20 := by kernel_rfl
theorem ag93 : isAggT Try.prog 93 = some true := by kernel_rfl
theorem zr93 : zeroC Try.prog 93 = some (.agg [.d (.int .u8 0), .d (.int .u8 0), .d (.int .u8 0), .d (.int .u8 0), .d (.int .u8 0), .d (.int .u8 0), .d (.int .u8 0), .d (.int .u8 0), .d (.int .u8 0), .d (.int .u8 0), .d (.int .u8 0), .d (.int .u8 0), .d (.int .u8 0), .d (.int .u8 0), .d (.int .u8 0), .d (.int .u8 0), .d (.int .u8 0), .d (.int .u8 0), .d (.int .u8 0), .d (.int .u8 0)]) := by kernel_rfl
theorem sz97 : szOf Try.prog 97 = some 1 := by kernel_rfl
theorem by97 : byOf Try.prog 97 = some 24 := by kernel_rfl
theorem ag97 : isAggT Try.prog 97 = some false := by kernel_rfl
theorem zr97 : zeroC Try.prog 97 = some (.w (.full [])) := by kernel_rfl
theorem sz113 : szOf Try.prog 113 = some 1 := by kernel_rfl
theorem by113 : byOf Try.prog 113 = some 8 := by kernel_rfl
theorem ag113 : isAggT Try.prog 113 = some false := by kernel_rfl
theorem zr113 : zeroC Try.prog 113 = some (.w (.d (.int .u64 0))) := by kernel_rfl
theorem sz116 : szOf Try.prog 116 = some 1 := by kernel_rfl
theorem by116 : byOf Try.prog 116 = some 8 := by kernel_rfl
theorem ag116 : isAggT Try.prog 116 = some false := by kernel_rfl
theorem zr116 : zeroC Try.prog 116 = some (.w (.nil)) := by kernel_rfl
theorem sz117 : szOf Try.prog 117 = some 2 := by kernel_rfl
theorem by117 : byOf Try.prog 117 = some 32 := by kernel_rfl
theorem ag117 : isAggT Try.prog 117 = some true := by kernel_rfl
theorem zr117 : zeroC Try.prog 117 = some (.agg [.nil, .full []]) := by kernel_rfl
theorem sz118 : szOf Try.prog 118 = some 2 := by kernel_rfl
theorem by118 : byOf Try.prog 118 = some 32 := by kernel_rfl
theorem ag118 : isAggT Try.prog 118 = some true := by kernel_rfl
theorem zr118 : zeroC Try.prog 118 = some (.agg [.nil, .full []]) := by kernel_rfl
theorem sz130 : szOf Try.prog 130 = some 1 := by kernel_rfl
theorem by130 : byOf Try.prog 130 = some 24 := by kernel_rfl
theorem ag130 : isAggT Try.prog 130 = some false := by kernel_rfl
theorem zr130 : zeroC Try.prog 130 = some (.w (.full [])) := by kernel_rfl
theorem sz137 : szOf Try.prog 137 = some 1 := by kernel_rfl
theorem by137 : byOf Try.prog 137 = some 8 := by kernel_rfl
theorem ag137 : isAggT Try.prog 137 = some false := by kernel_rfl
theorem zr137 : zeroC Try.prog 137 = some (.w (.d (.int .i64 0))) := by kernel_rfl
theorem sz145 : szOf Try.prog 145 = some 1 := by kernel_rfl
theorem by145 : byOf Try.prog 145 = some 4 := by kernel_rfl
theorem ag145 : isAggT Try.prog 145 = some false := by kernel_rfl
theorem zr145 : zeroC Try.prog 145 = some (.w (.d (.int .u32 0))) := by kernel_rfl
theorem sz152 : szOf Try.prog 152 = some 1 := by kernel_rfl
theorem by152 : byOf Try.prog 152 = some 8 := by kernel_rfl
theorem ag152 : isAggT Try.prog 152 = some false := by kernel_rfl
theorem zr152 : zeroC Try.prog 152 = some (.w (.nil)) := by kernel_rfl
theorem sz157 : szOf Try.prog 157 = some 1 := by kernel_rfl
theorem by157 : byOf Try.prog 157 = some 8 := by kernel_rfl
theorem ag157 : isAggT Try.prog 157 = some false := by kernel_rfl
theorem zr157 : zeroC Try.prog 157 = some (.w (.nil)) := by kernel_rfl
theorem sz159 : szOf Try.prog 159 = some 1 := by kernel_rfl
theorem by159 : byOf Try.prog 159 = some 8 := by kernel_rfl
theorem ag159 : isAggT Try.prog 159 = some false := by kernel_rfl
theorem zr159 : zeroC Try.prog 159 = some (.w (.d (.int .u64 0))) := by kernel_rfl
theorem sz163 : szOf Try.prog 163 = some 1 := by kernel_rfl
theorem by163 : byOf Try.prog 163 = some 8 := by kernel_rfl
theorem ag163 : isAggT Try.prog 163 = some false := by kernel_rfl
theorem zr163 : zeroC Try.prog 163 = some (.w (.nil)) := by kernel_rfl
theorem sz168 : szOf Try.prog 168 = some 21 := by kernel_rfl
theorem by168 : byOf Try.prog 168 = some 336 := by kernel_rfl
theorem ag168 : isAggT Try.prog 168 = some true := by kernel_rfl
theorem zr168 : zeroC Try.prog 168 = some (.agg [.d (.str []), .d (.str []), .d (.str []), .d (.str []), .d (.str []), .d (.str []), .d (.str []), .d (.str []), .d (.str []), .d (.str []), .d (.str []), .d (.str []), .d (.str []), .d (.str []), .d (.str []), .d (.str []), .d (.str []), .d (.str []), .d (.str []), .d (.str []), .d (.str [])]) := by kernel_rfl
theorem sz175 : szOf Try.prog 175 = some 1 := by kernel_rfl
theorem by175 : byOf Try.prog 175 = some 8 := by kernel_rfl
theorem ag175 : isAggT Try.prog 175 = some false := by kernel_rfl
theorem zr175 : zeroC Try.prog 175 = some (.w (.nil)) := by kernel_rfl
theorem sz183 : szOf Try.prog 183 = some 4 := by kernel_rfl
theorem by183 : byOf Try.prog 183 = some 40 := by kernel_rfl
theorem ag183 : isAggT Try.prog 183 = some true := by kernel_rfl
theorem zr183 : zeroC Try.prog 183 = some (.agg [.nil, .nil, .nil, .d (.str [])]) := by kernel_rfl
theorem sz184 : szOf Try.prog 184 = some 4 := by kernel_rfl
theorem by184 : byOf Try.prog 184 = some 40 := by kernel_rfl
theorem ag184 : isAggT Try.prog 184 = some true := by kernel_rfl
theorem zr184 : zeroC Try.prog 184 = some (.agg [.nil, .nil, .nil, .d (.str [])]) := by kernel_rfl
theorem sz188 : szOf Try.prog 188 = some 1 := by kernel_rfl
theorem by188 : byOf Try.prog 188 = some 1 := by kernel_rfl
theorem ag188 : isAggT Try.prog 188 = some false := by kernel_rfl
theorem zr188 : zeroC Try.prog 188 = some (.w (.d (.int .u8 0))) := by kernel_rfl
theorem sz189 : szOf Try.prog 189 = some 1 := by kernel_rfl
theorem by189 : byOf Try.prog 189 = some 1 := by kernel_rfl
theorem ag189 : isAggT Try.prog 189 = some false := by kernel_rfl
theorem zr189 : zeroC Try.prog 189 = some (.w (.d (.int .u8 0))) := by kernel_rfl
theorem sz191 : szOf Try.prog 191 = some 1 := by kernel_rfl
theorem by191 : byOf Try.prog 191 = some 4 := by kernel_rfl
theorem ag191 : isAggT Try.prog 191 = some false := by kernel_rfl
theorem zr191 : zeroC Try.prog 191 = some (.w (.d (.int .i32 0))) := by kernel_rfl
theorem sz192 : szOf Try.prog 192 = some 1 := by kernel_rfl
theorem by192 : byOf Try.prog 192 = some 4 := by kernel_rfl
theorem ag192 : isAggT Try.prog 192 = some false := by kernel_rfl
theorem zr192 : zeroC Try.prog 192 = some (.w (.d (.int .i32 0))) := by kernel_rfl
theorem sz193 : szOf Try.prog 193 = some 11 := by kernel_rfl
theorem by193 : byOf Try.prog 193 = some 48 := by kernel_rfl
theorem ag193 : isAggT Try.prog 193 = some true := by kernel_rfl
theorem sz194 : szOf Try.prog 194 = some 11 := by kernel_rfl
theorem by194 : byOf Try.prog 194 = some 48 := by kernel_rfl
theorem ag194 : isAggT Try.prog 194 = some true := by kernel_rfl
theorem mixed : Try.prog.follows .mixedOrders = true := by kernel_rfl
theorem ownKnob_ : ownKnob Try.prog.godebug = none := by kernel_rfl
theorem laid_ : laidOutB Try.prog = true := by kernel_rfl
attribute [simp] sz2 by2 ag2 zr2 Try.underlying2 sz3 by3 ag3 zr3 Try.underlying3 sz4 by4 ag4 zr4 Try.underlying4 sz5 by5 ag5 zr5 Try.underlying5 sz6 by6 ag6 zr6 Try.underlying6 sz7 by7 ag7 zr7 Try.underlying7 sz8 by8 ag8 zr8 Try.underlying8 sz9 by9 ag9 zr9 Try.underlying9 sz10 by10 ag10 zr10 Try.underlying10 sz11 by11 ag11 zr11 Try.underlying11 sz12 by12 ag12 zr12 Try.underlying12 sz13 by13 ag13 zr13 Try.underlying13 sz14 by14 ag14 zr14 Try.underlying14 sz15 by15 ag15 zr15 Try.underlying15 sz16 by16 ag16 zr16 Try.underlying16 sz17 by17 ag17 zr17 Try.underlying17 sz18 by18 ag18 zr18 Try.underlying18 sz19 by19 ag19 zr19 Try.underlying19 sz21 by21 ag21 zr21 Try.underlying21 sz23 by23 ag23 zr23 Try.underlying23 sz28 by28 ag28 zr28 Try.underlying28 sz34 by34 ag34 zr34 Try.underlying34 sz35 by35 ag35 zr35 Try.underlying35 sz36 by36 ag36 zr36 Try.underlying36 sz37 by37 ag37 zr37 Try.underlying37 sz38 by38 ag38 zr38 Try.underlying38 sz39 by39 ag39 zr39 Try.underlying39 sz40 by40 ag40 zr40 Try.underlying40 sz42 by42 ag42 zr42 Try.underlying42 sz43 by43 ag43 zr43 Try.underlying43 sz44 by44 ag44 zr44 Try.underlying44 sz45 by45 ag45 zr45 Try.underlying45 sz63 by63 ag63 zr63 Try.underlying63 sz64 by64 ag64 zr64 Try.underlying64 sz65 by65 ag65 zr65 Try.underlying65 sz66 by66 ag66 zr66 Try.underlying66 sz68 by68 ag68 zr68 Try.underlying68 sz70 by70 ag70 zr70 Try.underlying70 sz72 by72 ag72 zr72 Try.underlying72 sz76 by76 ag76 zr76 Try.underlying76 sz77 by77 ag77 zr77 Try.underlying77 sz78 by78 ag78 zr78 Try.underlying78 sz79 by79 ag79 zr79 Try.underlying79 sz80 by80 ag80 zr80 Try.underlying80 sz81 by81 ag81 zr81 Try.underlying81 sz82 by82 ag82 zr82 Try.underlying82 sz83 by83 ag83 zr83 Try.underlying83 sz84 by84 ag84 zr84 Try.underlying84 sz85 by85 ag85 zr85 Try.underlying85 sz86 by86 ag86 zr86 Try.underlying86 sz87 by87 ag87 zr87 Try.underlying87 sz88 by88 ag88 zr88 Try.underlying88 sz93 by93 ag93 zr93 Try.underlying93 sz97 by97 ag97 zr97 Try.underlying97 sz113 by113 ag113 zr113 Try.underlying113 sz116 by116 ag116 zr116 Try.underlying116 sz117 by117 ag117 zr117 Try.underlying117 sz118 by118 ag118 zr118 Try.underlying118 sz130 by130 ag130 zr130 Try.underlying130 sz137 by137 ag137 zr137 Try.underlying137 sz145 by145 ag145 zr145 Try.underlying145 sz152 by152 ag152 zr152 Try.underlying152 sz157 by157 ag157 zr157 Try.underlying157 sz159 by159 ag159 zr159 Try.underlying159 sz163 by163 ag163 zr163 Try.underlying163 sz168 by168 ag168 zr168 Try.underlying168 sz175 by175 ag175 zr175 Try.underlying175 sz183 by183 ag183 zr183 Try.underlying183 sz184 by184 ag184 zr184 Try.underlying184 sz188 by188 ag188 zr188 Try.underlying188 sz189 by189 ag189 zr189 Try.underlying189 sz191 by191 ag191 zr191 Try.underlying191 sz192 by192 ag192 zr192 Try.underlying192 sz193 by193 ag193 Try.underlying193 sz194 by194 ag194 Try.underlying194
end Go.Proofs.Ytkklkkppedociaa.Ev
