/- Texts of mine, merged (wip/tool/mergep.py): S, KKit, KSchema, DecSchema, KSchema2, SchP, HP, KGeo, HI, KIter, Crc, Crc2, KCrc, KFrame. -/
import Derived.Test.YtplgodmmmppmeaaGreatM1
import Derived.Test.YtplgodmmmppmeaaGreatChecked
import Derived.Test.YtplgodmmmppmeaaGreatM2
import Derived.Lib.AppendZerosOnto
import Derived.RangeFuncRecord
open Go.IntKind (wrap)
open Go.Proofs.Tryz (prog)
open List (mem_cons_self mem_cons_of_mem mem_cons length_cons map_map mem_append mem_append_left drop_drop mem_range mem_of_getElem? getElem_mem mem_iff_getElem map_cons mem_map append_assoc nodup_cons foldl_cons length_nil append_nil length_map length_set eq_nil_of_length_eq_zero range_succ map_congr_left length_append drop_of_length_le take_of_length_le getD_eq_getElem?_getD drop_eq_getElem_cons mem_singleton not_mem_nil take_succ_eq_append_getElem all_eq_true flatMap_cons length_take length_drop take_add_one length_replicate take_left' drop_left' length_singleton map_append length_range getElem_range flatMap_append)
set_option linter.unusedVariables false
set_option linter.unusedSimpArgs false
namespace Go.Proofs.YtplgodmmmppmeaaGreat
/- The shallow forms of the functions,by a program of mine (wip/tool/gen.py). -/
set_option maxRecDepth 100000
namespace V
open Go Go.Proofs
theorem zo1 (x0:Option Addr) (x1:ByteArray) {K:Value->WP} {w:World} (h:S85 x0 x1 K w):Calls prog 85 #[(.pointer x0),(.string x1)] w (Ret K):=cF an85 true Tryz.func85 h
def an86:Ann:=(AN (AR (AN (AQ AO AP)) (AR (AN (AQ AO AP)) (AN (AR (AN (.block (.loop [(27,.sh (.one (.int .i64)))] [0,1,2,10,25,26,1000000] (AN (AR (AQ AP AP) (.join [] [0,1,2,10,25,26,27,1000000] (.block (AN (.join [] [0,1,2,10,12,25,26,27,1000000] (AN (AQ AO AP)) (AN (AQ AP AP))))) AP)))))) AO)))))
def S86 (x0:Option Addr) (x1:Bool) (a2:Option Addr) (n2 c2:Nat) (a3:Option Addr) (n3 c3:Nat) (K:Value->WP):WP:=
 za (Option.isNone x0) (K (.tuple #[(.int .u32 (0:Int)),(.int .i64 (1:Int))]))<|
 za (((n2:Nat):Int) !=((n3:Nat):Int)) (K (.tuple #[(.int .u32 (0:Int)),(.int .i64 (2:Int))]))<|
 ze prog 133 [(.bool x1)] (.one (.one (.int .u8))) fun(u1:Int)=>
 zi (.cells #[(.int .u8 (0:Int)),(.slice none 0 0),(.slice none 0 0),(.slice none 0 0)] 215) fun(r2:Nat)=>
 zc ((#[(.int .u8 u1),(.slice a2 n2 c2),(.slice a3 n3 c3),(.slice none 0 0)]:Array Value).size=4)<|
 zt (aD r2) [(.int .u8 u1),(.slice a2 n2 c2),(.slice a3 n3 c3),(.slice none 0 0)]<|
 zB (Int×Unit) ((0:Int),()) fun(y4:Int×Unit) (I3:(Int×Unit)->WP)=>
 za (decide (y4.1<((n3:Nat):Int))) (yD (Unit) (fun(J5:(Unit)->WP)=>
 zc (0<=y4.1/\y4.1<((n3:Nat):Int))<|
 zh a3 fun(p7:Addr)=>
 ldW (.int .u64) (p7.add (Int.toNat y4.1*1)) fun(u8:Int)=>
 yD (Unit) (fun(J9:(Unit)->WP)=>
 zD<|
 za (decide (y4.1>(0:Int))) (zc (0<=(wrap .i64 (y4.1-(1:Int)))/\(wrap .i64 (y4.1-(1:Int)))<((n2:Nat):Int))<|
 zh a2 fun(p11:Addr)=>
 ldW (.int .u64) (p11.add (Int.toNat (wrap .i64 (y4.1-(1:Int)))*1)) fun(u12:Int)=>
 zc (0<=y4.1/\y4.1<((n2:Nat):Int))<|
 zh a2 fun(p13:Addr)=>
 ldW (.int .u64) (p13.add (Int.toNat y4.1*1)) fun(u14:Int)=>
 za (decide (u12>=u14)) (K (.tuple #[(.int .u32 (0:Int)),(.int .i64 (2:Int))]))<|
 za x1 (ze prog 134 [(.pointer x0),(.int .u64 u8)] (.one (.one .bool)) fun(u15:Bool)=>
 za (!u15) (K (.tuple #[(.int .u32 (0:Int)),(.int .i64 (2:Int))]))<|J9 ())<|J9 ())<|
 za x1 (ze prog 134 [(.pointer x0),(.int .u64 u8)] (.one (.one .bool)) fun(u16:Bool)=>
 za (!u16) (K (.tuple #[(.int .u32 (0:Int)),(.int .i64 (2:Int))]))<|J9 ())<|J9 ()) fun(y10:Unit)=>
 za x1 (ldW .slc ((aD r2).add 3) fun(u17:SLC)=>
 zi (.cells #[(.int .u32 (wrap .u32 u8))] 41) fun(r18:Nat)=>
 zv prog (Builtin.append_ #[54,54] 54 #[(.slice u17.1 u17.2.1 u17.2.2),(.slice (some (aD r18)) 1 1)]) .slc fun(u19:SLC)=>
 stW ((aD r2).add 3) (.slice u19.1 u19.2.1 u19.2.2)<|J5 ())<|J5 ()) fun(y6:Unit)=>I3 ((wrap .i64 (y4.1+(1:Int))),()))<|
 zl [(.int .u8),.slc,.slc,.slc] (aD r2) fun(u20:(Int×SLC×SLC×SLC×Unit))=>
 ze prog 135 [(.agg #[(.int .u8 u20.1),(.slice u20.2.1.1 u20.2.1.2.1 u20.2.1.2.2),(.slice u20.2.2.1.1 u20.2.2.1.2.1 u20.2.2.1.2.2),(.slice u20.2.2.2.1.1 u20.2.2.2.1.2.1 u20.2.2.2.1.2.2)]),(.pointer x0),(.int .i64 (1:Int))] (.many [(.one (.int .u32)),(.one (.int .i64))]) fun(u21:Int×Int×Unit)=>K (.tuple #[(.int .u32 u21.1),(.int .i64 u21.2.1)])
theorem zo2 (x0:Option Addr) (x1:Bool) (a2:Option Addr) (n2 c2:Nat) (a3:Option Addr) (n3 c3:Nat) {K:Value->WP} {w:World} (h:S86 x0 x1 a2 n2 c2 a3 n3 c3 K w):Calls prog 86 #[(.pointer x0),(.bool x1),(.slice a2 n2 c2),(.slice a3 n3 c3)] w (Ret K):=cF an86 false Tryz.func86 h
def an87:Ann:=(AN (AN (AR (AN (AQ AO AP)) (AN AO))))
def S87 (x0:Option Addr) (x1:Int) (K:Value->WP):WP:=
 ze prog 136 [(.pointer x0),(.int .u32 x1)] (.many [(.one .ptr),(.one (.int .i64))]) fun(u1:Option Addr×Int×Unit)=>
 za (u1.2.1 !=(0:Int)) (K (.tuple #[(.int .i64 (0:Int)),(.int .i64 u1.2.1)]))<|
 zh u1.1 fun(p2:Addr)=>
 ldW (.int .u16) p2 fun(u3:Int)=>
 zh u1.1 fun(p4:Addr)=>
 stW p4 (.int .u16 (wrap .u16 (u3-(1:Int))))<|
 zh u1.1 fun(p5:Addr)=>
 ldW (.int .u16) p5 fun(u6:Int)=>K (.tuple #[(.int .i64 (wrap .i64 u6)),(.int .i64 (0:Int))])
theorem zo3 (x0:Option Addr) (x1:Int) {K:Value->WP} {w:World} (h:S87 x0 x1 K w):Calls prog 87 #[(.pointer x0),(.int .u32 x1)] w (Ret K):=cF an87 false Tryz.func87 h
def an88:Ann:=(AN (AR (.block (AN (AQ AO (AN (AQ AO (AN (AQ AO AP))))))) (AN (AR (AN (AQ AO AP)) AO))))
def S88 (x0:Option Addr) (x1:Int) (K:Value->WP):WP:=
 zi (.cells #[(.int .u8 (0:Int)),(.slice none 0 0),(.string ByteArray.empty)] 56) fun(r1:Nat)=>
 za (Option.isNone x0) (zc ((#[(.int .u8 (0:Int)),(.slice none 0 0),(.string ByteArray.empty)]:Array Value).size=3)<|
 zt (aD r1) [(.int .u8 (0:Int)),(.slice none 0 0),(.string ByteArray.empty)]<|
 zl [(.int .u8),.slc,.str] (aD r1) fun(u2:(Int×SLC×ByteArray×Unit))=>K (.tuple #[(.agg #[(.int .u8 u2.1),(.slice u2.2.1.1 u2.2.1.2.1 u2.2.1.2.2),(.string u2.2.2.1)]),(.int .i64 (1:Int))]))<|
 ze prog 73 [(.pointer x0),(.int .u32 x1)] (.one (.one .bool)) fun(u3:Bool)=>
 za (!u3) (zc ((#[(.int .u8 (0:Int)),(.slice none 0 0),(.string ByteArray.empty)]:Array Value).size=3)<|
 zt (aD r1) [(.int .u8 (0:Int)),(.slice none 0 0),(.string ByteArray.empty)]<|
 zl [(.int .u8),.slc,.str] (aD r1) fun(u4:(Int×SLC×ByteArray×Unit))=>K (.tuple #[(.agg #[(.int .u8 u4.1),(.slice u4.2.1.1 u4.2.1.2.1 u4.2.1.2.2),(.string u4.2.2.1)]),(.int .i64 (2:Int))]))<|
 zh x0 fun(p5:Addr)=>
 ldW .ptr (p5.add 8) fun(u6:Option Addr)=>
 ze prog 75 [(.pointer u6),(.int .u32 x1)] (.one (.one (.int .i64))) fun(u7:Int)=>
 za (u7==(0:Int)) (zc ((#[(.int .u8 (0:Int)),(.slice none 0 0),(.string ByteArray.empty)]:Array Value).size=3)<|
 zt (aD r1) [(.int .u8 (0:Int)),(.slice none 0 0),(.string ByteArray.empty)]<|
 zl [(.int .u8),.slc,.str] (aD r1) fun(u8:(Int×SLC×ByteArray×Unit))=>K (.tuple #[(.agg #[(.int .u8 u8.1),(.slice u8.2.1.1 u8.2.1.2.1 u8.2.1.2.2),(.string u8.2.2.1)]),(.int .i64 (8:Int))]))<|
 zh x0 fun(p9:Addr)=>
 ldW .ptr p9 fun(u10:Option Addr)=>
 ze prog 137 [(.pointer u10),(.int .i64 (wrap .i64 x1))] (.many [(.one .str),(.one (.int .i64))]) fun(u11:ByteArray×Int×Unit)=>
 za (u11.2.1 !=(0:Int)) (zc ((#[(.int .u8 (0:Int)),(.slice none 0 0),(.string ByteArray.empty)]:Array Value).size=3)<|
 zt (aD r1) [(.int .u8 (0:Int)),(.slice none 0 0),(.string ByteArray.empty)]<|
 zl [(.int .u8),.slc,.str] (aD r1) fun(u12:(Int×SLC×ByteArray×Unit))=>K (.tuple #[(.agg #[(.int .u8 u12.1),(.slice u12.2.1.1 u12.2.1.2.1 u12.2.1.2.2),(.string u12.2.2.1)]),(.int .i64 u11.2.1)]))<|
 ze prog 138 [(.pointer x0),(.string u11.1)] (.many [(.agg [(.int .u8),.slc,.str]),(.one (.int .i64))]) fun(u13:(Int×SLC×ByteArray×Unit)×Int×Unit)=>
 zc ((#[(.int .u8 u13.1.1),(.slice u13.1.2.1.1 u13.1.2.1.2.1 u13.1.2.1.2.2),(.string u13.1.2.2.1)]:Array Value).size=3)<|
 zt (aD r1) [(.int .u8 u13.1.1),(.slice u13.1.2.1.1 u13.1.2.1.2.1 u13.1.2.1.2.2),(.string u13.1.2.2.1)]<|
 zl [(.int .u8),.slc,.str] (aD r1) fun(u14:(Int×SLC×ByteArray×Unit))=>K (.tuple #[(.agg #[(.int .u8 u14.1),(.slice u14.2.1.1 u14.2.1.2.1 u14.2.1.2.2),(.string u14.2.2.1)]),(.int .i64 u13.2.1)])
theorem zo4 (x0:Option Addr) (x1:Int) {K:Value->WP} {w:World} (h:S88 x0 x1 K w):Calls prog 88 #[(.pointer x0),(.int .u32 x1)] w (Ret K):=cF an88 false Tryz.func88 h
def an89:Ann:=(AN (.block (.loop [(2,.sh (.one (.int .i64))),(3,.sh (.one (.int .i64)))] [0,1000000] (AR (AN (AQ AP AP)) (AR (.block AP) AP)))))
def S89 (a0:Option Addr) (n0 c0:Nat) (K:Value->WP):WP:=
 zB (Int×Int×Unit) ((0:Int),(wrap .i64 (((n0:Nat):Int)-(1:Int))),()) fun(y2:Int×Int×Unit) (I1:(Int×Int×Unit)->WP)=>
 za (decide (y2.1<y2.2.1)) (zD<|
 zc (0<=y2.2.1/\y2.2.1<((n0:Nat):Int))<|
 zh a0 fun(p3:Addr)=>
 ldW (.int .u32) (p3.add (Int.toNat y2.2.1*1)) fun(u4:Int)=>
 zc (0<=y2.1/\y2.1<((n0:Nat):Int))<|
 zh a0 fun(p5:Addr)=>
 ldW (.int .u32) (p5.add (Int.toNat y2.1*1)) fun(u6:Int)=>
 zc (0<=y2.1/\y2.1<((n0:Nat):Int))<|
 zh a0 fun(p7:Addr)=>
 stW (p7.add (Int.toNat y2.1*1)) (.int .u32 u4)<|
 zc (0<=y2.2.1/\y2.2.1<((n0:Nat):Int))<|
 zh a0 fun(p8:Addr)=>
 stW (p8.add (Int.toNat y2.2.1*1)) (.int .u32 u6)<|I1 ((wrap .i64 (y2.1+(1:Int))),(wrap .i64 (y2.2.1-(1:Int))),()))<|K (.tuple #[])
theorem zo5 (a0:Option Addr) (n0 c0:Nat) {K:Value->WP} {w:World} (h:S89 a0 n0 c0 K w):Calls prog 89 #[(.slice a0 n0 c0)] w (Ret K):=cF an89 false Tryz.func89 h
def an90:Ann:=(AN (AR (.block (AN (AQ AO (AN (AQ AO AP))))) AO))
def S90 (x0:Option Addr) (x1:Int) (K:Value->WP):WP:=
 za (Option.isNone x0) (K (.int .i64 (1:Int)))<|
 ze prog 73 [(.pointer x0),(.int .u32 x1)] (.one (.one .bool)) fun(u1:Bool)=>
 za (!u1) (K (.int .i64 (2:Int)))<|
 zh x0 fun(p2:Addr)=>
 ldW .ptr (p2.add 8) fun(u3:Option Addr)=>
 ze prog 139 [(.pointer u3),(.int .u32 x1)] (.one (.one (.int .i64))) fun(u4:Int)=>K (.int .i64 u4)
theorem zo6 (x0:Option Addr) (x1:Int) {K:Value->WP} {w:World} (h:S90 x0 x1 K w):Calls prog 90 #[(.pointer x0),(.int .u32 x1)] w (Ret K):=cF an90 false Tryz.func90 h
def an95:Ann:=(AN (AR (AN (.block (.loop [(19,.sh (.one (.int .i64)))] [0,3,6,17,18,1000000] (AN (AR (AQ AP AP) (AR (.block (AN (AN (AN (AQ AO AP))))) AP)))))) (AR (AN (AN (AQ AO AP))) (AN (AR (AN (AQ AO AP)) (AR (AN (AN (AQ AO AP))) AO))))))
def S95 (x0:Option Addr) (x1:Option Addr) (AC:Int) (AD:Int) (AE:Int) (AI:Int) (AJ:Option Addr) (AK AL:Nat) (x3:Int) (K:Value->WP):WP:=
 zi (.cells #[(.int .u64 AC),(.int .i64 AD),(.int .i64 AE),(.int .u32 AI),(.slice AJ AK AL)] 79) fun(r1:Nat)=>
 ze prog 141 [(.pointer x1)] (.one (.one .slc)) fun(u2:SLC)=>
 zB (Int×Unit) ((0:Int),()) fun(y4:Int×Unit) (I3:(Int×Unit)->WP)=>
 za (decide (y4.1<((u2.2.1:Nat):Int))) (zc (0<=y4.1/\y4.1<((u2.2.1:Nat):Int))<|
 zh u2.1 fun(p5:Addr)=>
 ldW .str (p5.add (Int.toNat y4.1*1)) fun(u6:ByteArray)=>
 zD<|
 ldW .slc ((aD r1).add 4) fun(u7:SLC)=>
 zc (0<=y4.1/\y4.1<((u7.2.1:Nat):Int))<|
 zh u7.1 fun(p8:Addr)=>
 ldW (.int .u32) (p8.add (Int.toNat y4.1*1)) fun(u9:Int)=>
 ldW (.int .u64) (aD r1) fun(u10:Int)=>
 ze prog 78 [(.pointer x0),(.int .u32 u9),(.agg #[(.int .u8 (2:Int)),(.int .u64 u10),(.string u6)])] (.one (.one (.int .i64))) fun(u11:Int)=>
 za (u11 !=(0:Int)) (K (.int .i64 u11))<|I3 ((wrap .i64 (y4.1+(1:Int))),()))<|
 ze prog 142 [(.pointer x0)] (.one (.one (.int .i64))) fun(u12:Int)=>
 za (u12 !=(0:Int)) (K (.int .i64 u12))<|
 zl [(.int .u64),(.int .i64),(.int .i64),(.int .u32),.slc] (aD r1) fun(u13:(Int×Int×Int×Int×SLC×Unit))=>
 ze prog 143 [(.agg #[(.int .u64 u13.1),(.int .i64 u13.2.1),(.int .i64 u13.2.2.1),(.int .u32 u13.2.2.2.1),(.slice u13.2.2.2.2.1.1 u13.2.2.2.2.1.2.1 u13.2.2.2.2.1.2.2)])] (.many [(.one .str),(.one (.int .i64))]) fun(u14:ByteArray×Int×Unit)=>
 za (u14.2.1 !=(0:Int)) (K (.int .i64 u14.2.1))<|
 ze prog 118 [(.pointer x0),(.int .i64 x3),(.string u14.1)] (.one (.one (.int .i64))) fun(u15:Int)=>
 za (u15 !=(0:Int)) (K (.int .i64 u15))<|
 ze prog 142 [(.pointer x0)] (.one (.one (.int .i64))) fun(u16:Int)=>K (.int .i64 u16)
theorem zo7 (x0:Option Addr) (x1:Option Addr) (AC:Int) (AD:Int) (AE:Int) (AI:Int) (AJ:Option Addr) (AK AL:Nat) (x3:Int) {K:Value->WP} {w:World} (h:S95 x0 x1 AC AD AE AI AJ AK AL x3 K w):Calls prog 95 #[(.pointer x0),(.pointer x1),(.agg #[(.int .u64 AC),(.int .i64 AD),(.int .i64 AE),(.int .u32 AI),(.slice AJ AK AL)]),(.int .i64 x3)] w (Ret K):=cF an95 false Tryz.func95 h
def an96:Ann:=(AN (AR (AN (AQ AO AP)) AO))
def S96 (x0:Option Addr) (K:Value->WP):WP:=
 za (Option.isNone x0) (K (.pointer none))<|
 zD<|
 zh x0 fun(p1:Addr)=>
 zl [(.int .i64),(.int .i64)] p1 fun(u2:(Int×Int×Unit))=>
 zh x0 fun(p3:Addr)=>
 ldW .slc (p3.add 2) fun(u4:SLC)=>
 ze prog 144 [(.slice u4.1 u4.2.1 u4.2.2)] (.one (.one .slc)) fun(u5:SLC)=>
 zr [[(p1.add 0,(.int .i64 u2.1)),(p1.add 1,(.int .i64 u2.2.1))]]<|
 zi (.cells #[(.int .i64 u2.1),(.int .i64 u2.2.1),(.slice u5.1 u5.2.1 u5.2.2)] 193) fun(r6:Nat)=>K (.pointer (some (aD r6)))
theorem zo8 (x0:Option Addr) {K:Value->WP} {w:World} (h:S96 x0 K w):Calls prog 96 #[(.pointer x0)] w (Ret K):=cF an96 false Tryz.func96 h
def an106:Ann:=(AN (AR (AN (AQ AO AP)) (AR (AN (.block (.loop [(16,.sh (.one (.int .i64)))] [0,14,15,1000000] (AN (AR (AQ AP AP) (AR (.block (AN (AR (AN (AN (AQ AO AP))) (AN (AQ AO AP))))) AP)))))) AO)))
def S106 (a0:Option Addr) (n0 c0:Nat) (K:Value->WP):WP:=
 za (decide (((n0:Nat):Int)<(1:Int))) (K (.int .i64 (171:Int)))<|
 za (decide (((n0:Nat):Int)>(16:Int))) (K (.int .i64 (171:Int)))<|
 zB (Int×Unit) ((0:Int),()) fun(y2:Int×Unit) (I1:(Int×Unit)->WP)=>
 za (decide (y2.1<((n0:Nat):Int))) (zc (0<=y2.1/\y2.1<((n0:Nat):Int))<|
 zh a0 fun(p3:Addr)=>
 zl [.str,(.int .i64),.bool] (p3.add (Int.toNat y2.1*3)) fun(u4:(ByteArray×Int×Bool×Unit))=>
 zi (.cells #[(.string ByteArray.empty),(.int .i64 (0:Int)),(.bool false)] 62) fun(r5:Nat)=>
 zc ((#[(.string u4.1),(.int .i64 u4.2.1),(.bool u4.2.2.1)]:Array Value).size=3)<|
 zt (aD r5) [(.string u4.1),(.int .i64 u4.2.1),(.bool u4.2.2.1)]<|
 ldW .str (aD r5) fun(u6:ByteArray)=>
 ze prog 110 [(.string u6)] (.one (.one (.int .i64))) fun(u7:Int)=>
 za (u7 !=(0:Int)) (K (.int .i64 u7))<|
 ldW (.int .i64) ((aD r5).add 1) fun(u8:Int)=>
 za (decide (u8<(1:Int))) (K (.int .i64 (171:Int)))<|
 ldW (.int .i64) ((aD r5).add 1) fun(u9:Int)=>
 za (decide (u9>(3:Int))) (K (.int .i64 (171:Int)))<|
 zc (0<=y2.1/\y2.1<=((c0:Nat):Int))<|
 ze prog 154 [(.slice (zn a0 0 c0 3) (Int.toNat y2.1) c0),(.func (.func 155) #[] #[(.pointer (some (aD r5)))])] (.one (.one .bool)) fun(u10:Bool)=>
 za u10 (K (.int .i64 (171:Int)))<|I1 ((wrap .i64 (y2.1+(1:Int))),()))<|K (.int .i64 (0:Int))
theorem zlH (a0:Option Addr) (n0 c0:Nat) {K:Value->WP} {w:World} (h:S106 a0 n0 c0 K w):Calls prog 106 #[(.slice a0 n0 c0)] w (Ret K):=cF an106 false Tryz.func106 h
def an107:Ann:=(AN (AR (AN (AQ AO AP)) (AR (AN (.block (.loop [(10,.sh (.one (.int .i64))),(11,.sh (.one (.int .u8)))] [] (AN (.block AP))))) AO)))
def S107 (a0:Option Addr) (n0 c0:Nat) (K:Value->WP):WP:=
 zi (.cells #[(.int .u64 (0:Int))] 42) fun(r1:Nat)=>
 za (decide (((n0:Nat):Int)>(8:Int))) (stW (aD r1) (.int .u64 (0:Int))<|
 zS prog []<|
 ldW (.int .u64) (aD r1) fun(u2:Int)=>K (.int .u64 u2))<|
 ze prog 156 [(.slice a0 n0 c0)] (.one (.one .any)) fun(u3:Value)=>
 jE prog u3 (Int×Int×Unit) (fun(t4:Int×Int×Unit)=>[(.int .i64 t4.1),(.int .u8 t4.2.1)]) (fun(t4:Int×Int×Unit) (B5:WP->WP) (N6:WP) (Q7:Code->WP)=>B5 (ldW (.int .u64) (aD r1) fun(u10:Int)=>
 stW (aD r1) (.int .u64 (ior .u64 (ishl .u64 u10 (8:Int)) (wrap .u64 t4.2.1)))<|N6)) fun(r8:Nat) (p9:Option Code)=>
 jw (ldW (.int .u64) (aD r1) fun(u11:Int)=>
 stW (aD r1) (.int .u64 u11)<|
 zS prog (⟨.collected r8,#[]⟩::[])<|
 ldW (.int .u64) (aD r1) fun(u12:Int)=>K (.int .u64 u12)) (zS prog (⟨.collected r8,#[]⟩::[])<|
 ldW (.int .u64) (aD r1) fun(u13:Int)=>K (.int .u64 u13)) [] p9
theorem zlI (a0:Option Addr) (n0 c0:Nat) {K:Value->WP} {w:World} (h:S107 a0 n0 c0 K w):Calls prog 107 #[(.slice a0 n0 c0)] w (Ret K):=cF an107 true Tryz.func107 h
def an108:Ann:=(AN (.join [] [0,1,1000000] (AN (AQ AP AP)) (AR (AN (AQ AO AP)) (AN (AN AO)))))
def S108 (x0:Option Addr) (x1:Int) (K:Value->WP):WP:=
 yD (Unit) (fun(J1:(Unit)->WP)=>
 zh x0 fun(p3:Addr)=>
 ldW (.int .i64) (p3.add 1) fun(u4:Int)=>
 za (u4==(0:Int)) (zh x0 fun(p5:Addr)=>
 ldW .str p5 fun(u6:ByteArray)=>
 za (decide (x1>((u6.size:Nat):Int))) (zh x0 fun(p7:Addr)=>
 stW (p7.add 1) (.int .i64 (240:Int))<|J1 ())<|J1 ())<|J1 ()) fun(y2:Unit)=>
 zh x0 fun(p8:Addr)=>
 ldW (.int .i64) (p8.add 1) fun(u9:Int)=>
 za (u9 !=(0:Int)) (K (.string (ByteArray.mk #[])))<|
 zh x0 fun(p10:Addr)=>
 ldW .str p10 fun(u11:ByteArray)=>
 zc (0<=x1/\x1<=((u11.size:Nat):Int))<|
 zh x0 fun(p12:Addr)=>
 ldW .str p12 fun(u13:ByteArray)=>
 zc (0<=x1/\x1<=((u13.size:Nat):Int))<|
 zh x0 fun(p14:Addr)=>
 stW p14 (.string (ByteArray.extract u13 (Int.toNat x1) u13.size))<|K (.string (ByteArray.extract u11 0 (Int.toNat x1)))
theorem zlJ (x0:Option Addr) (x1:Int) {K:Value->WP} {w:World} (h:S108 x0 x1 K w):Calls prog 108 #[(.pointer x0),(.int .i64 x1)] w (Ret K):=cF an108 false Tryz.func108 h
def an109:Ann:=(AN (AR (AN (AQ AO AP)) (AN (AR (AN (.block (.loop [(2,.sh (.one .slc)),(3,.sh (.one .str)),(17,.sh (.one (.int .i64)))] [16,1000000] (AN (AR (AQ AP AP) (AR (.block (AN (AR (AN (AQ AO AP)) AP))) AP)))))) (AR (AN (AQ AO AP)) AO)))))
def S109 (x0:ByteArray) (K:Value->WP):WP:=
 za (x0.toList==(ByteArray.mk #[]).toList) (K (.tuple #[(.slice none 0 0),(.string (ByteArray.mk #[])),(.int .i64 (171:Int))]))<|
 zD<|
 zc (0<=(0:Int)/\(0:Int)<((x0.size:Nat):Int))<|
 zc (0<=(1:Int)/\(1:Int)<=((x0.size:Nat):Int))<|
 zB (SLC×ByteArray×Int×Unit) ((none,0,0),(ByteArray.extract x0 (Int.toNat (1:Int)) x0.size),(0:Int),()) fun(y2:SLC×ByteArray×Int×Unit) (I1:(SLC×ByteArray×Int×Unit)->WP)=>
 za (decide (y2.2.2.1<(wrap .i64 (bt x0 (0:Int))))) (ze prog 157 [(.string y2.2.1)] (.many [(.agg [.str,(.int .i64),.bool]),(.one .str),(.one .bool)]) fun(u3:(ByteArray×Int×Bool×Unit)×ByteArray×Bool×Unit)=>
 zi (.cells #[(.string ByteArray.empty),(.int .i64 (0:Int)),(.bool false)] 62) fun(r4:Nat)=>
 zc ((#[(.string u3.1.1),(.int .i64 u3.1.2.1),(.bool u3.1.2.2.1)]:Array Value).size=3)<|
 zt (aD r4) [(.string u3.1.1),(.int .i64 u3.1.2.1),(.bool u3.1.2.2.1)]<|
 za (!u3.2.2.1) (K (.tuple #[(.slice none 0 0),(.string (ByteArray.mk #[])),(.int .i64 (171:Int))]))<|
 zl [.str,(.int .i64),.bool] (aD r4) fun(u5:(ByteArray×Int×Bool×Unit))=>
 zi (.cells #[(.string u5.1),(.int .i64 u5.2.1),(.bool u5.2.2.1)] 62) fun(r6:Nat)=>
 zv prog (Builtin.append_ #[40,40] 40 #[(.slice y2.1.1 y2.1.2.1 y2.1.2.2),(.slice (some (aD r6)) 1 1)]) .slc fun(u7:SLC)=>I1 ((u7.1,u7.2.1,u7.2.2),u3.2.1,(wrap .i64 (y2.2.2.1+(1:Int))),()))<|
 ze prog 106 [(.slice y2.1.1 y2.1.2.1 y2.1.2.2)] (.one (.one (.int .i64))) fun(u8:Int)=>
 za (u8 !=(0:Int)) (K (.tuple #[(.slice none 0 0),(.string (ByteArray.mk #[])),(.int .i64 (171:Int))]))<|K (.tuple #[(.slice y2.1.1 y2.1.2.1 y2.1.2.2),(.string y2.2.1),(.int .i64 (0:Int))])
theorem zlK (x0:ByteArray) {K:Value->WP} {w:World} (h:S109 x0 K w):Calls prog 109 #[(.string x0)] w (Ret K):=cF an109 false Tryz.func109 h
def an110:Ann:=(AN (AR (AN (AQ AO AP)) (AN (AR (AN (.block (.loop [] [14,1000000] (AN (AR (AQ AP AP) (.block (AN (.join [] [1000000] (.block (.join [(19,.sh (.one .bool))] [3,4,14,1000000] (AN (AQ AP (AN (AQ AP AP)))) (AQ AP (AN (AQ AP AP))))) AO)))))))) AO))))
def S110 (x0:ByteArray) (K:Value->WP):WP:=
 za (decide (((x0.size:Nat):Int)<(1:Int))) (K (.int .i64 (170:Int)))<|
 za (decide (((x0.size:Nat):Int)>(32:Int))) (K (.int .i64 (170:Int)))<|
 zi (.stringIter x0 0) fun(r1:Nat)=>
 zB (Unit) () fun(y3:Unit) (I2:(Unit)->WP)=>
 znz r1 (fun(i4 c5:Int)=>
 za true (yD (Unit) (fun(J6:(Unit)->WP)=>
 yD (Bool×Unit) (fun(J8:(Bool×Unit)->WP)=>
 za (decide (c5>=(97:Int))) (za (decide (c5<=(122:Int))) (J8 ((decide (c5<=(122:Int))),()))<|
 za (decide (c5>=(65:Int))) (za (decide (c5<=(90:Int))) (J8 ((decide (c5<=(90:Int))),()))<|J8 ((c5==(95:Int)),()))<|J8 ((c5==(95:Int)),()))<|
 za (decide (c5>=(65:Int))) (za (decide (c5<=(90:Int))) (J8 ((decide (c5<=(90:Int))),()))<|J8 ((c5==(95:Int)),()))<|J8 ((c5==(95:Int)),())) fun(y9:Bool×Unit)=>
 za y9.1 (I2 ())<|
 za (decide (i4>(0:Int))) (za (decide (c5>=(48:Int))) (za (decide (c5<=(57:Int))) (I2 ())<|J6 ())<|J6 ())<|J6 ()) fun(y7:Unit)=>K (.int .i64 (170:Int)))<|K (.int .i64 (0:Int)))<|
 za false (zm)<|K (.int .i64 (0:Int))
theorem zlL (x0:ByteArray) {K:Value->WP} {w:World} (h:S110 x0 K w):Calls prog 110 #[(.string x0)] w (Ret K):=cF an110 false Tryz.func110 h
def an111:Ann:=(AN (AR (AN (AQ AO AP)) AO))
def S111 (Ae:Int) (Ai:Int) (K:Value->WP):WP:=
 zi (.cells #[(.int .i64 Ae),(.int .i64 Ai)] 72) fun(r1:Nat)=>
 ldW (.int .i64) (aD r1) fun(u2:Int)=>
 za (decide (u2<(128:Int))) (K (.int .i64 (2:Int)))<|
 ldW (.int .i64) (aD r1) fun(u3:Int)=>
 za (decide (u3>(4096:Int))) (K (.int .i64 (2:Int)))<|
 ldW (.int .i64) (aD r1) fun(u4:Int)=>
 za ((Int.tmod u4 (64:Int)) !=(0:Int)) (K (.int .i64 (2:Int)))<|
 ldW (.int .i64) ((aD r1).add 1) fun(u5:Int)=>
 za (decide (u5<(8:Int))) (K (.int .i64 (2:Int)))<|
 ldW (.int .i64) ((aD r1).add 1) fun(u6:Int)=>
 za (decide (u6>(4096:Int))) (K (.int .i64 (2:Int)))<|K (.int .i64 (0:Int))
theorem zlM (Ae:Int) (Ai:Int) {K:Value->WP} {w:World} (h:S111 Ae Ai K w):Calls prog 111 #[(.agg #[(.int .i64 Ae),(.int .i64 Ai)])] w (Ret K):=cF an111 false Tryz.func111 h
def an112:Ann:=(AN (.join [] [0,1,1000000] (AN (AQ AP AP)) (AN (.join [] [0,6,1000000] (AN (AQ AP AP)) (AN (AN (AR (.block (.loop [(8,.sh (.one (.int .i64)))] [7,1000000] (AR (AN (AQ AP AP)) (.block AP)))) AO)))))))
def S112 (a0:Option Addr) (n0 c0:Nat) (x1:Int) (K:Value->WP):WP:=
 yD (Unit) (fun(J1:(Unit)->WP)=>
 za (decide (x1<(0:Int))) (zm)<|J1 ()) fun(y2:Unit)=>
 ze prog 158 [(.int .u64 (wrap .u64 ((n0:Nat):Int))),(.int .u64 (wrap .u64 x1))] (.many [(.one (.int .u64)),(.one (.int .u64))]) fun(u3:Int×Int×Unit)=>
 yD (Unit) (fun(J4:(Unit)->WP)=>
 za (decide (u3.1>(0:Int))) (zm)<|
 za (decide (u3.2.1>(9223372036854775807:Int))) (zm)<|J4 ()) fun(y5:Unit)=>
 zv prog (Instr.makeSlice 158 (.int .i64 (wrap .i64 u3.2.1)) (.int .i64 (wrap .i64 u3.2.1))) .slc fun(u6:SLC)=>
 zv prog (Builtin.copy_ #[158,158] 3 #[(.slice u6.1 u6.2.1 u6.2.2),(.slice a0 n0 c0)]) (.int .i64) fun(u7:Int)=>
 zB (Int×Unit) (u7,()) fun(y9:Int×Unit) (I8:(Int×Unit)->WP)=>
 za (decide (y9.1<((u6.2.1:Nat):Int))) (zD<|
 zc (0<=y9.1/\y9.1<=((u6.2.1:Nat):Int))<|
 zc (0<=y9.1/\y9.1<=((u6.2.2:Nat):Int))<|
 zv prog (Builtin.copy_ #[158,158] 3 #[(.slice (zn u6.1 (Int.toNat y9.1) u6.2.2 1) (u6.2.1-(Int.toNat y9.1)) (u6.2.2-(Int.toNat y9.1))),(.slice (zn u6.1 0 u6.2.2 1) (Int.toNat y9.1) u6.2.2)]) (.int .i64) fun(u10:Int)=>I8 ((wrap .i64 (y9.1+u10)),()))<|K (.slice u6.1 u6.2.1 u6.2.2)
theorem zlN (a0:Option Addr) (n0 c0:Nat) (x1:Int) {K:Value->WP} {w:World} (h:S112 a0 n0 c0 x1 K w):Calls prog 112 #[(.slice a0 n0 c0),(.int .i64 x1)] w (Ret K):=cF an112 false Tryz.func112 h
def an114:Ann:=(AN (AR (AN (AQ AO AP)) (AN (AN AO))))
def S114 (Ae:Int) (Ai:Int) (K:Value->WP):WP:=
 zi (.cells #[(.int .i64 Ae),(.int .i64 Ai)] 72) fun(r1:Nat)=>
 zl [(.int .i64),(.int .i64)] (aD r1) fun(u2:(Int×Int×Unit))=>
 ze prog 111 [(.agg #[(.int .i64 u2.1),(.int .i64 u2.2.1)])] (.one (.one (.int .i64))) fun(u3:Int)=>
 za (u3 !=(0:Int)) (K (.tuple #[(.pointer none),(.int .i64 (2:Int))]))<|
 zD<|
 zl [(.int .i64),(.int .i64)] (aD r1) fun(u4:(Int×Int×Unit))=>
 ldW (.int .i64) ((aD r1).add 1) fun(u5:Int)=>
 zv prog (Instr.makeSlice 191 (.int .i64 u5) (.int .i64 u5)) .slc fun(u6:SLC)=>
 zr [[((aD r1).add 0,(.int .i64 u4.1)),((aD r1).add 1,(.int .i64 u4.2.1))]]<|
 zi (.cells #[(.int .i64 u4.1),(.int .i64 u4.2.1),(.slice u6.1 u6.2.1 u6.2.2)] 193) fun(r7:Nat)=>
 zD<|
 zh (some (aD r7)) fun(p8:Addr)=>
 ldW .slc (p8.add 2) fun(u9:SLC)=>
 zh (some (aD r7)) fun(p10:Addr)=>
 ldW .slc (p10.add 2) fun(u11:SLC)=>
 zc (0<=(0:Int)/\(0:Int)<((u9.2.1:Nat):Int))<|
 zh u9.1 fun(p12:Addr)=>
 stW (p12.add (Int.toNat (0:Int)*1)) (.int .u16 (1:Int))<|
 zc (0<=(1:Int)/\(1:Int)<((u11.2.1:Nat):Int))<|
 zh u11.1 fun(p13:Addr)=>
 stW (p13.add (Int.toNat (1:Int)*1)) (.int .u16 (1:Int))<|K (.tuple #[(.pointer (some (aD r7))),(.int .i64 (0:Int))])
theorem zlO (Ae:Int) (Ai:Int) {K:Value->WP} {w:World} (h:S114 Ae Ai K w):Calls prog 114 #[(.agg #[(.int .i64 Ae),(.int .i64 Ai)])] w (Ret K):=cF an114 false Tryz.func114 h
def an115:Ann:=(AN (AR (AN (AQ AO AP)) (AN AO)))
def S115 (Ae:Int) (Ai:Int) (K:Value->WP):WP:=
 zi (.cells #[(.int .i64 Ae),(.int .i64 Ai)] 72) fun(r1:Nat)=>
 zl [(.int .i64),(.int .i64)] (aD r1) fun(u2:(Int×Int×Unit))=>
 ze prog 111 [(.agg #[(.int .i64 u2.1),(.int .i64 u2.2.1)])] (.one (.one (.int .i64))) fun(u3:Int)=>
 za (u3 !=(0:Int)) (K (.int .i64 (0:Int)))<|
 ldW (.int .i64) (aD r1) fun(u4:Int)=>
 ze prog 121 [(.int .i64 u4)] (.one (.one (.int .i64))) fun(u5:Int)=>
 ldW (.int .i64) ((aD r1).add 1) fun(u6:Int)=>
 zc (u5≠0)<|K (.int .i64 (wrap .i64 (Int.tdiv (wrap .i64 ((wrap .i64 ((wrap .i64 ((2:Int)*u6))+u5))-(1:Int))) u5)))
theorem zg1 (Ae:Int) (Ai:Int) {K:Value->WP} {w:World} (h:S115 Ae Ai K w):Calls prog 115 #[(.agg #[(.int .i64 Ae),(.int .i64 Ai)])] w (Ret K):=cF an115 false Tryz.func115 h
def an116:Ann:=(AN (.join [] [0,1,1000000] (.block (AN (AQ AO (AN (AQ AO AP))))) (AR (AN (.block (.loop [(30,.sh (.one (.int .i64)))] [0,1,28,29,1000000] (AN (AR (AQ AP AP) (AR (.block (AN (AN (AQ (AN AO) AP)))) AP)))))) AO)))
def S116 (x0:Option Addr) (x1:Option Addr) (K:Value->WP):WP:=
 yD (Unit) (fun(J1:(Unit)->WP)=>
 za (Option.isNone x0) (K (.tuple #[(.int .u32 (0:Int)),(.int .i64 (1:Int))]))<|
 zD<|
 za (!(Option.isNone x1)) (zh x1 fun(p3:Addr)=>
 zl [(.int .i64),(.int .i64)] p3 fun(u4:(Int×Int×Unit))=>
 zh x0 fun(p5:Addr)=>
 zl [(.int .i64),(.int .i64)] p5 fun(u6:(Int×Int×Unit))=>
 eqW prog (eqS .neq 72 (.tmp 18) (.tmp 22) (.agg #[(.int .i64 u4.1),(.int .i64 u4.2.1)]) (.agg #[(.int .i64 u6.1),(.int .i64 u6.2.1)])) fun(b7:Bool)=>
 za b7 (K (.tuple #[(.int .u32 (0:Int)),(.int .i64 (2:Int))]))<|J1 ())<|J1 ()) fun(y2:Unit)=>
 zh x0 fun(p8:Addr)=>
 ldW .slc (p8.add 2) fun(u9:SLC)=>
 zB (Int×Unit) ((0:Int),()) fun(y11:Int×Unit) (I10:(Int×Unit)->WP)=>
 za (decide (y11.1<((u9.2.1:Nat):Int))) (zc (0<=y11.1/\y11.1<((u9.2.1:Nat):Int))<|
 zh u9.1 fun(p12:Addr)=>
 ldW (.int .u16) (p12.add (Int.toNat y11.1*1)) fun(u13:Int)=>
 za (u13==(0:Int)) (ze prog 75 [(.pointer x1),(.int .u32 (wrap .u32 y11.1))] (.one (.one (.int .i64))) fun(u14:Int)=>
 za (u14==(0:Int)) (zh x0 fun(p15:Addr)=>
 ldW .slc (p15.add 2) fun(u16:SLC)=>
 zc (0<=y11.1/\y11.1<((u16.2.1:Nat):Int))<|
 zh u16.1 fun(p17:Addr)=>
 stW (p17.add (Int.toNat y11.1*1)) (.int .u16 (1:Int))<|K (.tuple #[(.int .u32 (wrap .u32 y11.1)),(.int .i64 (0:Int))]))<|I10 ((wrap .i64 (y11.1+(1:Int))),()))<|I10 ((wrap .i64 (y11.1+(1:Int))),()))<|K (.tuple #[(.int .u32 (0:Int)),(.int .i64 (9:Int))])
theorem zlP (x0:Option Addr) (x1:Option Addr) {K:Value->WP} {w:World} (h:S116 x0 x1 K w):Calls prog 116 #[(.pointer x0),(.pointer x1)] w (Ret K):=cF an116 false Tryz.func116 h
def an117:Ann:=(AN (AN (.join [] [1,3,1000000] (AN (AQ AO AP)) (AR (AN (.block (.loop [(40,.sh (.one (.int .i64)))] [1,3,38,39,1000000] (AN (AR (AQ AP AP) (AR (.block (AN (AN (AQ AO AP)))) AP)))))) (AR (AN (AQ AO AP)) AO)))))
def S117 (Ae:Int) (Ai:Int) (Aj:Int) (Ar:Int) (AF:Option Addr) (AG AH:Nat) (K:Value->WP):WP:=
 zi (.cells #[(.int .u64 Ae),(.int .i64 Ai),(.int .i64 Aj),(.int .u32 Ar),(.slice AF AG AH)] 79) fun(r1:Nat)=>
 yD (Unit) (fun(J2:(Unit)->WP)=>
 zD<|
 zl [(.int .i64),(.int .i64)] ((aD r1).add 1) fun(u4:(Int×Int×Unit))=>
 ze prog 111 [(.agg #[(.int .i64 u4.1),(.int .i64 u4.2.1)])] (.one (.one (.int .i64))) fun(u5:Int)=>
 za (u5 !=(0:Int)) (K (.int .i64 (2:Int)))<|
 ldW (.int .u64) (aD r1) fun(u6:Int)=>
 za (u6==(0:Int)) (K (.int .i64 (2:Int)))<|
 ldW (.int .u32) ((aD r1).add 3) fun(u7:Int)=>
 za (u7 !=(0:Int)) (ldW (.int .u32) ((aD r1).add 3) fun(u8:Int)=>
 yJ prog (.func (.func 161) #[] #[(.pointer (some (aD r1)))]) [(.int .u32 u8)] (.one (.one .bool)) fun(u9:Bool)=>
 za (!u9) (K (.int .i64 (2:Int)))<|
 ldW .slc ((aD r1).add 4) fun(u10:SLC)=>
 zl [(.int .i64),(.int .i64)] ((aD r1).add 1) fun(u11:(Int×Int×Unit))=>
 ze prog 115 [(.agg #[(.int .i64 u11.1),(.int .i64 u11.2.1)])] (.one (.one (.int .i64))) fun(u12:Int)=>
 zr [[(((aD r1).add 4),(.slice u10.1 u10.2.1 u10.2.2))]]<|
 za (((u10.2.1:Nat):Int) !=u12) (K (.int .i64 (2:Int)))<|J2 ())<|
 ldW .slc ((aD r1).add 4) fun(u13:SLC)=>
 zl [(.int .i64),(.int .i64)] ((aD r1).add 1) fun(u14:(Int×Int×Unit))=>
 ze prog 115 [(.agg #[(.int .i64 u14.1),(.int .i64 u14.2.1)])] (.one (.one (.int .i64))) fun(u15:Int)=>
 zr [[(((aD r1).add 4),(.slice u13.1 u13.2.1 u13.2.2))]]<|
 za (((u13.2.1:Nat):Int) !=u15) (K (.int .i64 (2:Int)))<|J2 ()) fun(y3:Unit)=>
 ldW .slc ((aD r1).add 4) fun(u16:SLC)=>
 zB (Int×Unit) ((0:Int),()) fun(y18:Int×Unit) (I17:(Int×Unit)->WP)=>
 za (decide (y18.1<((u16.2.1:Nat):Int))) (zc (0<=y18.1/\y18.1<((u16.2.1:Nat):Int))<|
 zh u16.1 fun(p19:Addr)=>
 ldW (.int .u32) (p19.add (Int.toNat y18.1*1)) fun(u20:Int)=>
 yJ prog (.func (.func 161) #[] #[(.pointer (some (aD r1)))]) [(.int .u32 u20)] (.one (.one .bool)) fun(u21:Bool)=>
 za (!u21) (K (.int .i64 (2:Int)))<|
 ldW (.int .u32) ((aD r1).add 3) fun(u22:Int)=>
 za (u20==u22) (K (.int .i64 (2:Int)))<|
 ldW .slc ((aD r1).add 4) fun(u23:SLC)=>
 zc (0<=y18.1/\y18.1<=((u23.2.2:Nat):Int))<|
 ze prog 120 [(.slice (zn u23.1 0 u23.2.2 1) (Int.toNat y18.1) u23.2.2),(.int .u32 u20)] (.one (.one .bool)) fun(u24:Bool)=>
 za u24 (K (.int .i64 (2:Int)))<|I17 ((wrap .i64 (y18.1+(1:Int))),()))<|
 zD<|
 ldW .slc ((aD r1).add 4) fun(u25:SLC)=>
 ldW (.int .i64) ((aD r1).add 1) fun(u26:Int)=>
 ze prog 121 [(.int .i64 u26)] (.one (.one (.int .i64))) fun(u27:Int)=>
 zr [[(((aD r1).add 4),(.slice u25.1 u25.2.1 u25.2.2))]]<|
 za (decide ((wrap .i64 ((14:Int)+(wrap .i64 ((4:Int)*((u25.2.1:Nat):Int)))))>u27)) (K (.int .i64 (3:Int)))<|K (.int .i64 (0:Int))
theorem zlQ (Ae:Int) (Ai:Int) (Aj:Int) (Ar:Int) (AF:Option Addr) (AG AH:Nat) {K:Value->WP} {w:World} (h:S117 Ae Ai Aj Ar AF AG AH K w):Calls prog 117 #[(.agg #[(.int .u64 Ae),(.int .i64 Ai),(.int .i64 Aj),(.int .u32 Ar),(.slice AF AG AH)])] w (Ret K):=cF an117 false Tryz.func117 h
def an118:Ann:=(AN (AR (.block (AN (AQ AO (AN (AQ AO (AN (AQ AO AP))))))) (AN AO)))
def S118 (x0:Option Addr) (x1:Int) (x2:ByteArray) (K:Value->WP):WP:=
 za (Option.isNone x0) (K (.int .i64 (1:Int)))<|
 ze prog 162 [(.pointer x0),(.int .i64 x1)] (.one (.one .bool)) fun(u1:Bool)=>
 za (!u1) (K (.int .i64 (2:Int)))<|
 zh x0 fun(p2:Addr)=>
 ldW (.int .i64) p2 fun(u3:Int)=>
 za (((x2.size:Nat):Int) !=u3) (K (.int .i64 (2:Int)))<|
 ze prog 163 [(.pointer x0)] (.one (.one .bool)) fun(u4:Bool)=>
 za (!u4) (K (.int .i64 (8:Int)))<|
 zh x0 fun(p5:Addr)=>
 ldW .slc (p5.add 3) fun(u6:SLC)=>
 zi (.cells #[(.int .i64 x1),(.string x2)] 230) fun(r7:Nat)=>
 zv prog (Builtin.append_ #[159,159] 159 #[(.slice u6.1 u6.2.1 u6.2.2),(.slice (some (aD r7)) 1 1)]) .slc fun(u8:SLC)=>
 zh x0 fun(p9:Addr)=>
 stW (p9.add 3) (.slice u8.1 u8.2.1 u8.2.2)<|K (.int .i64 (0:Int))
theorem zlR (x0:Option Addr) (x1:Int) (x2:ByteArray) {K:Value->WP} {w:World} (h:S118 x0 x1 x2 K w):Calls prog 118 #[(.pointer x0),(.int .i64 x1),(.string x2)] w (Ret K):=cF an118 false Tryz.func118 h
def an119:Ann:=(AN (AR (AN (.block (.loop [(8,.sh (.one (.int .i64)))] [0,1,7,1000000] (AN (AR (AQ AP AP) (AR (.block (AN (AN (AQ AO AP)))) AP)))))) AO))
def S119 (a0:Option Addr) (n0 c0:Nat) (x1:Value) (K:Value->WP):WP:=
 zB (Int×Unit) ((0:Int),()) fun(y2:Int×Unit) (I1:(Int×Unit)->WP)=>
 za (decide (y2.1<((n0:Nat):Int))) (zc (0<=y2.1/\y2.1<((n0:Nat):Int))<|
 zh a0 fun(p3:Addr)=>
 ldW (.int .u32) (p3.add (Int.toNat y2.1*1)) fun(u4:Int)=>
 yJ prog x1 [(.int .u32 u4)] (.one (.one .bool)) fun(u5:Bool)=>
 za u5 (K (.int .i64 y2.1))<|I1 ((wrap .i64 (y2.1+(1:Int))),()))<|K (.int .i64 (-1:Int))
theorem zlS (a0:Option Addr) (n0 c0:Nat) (x1:Value) {K:Value->WP} {w:World} (h:S119 a0 n0 c0 x1 K w):Calls prog 119 #[(.slice a0 n0 c0),x1] w (Ret K):=cF an119 false Tryz.func119 h
def an120:Ann:=(AN AO)
def S120 (a0:Option Addr) (n0 c0:Nat) (x1:Int) (K:Value->WP):WP:=
 ze prog 164 [(.slice a0 n0 c0),(.int .u32 x1)] (.one (.one (.int .i64))) fun(u1:Int)=>K (.bool (decide (u1>=(0:Int))))
theorem zlT (a0:Option Addr) (n0 c0:Nat) (x1:Int) {K:Value->WP} {w:World} (h:S120 a0 n0 c0 x1 K w):Calls prog 120 #[(.slice a0 n0 c0),(.int .u32 x1)] w (Ret K):=cF an120 false Tryz.func120 h
def an121:Ann:=(AN (AR (AN (AQ AO AP)) AO))
def S121 (x0:Int) (K:Value->WP):WP:=
 ze prog 111 [(.agg #[(.int .i64 x0),(.int .i64 (8:Int))])] (.one (.one (.int .i64))) fun(u1:Int)=>
 za (u1 !=(0:Int)) (K (.int .i64 (0:Int)))<|K (.int .i64 (wrap .i64 ((wrap .i64 (x0-(12:Int)))-(4:Int))))
theorem zlU (x0:Int) {K:Value->WP} {w:World} (h:S121 x0 K w):Calls prog 121 #[(.int .i64 x0)] w (Ret K):=cF an121 false Tryz.func121 h
def an122:Ann:=(AN (.block (.loop [(6,.sh (.one (.int .i64)))] [1,4,5,1000000] (AN (AR (AQ AP AP) (AR (.block AO) AP))))))
def S122 (a0:Addr) (a1:Addr) (K:Value->WP):WP:=
 ldW .slc a0 fun(u1:SLC)=>
 zB (Int×Unit) ((0:Int),()) fun(y3:Int×Unit) (I2:(Int×Unit)->WP)=>
 za (decide (y3.1<((u1.2.1:Nat):Int))) (zc (0<=y3.1/\y3.1<((u1.2.1:Nat):Int))<|
 zh u1.1 fun(p4:Addr)=>
 ldW (.int .u32) (p4.add (Int.toNat y3.1*1)) fun(u5:Int)=>
 ldW .ptr a1 fun(u6:Option Addr)=>
 zh u6 fun(p7:Addr)=>
 ldW .ptr (p7.add 8) fun(u8:Option Addr)=>
 ze prog 87 [(.pointer u8),(.int .u32 u5)] (.many [(.one (.int .i64)),(.one (.int .i64))]) fun(u9:Int×Int×Unit)=>I2 ((wrap .i64 (y3.1+(1:Int))),()))<|K (.tuple #[])
theorem zqg (a0:Addr) (a1:Addr) (K:Value->WP):zai prog Tryz.f122 an122 false [(.pointer (some a0)),(.pointer (some a1))] K=S122 a0 a1 K:=by kernel_rfl
theorem zkA (a0:Addr) (a1:Addr) {K:Value->WP} {w:World} (h:S122 a0 a1 K w):uJ prog 122 [(.pointer (some a0)),(.pointer (some a1))] w K:=zal mixed Tryz.func122 (of_decide_eq_true (by kernel_rfl)) (by rw[zqg];exact h)
def an123:Ann:=(AN (AN (AR (.block (AN (AQ AO (AN (AQ AO AP))))) (AN (AN (AN (AN (AN (AN (AN AO))))))))))
def S123 (x0:Int) (AA:Int) (AM:Int) (AB:ByteArray) (K:Value->WP):WP:=
 zi (.cells #[(.int .u8 AA),(.int .u64 AM),(.string AB)] 127) fun(r1:Nat)=>
 ze prog 121 [(.int .i64 x0)] (.one (.one (.int .i64))) fun(u2:Int)=>
 za (u2==(0:Int)) (K (.tuple #[(.string (ByteArray.mk #[])),(.int .i64 (2:Int))]))<|
 ldW .str ((aD r1).add 2) fun(u3:ByteArray)=>
 za (decide (((u3.size:Nat):Int)>u2)) (K (.tuple #[(.string (ByteArray.mk #[])),(.int .i64 (3:Int))]))<|
 zv prog (Instr.makeSlice 85 (.int .i64 x0) (.int .i64 x0)) .slc fun(u4:SLC)=>
 zD<|
 zc (0<=(0:Int)/\(0:Int)<=(12:Int)/\(12:Int)<=((u4.2.2:Nat):Int))<|
 ldW (.int .u8) (aD r1) fun(u5:Int)=>
 zi (.cells #[(.int .u8 u5),(.int .u8 (0:Int))] 5) fun(r6:Nat)=>
 zv prog (Builtin.append_ #[85,85] 85 #[(.slice (zn u4.1 0 (Int.toNat (12:Int)) 1) (Int.toNat (0:Int)) (Int.toNat (12:Int))),(.slice (some (aD r6)) 2 2)]) .slc fun(u7:SLC)=>
 ldW .str ((aD r1).add 2) fun(u8:ByteArray)=>
 ze prog 42 [(.slice u7.1 u7.2.1 u7.2.2),(.int .u64 (wrap .u64 ((u8.size:Nat):Int))),(.int .i64 (2:Int))] (.one (.one .slc)) fun(u9:SLC)=>
 ldW (.int .u64) ((aD r1).add 1) fun(u10:Int)=>
 ze prog 42 [(.slice u9.1 u9.2.1 u9.2.2),(.int .u64 u10),(.int .i64 (8:Int))] (.one (.one .slc)) fun(u11:SLC)=>
 zD<|
 zc (0<=(12:Int)/\(12:Int)<=((u4.2.1:Nat):Int))<|
 ldW .str ((aD r1).add 2) fun(u12:ByteArray)=>
 zv prog (Builtin.copy_ #[85,9] 3 #[(.slice (zn u4.1 (Int.toNat (12:Int)) u4.2.2 1) (u4.2.1-(Int.toNat (12:Int))) (u4.2.2-(Int.toNat (12:Int)))),(.string u12)]) (.int .i64) fun(u13:Int)=>
 zD<|
 zc (0<=(wrap .i64 (x0-(4:Int)))/\(wrap .i64 (x0-(4:Int)))<=(wrap .i64 (x0-(4:Int)))/\(wrap .i64 (x0-(4:Int)))<=x0/\x0<=((u4.2.2:Nat):Int))<|
 zc (0<=(wrap .i64 (x0-(4:Int)))/\(wrap .i64 (x0-(4:Int)))<=((u4.2.2:Nat):Int))<|
 ze prog 165 [(.slice (zn u4.1 0 u4.2.2 1) (Int.toNat (wrap .i64 (x0-(4:Int)))) u4.2.2)] (.one (.one (.int .u32))) fun(u14:Int)=>
 ze prog 42 [(.slice (zn u4.1 (Int.toNat (wrap .i64 (x0-(4:Int)))) (Int.toNat x0) 1) ((Int.toNat (wrap .i64 (x0-(4:Int))))-(Int.toNat (wrap .i64 (x0-(4:Int))))) ((Int.toNat x0)-(Int.toNat (wrap .i64 (x0-(4:Int)))))),(.int .u64 (wrap .u64 u14)),(.int .i64 (4:Int))] (.one (.one .slc)) fun(u15:SLC)=>
 zv prog (Go.convert 85 9 (.slice u4.1 u4.2.1 u4.2.2)) .str fun(u16:ByteArray)=>K (.tuple #[(.string u16),(.int .i64 (0:Int))])
theorem zlV (x0:Int) (AA:Int) (AM:Int) (AB:ByteArray) {K:Value->WP} {w:World} (h:S123 x0 AA AM AB K w):Calls prog 123 #[(.int .i64 x0),(.agg #[(.int .u8 AA),(.int .u64 AM),(.string AB)])] w (Ret K):=cF an123 false Tryz.func123 h
def an124:Ann:=(AN (AN (AR (.block (AN (AQ AO (AN (AQ AO (AN (AQ AO AP))))))) (AR (AN (.block (.loop [(56,.sh (.one (.int .i64)))] [0,2,3,8,10,54,55,1000000] (AN (AR (AQ AP AP) (.join [] [0,2,3,8,10,54,55,56,1000000] (.block (AN (AN (AR (AN (AQ AO AP)) (.join [(15,.sh (.one .bool))] [0,2,3,8,10,11,13,54,55,56,1000000] AP (.join [] [0,2,3,8,10,11,13,54,55,56,1000000] (AN (AQ AO AP)) (.join [] [0,2,3,8,10,13,54,55,56,1000000] (AN (AQ AP AP)) AP))))))) AP)))))) AO))))
def S124 (x0:Option Addr) (x1:Int) (x2:Int) (x3:Bool) (K:Value->WP):WP:=
 zi (.cells #[(.int .i64 (0:Int)),(.int .u64 (0:Int)),(.int .u64 (0:Int)),(.int .u8 (0:Int)),(.int .i64 (0:Int))] 197) fun(r1:Nat)=>
 ze prog 166 [(.pointer x0),(.int .u32 x1)] (.many [(.agg [(.int .u8),.slc,.slc,.slc]),(.one (.int .i64))]) fun(u2:(Int×SLC×SLC×SLC×Unit)×Int×Unit)=>
 zi (.cells #[(.int .u8 (0:Int)),(.slice none 0 0),(.slice none 0 0),(.slice none 0 0)] 215) fun(r3:Nat)=>
 zc ((#[(.int .u8 u2.1.1),(.slice u2.1.2.1.1 u2.1.2.1.2.1 u2.1.2.1.2.2),(.slice u2.1.2.2.1.1 u2.1.2.2.1.2.1 u2.1.2.2.1.2.2),(.slice u2.1.2.2.2.1.1 u2.1.2.2.2.1.2.1 u2.1.2.2.2.1.2.2)]:Array Value).size=4)<|
 zt (aD r3) [(.int .u8 u2.1.1),(.slice u2.1.2.1.1 u2.1.2.1.2.1 u2.1.2.1.2.2),(.slice u2.1.2.2.1.1 u2.1.2.2.1.2.1 u2.1.2.2.1.2.2),(.slice u2.1.2.2.2.1.1 u2.1.2.2.2.1.2.1 u2.1.2.2.2.1.2.2)]<|
 za (u2.2.1 !=(0:Int)) (zl [(.int .i64),(.int .u64),(.int .u64),(.int .u8),(.int .i64)] (aD r1) fun(u4:(Int×Int×Int×Int×Int×Unit))=>
 zc ((#[(.int .i64 u4.1),(.int .u64 u4.2.1),(.int .u64 u4.2.2.1),(.int .u8 u4.2.2.2.1),(.int .i64 u4.2.2.2.2.1)]:Array Value).size=5)<|
 zt (aD r1) [(.int .i64 u4.1),(.int .u64 u4.2.1),(.int .u64 u4.2.2.1),(.int .u8 u4.2.2.2.1),(.int .i64 u4.2.2.2.2.1)]<|
 zl [(.int .i64),(.int .u64),(.int .u64),(.int .u8),(.int .i64)] (aD r1) fun(u5:(Int×Int×Int×Int×Int×Unit))=>K (.tuple #[(.agg #[(.int .i64 u5.1),(.int .u64 u5.2.1),(.int .u64 u5.2.2.1),(.int .u8 u5.2.2.2.1),(.int .i64 u5.2.2.2.2.1)]),(.int .i64 u2.2.1)]))<|
 za (decide (x2>(16:Int))) (zl [(.int .i64),(.int .u64),(.int .u64),(.int .u8),(.int .i64)] (aD r1) fun(u6:(Int×Int×Int×Int×Int×Unit))=>
 zc ((#[(.int .i64 u6.1),(.int .u64 u6.2.1),(.int .u64 u6.2.2.1),(.int .u8 u6.2.2.2.1),(.int .i64 u6.2.2.2.2.1)]:Array Value).size=5)<|
 zt (aD r1) [(.int .i64 u6.1),(.int .u64 u6.2.1),(.int .u64 u6.2.2.1),(.int .u8 u6.2.2.2.1),(.int .i64 u6.2.2.2.2.1)]<|
 zl [(.int .i64),(.int .u64),(.int .u64),(.int .u8),(.int .i64)] (aD r1) fun(u7:(Int×Int×Int×Int×Int×Unit))=>K (.tuple #[(.agg #[(.int .i64 u7.1),(.int .u64 u7.2.1),(.int .u64 u7.2.2.1),(.int .u8 u7.2.2.2.1),(.int .i64 u7.2.2.2.2.1)]),(.int .i64 (10:Int))]))<|
 zl [(.int .u8),.slc,.slc,.slc] (aD r3) fun(u8:(Int×SLC×SLC×SLC×Unit))=>
 ze prog 167 [(.agg #[(.int .u8 u8.1),(.slice u8.2.1.1 u8.2.1.2.1 u8.2.1.2.2),(.slice u8.2.2.1.1 u8.2.2.1.2.1 u8.2.2.1.2.2),(.slice u8.2.2.2.1.1 u8.2.2.2.1.2.1 u8.2.2.2.1.2.2)])] (.one (.one .bool)) fun(u9:Bool)=>
 za (!u9) (zD<|
 ldW .slc ((aD r3).add 1) fun(u10:SLC)=>
 ldW .slc ((aD r3).add 1) fun(u11:SLC)=>
 zc (0<=(0:Int)/\(0:Int)<((u11.2.1:Nat):Int))<|
 zh u11.1 fun(p12:Addr)=>
 ldW (.int .u64) (p12.add (Int.toNat (0:Int)*1)) fun(u13:Int)=>
 ldW .slc ((aD r3).add 1) fun(u14:SLC)=>
 ldW .slc ((aD r3).add 1) fun(u15:SLC)=>
 zc (0<=(wrap .i64 (((u15.2.1:Nat):Int)-(1:Int)))/\(wrap .i64 (((u15.2.1:Nat):Int)-(1:Int)))<((u14.2.1:Nat):Int))<|
 zh u14.1 fun(p16:Addr)=>
 ldW (.int .u64) (p16.add (Int.toNat (wrap .i64 (((u15.2.1:Nat):Int)-(1:Int)))*1)) fun(u17:Int)=>
 ldW (.int .u8) (aD r3) fun(u18:Int)=>
 zc ((#[(.int .i64 ((u10.2.1:Nat):Int)),(.int .u64 u13),(.int .u64 u17),(.int .u8 u18),(.int .i64 (1:Int))]:Array Value).size=5)<|
 zt (aD r1) [(.int .i64 ((u10.2.1:Nat):Int)),(.int .u64 u13),(.int .u64 u17),(.int .u8 u18),(.int .i64 (1:Int))]<|
 zl [(.int .i64),(.int .u64),(.int .u64),(.int .u8),(.int .i64)] (aD r1) fun(u19:(Int×Int×Int×Int×Int×Unit))=>K (.tuple #[(.agg #[(.int .i64 u19.1),(.int .u64 u19.2.1),(.int .u64 u19.2.2.1),(.int .u8 u19.2.2.2.1),(.int .i64 u19.2.2.2.2.1)]),(.int .i64 (0:Int))]))<|
 ldW .slc ((aD r3).add 3) fun(u20:SLC)=>
 zB (Int×Unit) ((0:Int),()) fun(y22:Int×Unit) (I21:(Int×Unit)->WP)=>
 za (decide (y22.1<((u20.2.1:Nat):Int))) (yD (Unit) (fun(J23:(Unit)->WP)=>
 zc (0<=y22.1/\y22.1<((u20.2.1:Nat):Int))<|
 zh u20.1 fun(p25:Addr)=>
 ldW (.int .u32) (p25.add (Int.toNat y22.1*1)) fun(u26:Int)=>
 ze prog 124 [(.pointer x0),(.int .u32 u26),(.int .i64 (wrap .i64 (x2+(1:Int)))),(.bool x3)] (.many [(.agg [(.int .i64),(.int .u64),(.int .u64),(.int .u8),(.int .i64)]),(.one (.int .i64))]) fun(u27:(Int×Int×Int×Int×Int×Unit)×Int×Unit)=>
 zi (.cells #[(.int .i64 (0:Int)),(.int .u64 (0:Int)),(.int .u64 (0:Int)),(.int .u8 (0:Int)),(.int .i64 (0:Int))] 197) fun(r28:Nat)=>
 zc ((#[(.int .i64 u27.1.1),(.int .u64 u27.1.2.1),(.int .u64 u27.1.2.2.1),(.int .u8 u27.1.2.2.2.1),(.int .i64 u27.1.2.2.2.2.1)]:Array Value).size=5)<|
 zt (aD r28) [(.int .i64 u27.1.1),(.int .u64 u27.1.2.1),(.int .u64 u27.1.2.2.1),(.int .u8 u27.1.2.2.2.1),(.int .i64 u27.1.2.2.2.2.1)]<|
 za (u27.2.1 !=(0:Int)) (zl [(.int .i64),(.int .u64),(.int .u64),(.int .u8),(.int .i64)] (aD r1) fun(u29:(Int×Int×Int×Int×Int×Unit))=>
 zc ((#[(.int .i64 u29.1),(.int .u64 u29.2.1),(.int .u64 u29.2.2.1),(.int .u8 u29.2.2.2.1),(.int .i64 u29.2.2.2.2.1)]:Array Value).size=5)<|
 zt (aD r1) [(.int .i64 u29.1),(.int .u64 u29.2.1),(.int .u64 u29.2.2.1),(.int .u8 u29.2.2.2.1),(.int .i64 u29.2.2.2.2.1)]<|
 zl [(.int .i64),(.int .u64),(.int .u64),(.int .u8),(.int .i64)] (aD r1) fun(u30:(Int×Int×Int×Int×Int×Unit))=>K (.tuple #[(.agg #[(.int .i64 u30.1),(.int .u64 u30.2.1),(.int .u64 u30.2.2.1),(.int .u8 u30.2.2.2.1),(.int .i64 u30.2.2.2.2.1)]),(.int .i64 u27.2.1)]))<|
 yD (Bool×Unit) (fun(J31:(Bool×Unit)->WP)=>
 zD<|
 ldW (.int .u64) ((aD r28).add 1) fun(u33:Int)=>
 ldW .slc ((aD r3).add 1) fun(u34:SLC)=>
 zc (0<=y22.1/\y22.1<((u34.2.1:Nat):Int))<|
 zh u34.1 fun(p35:Addr)=>
 ldW (.int .u64) (p35.add (Int.toNat y22.1*1)) fun(u36:Int)=>
 za (u33 !=u36) (J31 (true,()))<|
 za (decide (y22.1>(0:Int))) (ldW (.int .u64) ((aD r1).add 2) fun(u37:Int)=>
 ldW (.int .u64) ((aD r28).add 1) fun(u38:Int)=>
 za (decide (u37>=u38)) (J31 (true,()))<|
 ldW (.int .u8) ((aD r1).add 3) fun(u39:Int)=>
 ldW (.int .u8) ((aD r28).add 3) fun(u40:Int)=>
 za (u39 !=u40) (J31 (true,()))<|
 ldW (.int .i64) ((aD r1).add 4) fun(u41:Int)=>
 ldW (.int .i64) ((aD r28).add 4) fun(u42:Int)=>J31 ((u41 !=(wrap .i64 (u42+(1:Int)))),()))<|J31 (false,())) fun(y32:Bool×Unit)=>
 yD (Unit) (fun(J43:(Unit)->WP)=>
 za x3 (za y32.1 (zl [(.int .i64),(.int .u64),(.int .u64),(.int .u8),(.int .i64)] (aD r1) fun(u45:(Int×Int×Int×Int×Int×Unit))=>
 zc ((#[(.int .i64 u45.1),(.int .u64 u45.2.1),(.int .u64 u45.2.2.1),(.int .u8 u45.2.2.2.1),(.int .i64 u45.2.2.2.2.1)]:Array Value).size=5)<|
 zt (aD r1) [(.int .i64 u45.1),(.int .u64 u45.2.1),(.int .u64 u45.2.2.1),(.int .u8 u45.2.2.2.1),(.int .i64 u45.2.2.2.2.1)]<|
 zl [(.int .i64),(.int .u64),(.int .u64),(.int .u8),(.int .i64)] (aD r1) fun(u46:(Int×Int×Int×Int×Int×Unit))=>K (.tuple #[(.agg #[(.int .i64 u46.1),(.int .u64 u46.2.1),(.int .u64 u46.2.2.1),(.int .u8 u46.2.2.2.1),(.int .i64 u46.2.2.2.2.1)]),(.int .i64 (10:Int))]))<|J43 ())<|J43 ()) fun(y44:Unit)=>
 yD (Unit) (fun(J47:(Unit)->WP)=>
 za (y22.1==(0:Int)) (ldW (.int .u64) ((aD r28).add 1) fun(u49:Int)=>
 stW ((aD r1).add 1) (.int .u64 u49)<|J47 ())<|J47 ()) fun(y48:Unit)=>
 ldW (.int .i64) (aD r1) fun(u50:Int)=>
 ldW (.int .i64) (aD r28) fun(u51:Int)=>
 ldW (.int .u64) ((aD r1).add 1) fun(u52:Int)=>
 ldW (.int .u64) ((aD r28).add 2) fun(u53:Int)=>
 ldW (.int .u8) ((aD r28).add 3) fun(u54:Int)=>
 ldW (.int .i64) ((aD r28).add 4) fun(u55:Int)=>
 zc ((#[(.int .i64 (wrap .i64 (u50+u51))),(.int .u64 u52),(.int .u64 u53),(.int .u8 u54),(.int .i64 (wrap .i64 (u55+(1:Int))))]:Array Value).size=5)<|
 zt (aD r1) [(.int .i64 (wrap .i64 (u50+u51))),(.int .u64 u52),(.int .u64 u53),(.int .u8 u54),(.int .i64 (wrap .i64 (u55+(1:Int))))]<|J23 ()) fun(y24:Unit)=>I21 ((wrap .i64 (y22.1+(1:Int))),()))<|
 zl [(.int .i64),(.int .u64),(.int .u64),(.int .u8),(.int .i64)] (aD r1) fun(u56:(Int×Int×Int×Int×Int×Unit))=>
 zc ((#[(.int .i64 u56.1),(.int .u64 u56.2.1),(.int .u64 u56.2.2.1),(.int .u8 u56.2.2.2.1),(.int .i64 u56.2.2.2.2.1)]:Array Value).size=5)<|
 zt (aD r1) [(.int .i64 u56.1),(.int .u64 u56.2.1),(.int .u64 u56.2.2.1),(.int .u8 u56.2.2.2.1),(.int .i64 u56.2.2.2.2.1)]<|
 zl [(.int .i64),(.int .u64),(.int .u64),(.int .u8),(.int .i64)] (aD r1) fun(u57:(Int×Int×Int×Int×Int×Unit))=>K (.tuple #[(.agg #[(.int .i64 u57.1),(.int .u64 u57.2.1),(.int .u64 u57.2.2.1),(.int .u8 u57.2.2.2.1),(.int .i64 u57.2.2.2.2.1)]),(.int .i64 (0:Int))])
theorem zg2 (x0:Option Addr) (x1:Int) (x2:Int) (x3:Bool) {K:Value->WP} {w:World} (h:S124 x0 x1 x2 x3 K w):Calls prog 124 #[(.pointer x0),(.int .u32 x1),(.int .i64 x2),(.bool x3)] w (Ret K):=cF an124 false Tryz.func124 h
def an125:Ann:=(AN (AQ AP AP))
def S125 (x0:Value) (a1:Addr) (a2:Addr) (a3:Addr) (K:Value->WP):WP:=
 ldW .ptr a1 fun(u1:Option Addr)=>
 za (!(Option.isNone u1)) (ldW (.int .u32) a2 fun(u2:Int)=>
 za (u2 !=(0:Int)) (ldW .ptr a1 fun(u3:Option Addr)=>
 ldW (.int .u32) a2 fun(u4:Int)=>
 ldW (.int .u64) a3 fun(u5:Int)=>
 ze prog 126 [(.pointer u3),(.int .u32 u4),(.int .u64 u5),(.int .i64 (1:Int)),x0] (.one (.one .bool)) fun(u6:Bool)=>K (.tuple #[]))<|K (.tuple #[]))<|K (.tuple #[])
theorem zlW (x0:Value) (a1:Addr) (a2:Addr) (a3:Addr) {K:Value->WP} {w:World} (h:S125 x0 a1 a2 a3 K w):Calls prog 125 #[x0,(.pointer (some a1)),(.pointer (some a2)),(.pointer (some a3))] w (Ret K):=cF an125 false Tryz.func125 h
def an126:Ann:=(AN (AN (AR (AN (AQ AO AP)) (AR (AN (.block (.loop [(29,.sh (.one (.int .i64)))] [0,2,3,4,11,28,1000000] (AN (AR (AQ AP AP) (AR (.block (AN (AR (AN (AQ (AR (AN (AQ AO AP)) AP) AP)) (AR (AN (AQ AP AP)) (AN (AQ AO AP)))))) AP)))))) AO))))
def S126 (x0:Option Addr) (x1:Int) (x2:Int) (x3:Int) (x4:Value) (K:Value->WP):WP:=
 ze prog 166 [(.pointer x0),(.int .u32 x1)] (.many [(.agg [(.int .u8),.slc,.slc,.slc]),(.one (.int .i64))]) fun(u1:(Int×SLC×SLC×SLC×Unit)×Int×Unit)=>
 zi (.cells #[(.int .u8 (0:Int)),(.slice none 0 0),(.slice none 0 0),(.slice none 0 0)] 215) fun(r2:Nat)=>
 zc ((#[(.int .u8 u1.1.1),(.slice u1.1.2.1.1 u1.1.2.1.2.1 u1.1.2.1.2.2),(.slice u1.1.2.2.1.1 u1.1.2.2.1.2.1 u1.1.2.2.1.2.2),(.slice u1.1.2.2.2.1.1 u1.1.2.2.2.1.2.1 u1.1.2.2.2.1.2.2)]:Array Value).size=4)<|
 zt (aD r2) [(.int .u8 u1.1.1),(.slice u1.1.2.1.1 u1.1.2.1.2.1 u1.1.2.1.2.2),(.slice u1.1.2.2.1.1 u1.1.2.2.1.2.1 u1.1.2.2.1.2.2),(.slice u1.1.2.2.2.1.1 u1.1.2.2.2.1.2.1 u1.1.2.2.2.1.2.2)]<|
 za (u1.2.1 !=(0:Int)) (K (.bool false))<|
 za (decide (x3>(16:Int))) (K (.bool false))<|
 ldW .slc ((aD r2).add 1) fun(u3:SLC)=>
 zB (Int×Unit) ((0:Int),()) fun(y5:Int×Unit) (I4:(Int×Unit)->WP)=>
 za (decide (y5.1<((u3.2.1:Nat):Int))) (zl [(.int .u8),.slc,.slc,.slc] (aD r2) fun(u6:(Int×SLC×SLC×SLC×Unit))=>
 ze prog 167 [(.agg #[(.int .u8 u6.1),(.slice u6.2.1.1 u6.2.1.2.1 u6.2.1.2.2),(.slice u6.2.2.1.1 u6.2.2.1.2.1 u6.2.2.1.2.2),(.slice u6.2.2.2.1.1 u6.2.2.2.1.2.1 u6.2.2.2.1.2.2)])] (.one (.one .bool)) fun(u7:Bool)=>
 za (!u7) (zD<|
 ldW .slc ((aD r2).add 1) fun(u8:SLC)=>
 zc (0<=y5.1/\y5.1<((u8.2.1:Nat):Int))<|
 zh u8.1 fun(p9:Addr)=>
 ldW (.int .u64) (p9.add (Int.toNat y5.1*1)) fun(u10:Int)=>
 za (decide (u10>=x2)) (ldW .slc ((aD r2).add 1) fun(u11:SLC)=>
 zc (0<=y5.1/\y5.1<((u11.2.1:Nat):Int))<|
 zh u11.1 fun(p12:Addr)=>
 ldW (.int .u64) (p12.add (Int.toNat y5.1*1)) fun(u13:Int)=>
 zl [(.int .u8),.slc,.slc,.slc] (aD r2) fun(u14:(Int×SLC×SLC×SLC×Unit))=>
 ze prog 168 [(.agg #[(.int .u8 u14.1),(.slice u14.2.1.1 u14.2.1.2.1 u14.2.1.2.2),(.slice u14.2.2.1.1 u14.2.2.1.2.1 u14.2.2.1.2.2),(.slice u14.2.2.2.1.1 u14.2.2.2.1.2.1 u14.2.2.2.1.2.2)]),(.int .i64 y5.1)] (.one (.one (.int .u64))) fun(u15:Int)=>
 zr [[((p12.add (Int.toNat y5.1*1)),(.int .u64 u13))],[(((aD r2).add 1),(.slice u11.1 u11.2.1 u11.2.2))]]<|
 yJ prog x4 [(.int .u64 u13),(.int .u64 u15)] (.one (.one .bool)) fun(u16:Bool)=>
 za (!u16) (K (.bool false))<|I4 ((wrap .i64 (y5.1+(1:Int))),()))<|I4 ((wrap .i64 (y5.1+(1:Int))),()))<|
 ldW .slc ((aD r2).add 1) fun(u17:SLC)=>
 za (decide ((wrap .i64 (y5.1+(1:Int)))<((u17.2.1:Nat):Int))) (ldW .slc ((aD r2).add 1) fun(u18:SLC)=>
 zc (0<=(wrap .i64 (y5.1+(1:Int)))/\(wrap .i64 (y5.1+(1:Int)))<((u18.2.1:Nat):Int))<|
 zh u18.1 fun(p19:Addr)=>
 ldW (.int .u64) (p19.add (Int.toNat (wrap .i64 (y5.1+(1:Int)))*1)) fun(u20:Int)=>
 za (decide (u20<=x2)) (I4 ((wrap .i64 (y5.1+(1:Int))),()))<|
 ldW .slc ((aD r2).add 3) fun(u21:SLC)=>
 zc (0<=y5.1/\y5.1<((u21.2.1:Nat):Int))<|
 zh u21.1 fun(p22:Addr)=>
 ldW (.int .u32) (p22.add (Int.toNat y5.1*1)) fun(u23:Int)=>
 ze prog 126 [(.pointer x0),(.int .u32 u23),(.int .u64 x2),(.int .i64 (wrap .i64 (x3+(1:Int)))),x4] (.one (.one .bool)) fun(u24:Bool)=>
 za (!u24) (K (.bool false))<|I4 ((wrap .i64 (y5.1+(1:Int))),()))<|
 ldW .slc ((aD r2).add 3) fun(u25:SLC)=>
 zc (0<=y5.1/\y5.1<((u25.2.1:Nat):Int))<|
 zh u25.1 fun(p26:Addr)=>
 ldW (.int .u32) (p26.add (Int.toNat y5.1*1)) fun(u27:Int)=>
 ze prog 126 [(.pointer x0),(.int .u32 u27),(.int .u64 x2),(.int .i64 (wrap .i64 (x3+(1:Int)))),x4] (.one (.one .bool)) fun(u28:Bool)=>
 za (!u28) (K (.bool false))<|I4 ((wrap .i64 (y5.1+(1:Int))),()))<|K (.bool true)
theorem zg3 (x0:Option Addr) (x1:Int) (x2:Int) (x3:Int) (x4:Value) {K:Value->WP} {w:World} (h:S126 x0 x1 x2 x3 x4 K w):Calls prog 126 #[(.pointer x0),(.int .u32 x1),(.int .u64 x2),(.int .i64 x3),x4] w (Ret K):=cF an126 false Tryz.func126 h
def an127:Ann:=(AN AO)
def S127 (x0:Option Addr) (x1:Int) (K:Value->WP):WP:=
 zi (.cells #[(.pointer x0)] 48) fun(r1:Nat)=>
 zi (.cells #[(.int .u32 x1)] 41) fun(r2:Nat)=>K (.func (.func 169) #[] #[(.pointer (some (aD r1))),(.pointer (some (aD r2)))])
theorem zlX (x0:Option Addr) (x1:Int) {K:Value->WP} {w:World} (h:S127 x0 x1 K w):Calls prog 127 #[(.pointer x0),(.int .u32 x1)] w (Ret K):=cF an127 false Tryz.func127 h
def an130:Ann:=(AN (.block (.loop [(3,.sh (.one (.int .u32)))] [0,1,1000000] (AR (AN (AQ AP AP)) (AR (.block (AN (AQ AP AP))) AP)))))
def S130 (x0:Value) (a1:Addr) (K:Value->WP):WP:=
 zB (Int×Unit) ((2:Int),()) fun(y2:Int×Unit) (I1:(Int×Unit)->WP)=>
 ldW .ptr a1 fun(u3:Option Addr)=>
 zh u3 fun(p4:Addr)=>
 ldW (.int .i64) (((p4.add 1).add 1).add 1) fun(u5:Int)=>
 za (decide ((wrap .i64 y2.1)<u5)) (zD<|
 ldW .ptr a1 fun(u6:Option Addr)=>
 zh u6 fun(p7:Addr)=>
 ldW .ptr (p7.add 8) fun(u8:Option Addr)=>
 ldW .ptr a1 fun(u9:Option Addr)=>
 zh u9 fun(p10:Addr)=>
 ldW .ptr (p10.add 7) fun(u11:Option Addr)=>
 ldW .ptr a1 fun(u12:Option Addr)=>
 zh u12 fun(p13:Addr)=>
 ldW .ptr (p13.add 9) fun(u14:Option Addr)=>
 ze prog 75 [(.pointer u8),(.int .u32 y2.1)] (.one (.one (.int .i64))) fun(u15:Int)=>
 zr [[((p13.add 9),(.pointer u14))],[(a1,(.pointer u12))],[((p10.add 7),(.pointer u11))],[(a1,(.pointer u9))]]<|
 ze prog 75 [(.pointer u11),(.int .u32 y2.1)] (.one (.one (.int .i64))) fun(u16:Int)=>
 zr [[((p13.add 9),(.pointer u14))],[(a1,(.pointer u12))]]<|
 ze prog 75 [(.pointer u14),(.int .u32 y2.1)] (.one (.one (.int .i64))) fun(u17:Int)=>
 za ((wrap .i64 ((wrap .i64 (u15+u16))+u17))==(0:Int)) (yJ prog x0 [(.int .u32 y2.1)] (.one (.one .bool)) fun(u18:Bool)=>
 za (!u18) (K (.tuple #[]))<|I1 ((wrap .u32 (y2.1+(1:Int))),()))<|I1 ((wrap .u32 (y2.1+(1:Int))),()))<|K (.tuple #[])
theorem zlY (x0:Value) (a1:Addr) {K:Value->WP} {w:World} (h:S130 x0 a1 K w):Calls prog 130 #[x0,(.pointer (some a1))] w (Ret K):=cF an130 false Tryz.func130 h
def an131:Ann:=(AN (AN AO))
def S131 (x0:Option Addr) (K:Value->WP):WP:=
 ze prog 76 [(.pointer x0),(.int .i64 (0:Int))] (.one (.one (.int .i64))) fun(u1:Int)=>K (.int .i64 (if (if (wrap .i64 ((wrap .i64 (Int.tdiv (wrap .i64 (u1-(4:Int))) (4:Int)))*u1))<(65536:Int) then (wrap .i64 ((wrap .i64 (Int.tdiv (wrap .i64 (u1-(4:Int))) (4:Int)))*u1)) else (65536:Int))>(0:Int) then (if (wrap .i64 ((wrap .i64 (Int.tdiv (wrap .i64 (u1-(4:Int))) (4:Int)))*u1))<(65536:Int) then (wrap .i64 ((wrap .i64 (Int.tdiv (wrap .i64 (u1-(4:Int))) (4:Int)))*u1)) else (65536:Int)) else (0:Int)))
theorem zlZ (x0:Option Addr) {K:Value->WP} {w:World} (h:S131 x0 K w):Calls prog 131 #[(.pointer x0)] w (Ret K):=cF an131 false Tryz.func131 h
def an132:Ann:=(AN (AQ (AN (.block (.loop [(9,.sh (.one (.int .i64)))] [2,7,8,1000000] (AN (AR (AQ AP AP) (AR (.block AO) AP)))))) AP))
def S132 (a0:Addr) (a1:Addr) (a2:Addr) (K:Value->WP):WP:=
 ldW (.int .i64) a0 fun(u1:Int)=>
 za (u1 !=(0:Int)) (ldW .slc a1 fun(u2:SLC)=>
 zB (Int×Unit) ((0:Int),()) fun(y4:Int×Unit) (I3:(Int×Unit)->WP)=>
 za (decide (y4.1<((u2.2.1:Nat):Int))) (zc (0<=y4.1/\y4.1<((u2.2.1:Nat):Int))<|
 zh u2.1 fun(p5:Addr)=>
 ldW (.int .u32) (p5.add (Int.toNat y4.1*1)) fun(u6:Int)=>
 ldW .ptr a2 fun(u7:Option Addr)=>
 ze prog 28 [(.pointer u7),(.int .u32 u6)] (.one (.one (.int .i64))) fun(u8:Int)=>I3 ((wrap .i64 (y4.1+(1:Int))),()))<|K (.tuple #[]))<|K (.tuple #[])
theorem zqh (a0:Addr) (a1:Addr) (a2:Addr) (K:Value->WP):zai prog Tryz.f132 an132 false [(.pointer (some a0)),(.pointer (some a1)),(.pointer (some a2))] K=S132 a0 a1 a2 K:=by kernel_rfl
theorem zkB (a0:Addr) (a1:Addr) (a2:Addr) {K:Value->WP} {w:World} (h:S132 a0 a1 a2 K w):uJ prog 132 [(.pointer (some a0)),(.pointer (some a1)),(.pointer (some a2))] w K:=zal mixed Tryz.func132 (of_decide_eq_true (by kernel_rfl)) (by rw[zqh];exact h)
def an133:Ann:=(AN (AR (AN (AQ AO AP)) AO))
def S133 (x0:Bool) (K:Value->WP):WP:=
 za x0 (K (.int .u8 (5:Int)))<|K (.int .u8 (4:Int))
theorem zl0 (x0:Bool) {K:Value->WP} {w:World} (h:S133 x0 K w):Calls prog 133 #[(.bool x0)] w (Ret K):=cF an133 false Tryz.func133 h
def an134:Ann:=(AN (AR (AN (AQ AO AP)) (AR (AN (.block (AN (AQ AO (AN (AQ AO AP)))))) AO)))
def S134 (x0:Option Addr) (x1:Int) (K:Value->WP):WP:=
 za (decide (x1>(4294967295:Int))) (K (.bool false))<|
 ze prog 90 [(.pointer x0),(.int .u32 (wrap .u32 x1))] (.one (.one (.int .i64))) fun(u1:Int)=>
 za (u1==(0:Int)) (ze prog 28 [(.pointer x0),(.int .u32 (wrap .u32 x1))] (.one (.one (.int .i64))) fun(u2:Int)=>K (.bool (u2==(0:Int))))<|
 za (u1==(12:Int)) (K (.bool true))<|K (.bool false)
theorem zl1 (x0:Option Addr) (x1:Int) {K:Value->WP} {w:World} (h:S134 x0 x1 K w):Calls prog 134 #[(.pointer x0),(.int .u64 x1)] w (Ret K):=cF an134 false Tryz.func134 h
def an135:Ann:=(AN (.join [] [1,2,3,1000000] (.block (AN (AQ AO (AN (AQ AO (AN (AQ AO AP))))))) (AN (AR (AN (AQ AO AP)) AO))))
def S135 (Ae:Int) (Aa:Option Addr) (Ab Ac:Nat) (Ak:Option Addr) (Al Am:Nat) (An:Option Addr) (Ao Aq:Nat) (x1:Option Addr) (x2:Int) (K:Value->WP):WP:=
 zi (.cells #[(.int .u8 Ae),(.slice Aa Ab Ac),(.slice Ak Al Am),(.slice An Ao Aq)] 215) fun(r1:Nat)=>
 yD (Unit) (fun(J2:(Unit)->WP)=>
 ldW .slc ((aD r1).add 1) fun(u4:SLC)=>
 za (((u4.2.1:Nat):Int)==(0:Int)) (K (.tuple #[(.int .u32 (0:Int)),(.int .i64 (0:Int))]))<|
 zl [(.int .u8),.slc,.slc,.slc] (aD r1) fun(u5:(Int×SLC×SLC×SLC×Unit))=>
 ze prog 167 [(.agg #[(.int .u8 u5.1),(.slice u5.2.1.1 u5.2.1.2.1 u5.2.1.2.2),(.slice u5.2.2.1.1 u5.2.2.1.2.1 u5.2.2.1.2.2),(.slice u5.2.2.2.1.1 u5.2.2.2.1.2.1 u5.2.2.2.1.2.2)])] (.one (.one .bool)) fun(u6:Bool)=>
 za u6 (ldW .slc ((aD r1).add 3) fun(u7:SLC)=>
 za (((u7.2.1:Nat):Int)==(1:Int)) (ldW .slc ((aD r1).add 3) fun(u8:SLC)=>
 zc (0<=(0:Int)/\(0:Int)<((u8.2.1:Nat):Int))<|
 zh u8.1 fun(p9:Addr)=>
 ldW (.int .u32) (p9.add (Int.toNat (0:Int)*1)) fun(u10:Int)=>K (.tuple #[(.int .u32 u10),(.int .i64 (0:Int))]))<|
 za (decide (x2>(16:Int))) (K (.tuple #[(.int .u32 (0:Int)),(.int .i64 (12:Int))]))<|J2 ())<|
 za (decide (x2>(16:Int))) (K (.tuple #[(.int .u32 (0:Int)),(.int .i64 (12:Int))]))<|J2 ()) fun(y3:Unit)=>
 zl [(.int .u8),.slc,.slc,.slc] (aD r1) fun(u11:(Int×SLC×SLC×SLC×Unit))=>
 ze prog 172 [(.agg #[(.int .u8 u11.1),(.slice u11.2.1.1 u11.2.1.2.1 u11.2.1.2.2),(.slice u11.2.2.1.1 u11.2.2.1.2.1 u11.2.2.1.2.2),(.slice u11.2.2.2.1.1 u11.2.2.2.1.2.1 u11.2.2.2.1.2.2)]),(.pointer x1)] (.many [(.one .slc),(.one .slc),(.one (.int .i64))]) fun(u12:SLC×SLC×Int×Unit)=>
 za (u12.2.2.1 !=(0:Int)) (K (.tuple #[(.int .u32 (0:Int)),(.int .i64 u12.2.2.1)]))<|
 ze prog 135 [(.agg #[(.int .u8 (3:Int)),(.slice u12.1.1 u12.1.2.1 u12.1.2.2),(.slice none 0 0),(.slice u12.2.1.1 u12.2.1.2.1 u12.2.1.2.2)]),(.pointer x1),(.int .i64 (wrap .i64 (x2+(1:Int))))] (.many [(.one (.int .u32)),(.one (.int .i64))]) fun(u13:Int×Int×Unit)=>K (.tuple #[(.int .u32 u13.1),(.int .i64 u13.2.1)])
theorem zdW (Ae:Int) (Aa:Option Addr) (Ab Ac:Nat) (Ak:Option Addr) (Al Am:Nat) (An:Option Addr) (Ao Aq:Nat) (x1:Option Addr) (x2:Int) {K:Value->WP} {w:World} (h:S135 Ae Aa Ab Ac Ak Al Am An Ao Aq x1 x2 K w):Calls prog 135 #[(.agg #[(.int .u8 Ae),(.slice Aa Ab Ac),(.slice Ak Al Am),(.slice An Ao Aq)]),(.pointer x1),(.int .i64 x2)] w (Ret K):=cF an135 false Tryz.func135 h
def an136:Ann:=(AN (AR (.block (AN (AQ AO (AN (AQ AO (AN (AQ AO AP))))))) AO))
def S136 (x0:Option Addr) (x1:Int) (K:Value->WP):WP:=
 za (Option.isNone x0) (K (.tuple #[(.pointer none),(.int .i64 (1:Int))]))<|
 za (decide (x1<(2:Int))) (K (.tuple #[(.pointer none),(.int .i64 (2:Int))]))<|
 zh x0 fun(p1:Addr)=>
 ldW .slc (p1.add 2) fun(u2:SLC)=>
 za (decide ((wrap .u64 x1)>=(wrap .u64 ((u2.2.1:Nat):Int)))) (K (.tuple #[(.pointer none),(.int .i64 (2:Int))]))<|
 zh x0 fun(p3:Addr)=>
 ldW .slc (p3.add 2) fun(u4:SLC)=>
 zc (0<=x1/\x1<((u4.2.1:Nat):Int))<|
 zh u4.1 fun(p5:Addr)=>
 ldW (.int .u16) (p5.add (Int.toNat x1*1)) fun(u6:Int)=>
 za (u6==(0:Int)) (K (.tuple #[(.pointer none),(.int .i64 (8:Int))]))<|
 zh x0 fun(p7:Addr)=>
 ldW .slc (p7.add 2) fun(u8:SLC)=>
 zc (0<=x1/\x1<((u8.2.1:Nat):Int))<|
 zh u8.1 fun(p9:Addr)=>K (.tuple #[(.pointer (some (p9.add (Int.toNat x1*1)))),(.int .i64 (0:Int))])
theorem zl2 (x0:Option Addr) (x1:Int) {K:Value->WP} {w:World} (h:S136 x0 x1 K w):Calls prog 136 #[(.pointer x0),(.int .u32 x1)] w (Ret K):=cF an136 false Tryz.func136 h
def an137:Ann:=(AN (AR (.block (AN (AQ AO (AN (AQ AO AP))))) (AR (AN (.block (.loop [(18,.sh (.one (.int .i64))),(19,.sh (.agg [(.int .i64),.str]))] [] (AN (.block (AN (AQ AO AP))))))) AO)))
def S137 (x0:Option Addr) (x1:Int) (K:Value->WP):WP:=
 zi (.cells #[(.int .i64 x1)] 3) fun(r1:Nat)=>
 zi (.cells #[(.string ByteArray.empty)] 9) fun(r2:Nat)=>
 zi (.cells #[(.int .i64 (0:Int))] 28) fun(r3:Nat)=>
 za (Option.isNone x0) (stW (aD r2) (.string (ByteArray.mk #[]))<|
 stW (aD r3) (.int .i64 (1:Int))<|
 zS prog []<|
 ldW .str (aD r2) fun(u4:ByteArray)=>
 ldW (.int .i64) (aD r3) fun(u5:Int)=>K (.tuple #[(.string u4),(.int .i64 u5)]))<|
 ldW (.int .i64) (aD r1) fun(u6:Int)=>
 ze prog 162 [(.pointer x0),(.int .i64 u6)] (.one (.one .bool)) fun(u7:Bool)=>
 za (!u7) (stW (aD r2) (.string (ByteArray.mk #[]))<|
 stW (aD r3) (.int .i64 (2:Int))<|
 zS prog []<|
 ldW .str (aD r2) fun(u8:ByteArray)=>
 ldW (.int .i64) (aD r3) fun(u9:Int)=>K (.tuple #[(.string u8),(.int .i64 u9)]))<|
 ze prog 173 [(.pointer x0)] (.one (.one .any)) fun(u10:Value)=>
 jE prog u10 (Int×(Int×ByteArray×Unit)×Unit) (fun(t11:Int×(Int×ByteArray×Unit)×Unit)=>[(.int .i64 t11.1),(.agg #[(.int .i64 t11.2.1.1),(.string t11.2.1.2.1)])]) (fun(t11:Int×(Int×ByteArray×Unit)×Unit) (B12:WP->WP) (N13:WP) (Q14:Code->WP)=>
 zi (.cells #[(.int .i64 (0:Int)),(.string ByteArray.empty)] 230) fun(r17:Nat)=>
 zc ((#[(.int .i64 t11.2.1.1),(.string t11.2.1.2.1)]:Array Value).size=2)<|
 zt (aD r17) [(.int .i64 t11.2.1.1),(.string t11.2.1.2.1)]<|B12 (ldW (.int .i64) (aD r17) fun(u18:Int)=>
 ldW (.int .i64) (aD r1) fun(u19:Int)=>
 za (u18==u19) (ldW .str ((aD r17).add 1) fun(u20:ByteArray)=>
 stW (aD r2) (.string u20)<|
 stW (aD r3) (.int .i64 (0:Int))<|Q14 .ret)<|N13)) fun(r15:Nat) (p16:Option Code)=>
 jw (zD<|
 zh x0 fun(p21:Addr)=>
 ldW .slc (p21.add 2) fun(u22:SLC)=>
 ldW (.int .i64) (aD r1) fun(u23:Int)=>
 zc (0<=u23/\u23<((u22.2.1:Nat):Int))<|
 zh u22.1 fun(p24:Addr)=>
 ldW .str (p24.add (Int.toNat u23*1)) fun(u25:ByteArray)=>
 stW (aD r2) (.string u25)<|
 stW (aD r3) (.int .i64 (0:Int))<|
 zS prog (⟨.collected r15,#[]⟩::[])<|
 ldW .str (aD r2) fun(u26:ByteArray)=>
 ldW (.int .i64) (aD r3) fun(u27:Int)=>K (.tuple #[(.string u26),(.int .i64 u27)])) (zS prog (⟨.collected r15,#[]⟩::[])<|
 ldW .str (aD r2) fun(u28:ByteArray)=>
 ldW (.int .i64) (aD r3) fun(u29:Int)=>K (.tuple #[(.string u28),(.int .i64 u29)])) [] p16
theorem zl3 (x0:Option Addr) (x1:Int) {K:Value->WP} {w:World} (h:S137 x0 x1 K w):Calls prog 137 #[(.pointer x0),(.int .i64 x1)] w (Ret K):=cF an137 true Tryz.func137 h
def an138:Ann:=(AN (AN (AR (AN (AQ AO AP)) (AN (AN (AR (AN (AQ AO AP)) (AN (AR (AN (.block (.loop [(41,.sh (.one (.int .u64)))] [0,4,7,40,1000000] (AN (AR (AQ AP AP) (AR (.block (AN (AR (AN (AQ AO AP)) AP))) AP)))))) (AN (AN AO))))))))))
def S138 (x0:Option Addr) (x1:ByteArray) (K:Value->WP):WP:=
 zi (.cells #[(.int .u8 (0:Int)),(.slice none 0 0),(.string ByteArray.empty)] 56) fun(r1:Nat)=>
 ze prog 174 [(.string x1)] (.many [(.agg [(.int .u8),(.int .u64),.str]),(.one (.int .i64))]) fun(u2:(Int×Int×ByteArray×Unit)×Int×Unit)=>
 zi (.cells #[(.int .u8 (0:Int)),(.int .u64 (0:Int)),(.string ByteArray.empty)] 127) fun(r3:Nat)=>
 zc ((#[(.int .u8 u2.1.1),(.int .u64 u2.1.2.1),(.string u2.1.2.2.1)]:Array Value).size=3)<|
 zt (aD r3) [(.int .u8 u2.1.1),(.int .u64 u2.1.2.1),(.string u2.1.2.2.1)]<|
 za (u2.2.1 !=(0:Int)) (zl [(.int .u8),.slc,.str] (aD r1) fun(u4:(Int×SLC×ByteArray×Unit))=>
 zc ((#[(.int .u8 u4.1),(.slice u4.2.1.1 u4.2.1.2.1 u4.2.1.2.2),(.string u4.2.2.1)]:Array Value).size=3)<|
 zt (aD r1) [(.int .u8 u4.1),(.slice u4.2.1.1 u4.2.1.2.1 u4.2.1.2.2),(.string u4.2.2.1)]<|
 zl [(.int .u8),.slc,.str] (aD r1) fun(u5:(Int×SLC×ByteArray×Unit))=>K (.tuple #[(.agg #[(.int .u8 u5.1),(.slice u5.2.1.1 u5.2.1.2.1 u5.2.1.2.2),(.string u5.2.2.1)]),(.int .i64 (10:Int))]))<|
 ldW (.int .u8) (aD r3) fun(u6:Int)=>
 za (decide (u6<(3:Int))) (zl [(.int .u8),.slc,.str] (aD r1) fun(u7:(Int×SLC×ByteArray×Unit))=>
 zc ((#[(.int .u8 u7.1),(.slice u7.2.1.1 u7.2.1.2.1 u7.2.1.2.2),(.string u7.2.2.1)]:Array Value).size=3)<|
 zt (aD r1) [(.int .u8 u7.1),(.slice u7.2.1.1 u7.2.1.2.1 u7.2.1.2.2),(.string u7.2.2.1)]<|
 zl [(.int .u8),.slc,.str] (aD r1) fun(u8:(Int×SLC×ByteArray×Unit))=>K (.tuple #[(.agg #[(.int .u8 u8.1),(.slice u8.2.1.1 u8.2.1.2.1 u8.2.1.2.2),(.string u8.2.2.1)]),(.int .i64 (10:Int))]))<|
 ldW .str ((aD r3).add 2) fun(u9:ByteArray)=>
 zv prog (Go.convert 9 85 (.string u9)) .slc fun(u10:SLC)=>
 ze prog 175 [(.slice u10.1 u10.2.1 u10.2.2)] (.one (.one .ptr)) fun(u11:Option Addr)=>
 ze prog 176 [(.pointer u11),(.int .i64 (2:Int))] (.many [(.one (.int .u64)),(.one (.int .i64))]) fun(u12:Int×Int×Unit)=>
 za (u12.2.1 !=(0:Int)) (zl [(.int .u8),.slc,.str] (aD r1) fun(u13:(Int×SLC×ByteArray×Unit))=>
 zc ((#[(.int .u8 u13.1),(.slice u13.2.1.1 u13.2.1.2.1 u13.2.1.2.2),(.string u13.2.2.1)]:Array Value).size=3)<|
 zt (aD r1) [(.int .u8 u13.1),(.slice u13.2.1.1 u13.2.1.2.1 u13.2.1.2.2),(.string u13.2.2.1)]<|
 zl [(.int .u8),.slc,.str] (aD r1) fun(u14:(Int×SLC×ByteArray×Unit))=>K (.tuple #[(.agg #[(.int .u8 u14.1),(.slice u14.2.1.1 u14.2.1.2.1 u14.2.1.2.2),(.string u14.2.2.1)]),(.int .i64 (10:Int))]))<|
 ldW (.int .u8) (aD r3) fun(u15:Int)=>
 stW (aD r1) (.int .u8 u15)<|
 zB (Int×Unit) ((0:Int),()) fun(y17:Int×Unit) (I16:(Int×Unit)->WP)=>
 za (decide (y17.1<u12.1)) (ze prog 176 [(.pointer u11),(.int .i64 (4:Int))] (.many [(.one (.int .u64)),(.one (.int .i64))]) fun(u18:Int×Int×Unit)=>
 za (u18.2.1 !=(0:Int)) (zc ((#[(.int .u8 (0:Int)),(.slice none 0 0),(.string ByteArray.empty)]:Array Value).size=3)<|
 zt (aD r1) [(.int .u8 (0:Int)),(.slice none 0 0),(.string ByteArray.empty)]<|
 zl [(.int .u8),.slc,.str] (aD r1) fun(u19:(Int×SLC×ByteArray×Unit))=>K (.tuple #[(.agg #[(.int .u8 u19.1),(.slice u19.2.1.1 u19.2.1.2.1 u19.2.1.2.2),(.string u19.2.2.1)]),(.int .i64 (10:Int))]))<|
 za (decide (u18.1<(2:Int))) (zc ((#[(.int .u8 (0:Int)),(.slice none 0 0),(.string ByteArray.empty)]:Array Value).size=3)<|
 zt (aD r1) [(.int .u8 (0:Int)),(.slice none 0 0),(.string ByteArray.empty)]<|
 zl [(.int .u8),.slc,.str] (aD r1) fun(u20:(Int×SLC×ByteArray×Unit))=>K (.tuple #[(.agg #[(.int .u8 u20.1),(.slice u20.2.1.1 u20.2.1.2.1 u20.2.1.2.2),(.string u20.2.2.1)]),(.int .i64 (10:Int))]))<|
 zh x0 fun(p21:Addr)=>
 ldW (.int .i64) (((p21.add 1).add 1).add 1) fun(u22:Int)=>
 za (decide (u18.1>=(wrap .u64 u22))) (zc ((#[(.int .u8 (0:Int)),(.slice none 0 0),(.string ByteArray.empty)]:Array Value).size=3)<|
 zt (aD r1) [(.int .u8 (0:Int)),(.slice none 0 0),(.string ByteArray.empty)]<|
 zl [(.int .u8),.slc,.str] (aD r1) fun(u23:(Int×SLC×ByteArray×Unit))=>K (.tuple #[(.agg #[(.int .u8 u23.1),(.slice u23.2.1.1 u23.2.1.2.1 u23.2.1.2.2),(.string u23.2.2.1)]),(.int .i64 (10:Int))]))<|
 ldW .slc ((aD r1).add 1) fun(u24:SLC)=>
 zi (.cells #[(.int .u32 (wrap .u32 u18.1))] 41) fun(r25:Nat)=>
 zv prog (Builtin.append_ #[54,54] 54 #[(.slice u24.1 u24.2.1 u24.2.2),(.slice (some (aD r25)) 1 1)]) .slc fun(u26:SLC)=>
 stW ((aD r1).add 1) (.slice u26.1 u26.2.1 u26.2.2)<|I16 ((wrap .u64 (y17.1+(1:Int))),()))<|
 ze prog 178 [(.pointer u11)] (.one (.one (.int .i64))) fun(u27:Int)=>
 ze prog 177 [(.pointer u11),(.int .i64 u27)] (.many [(.one .slc),(.one (.int .i64))]) fun(u28:SLC×Int×Unit)=>
 zv prog (Go.convert 85 9 (.slice u28.1.1 u28.1.2.1 u28.1.2.2)) .str fun(u29:ByteArray)=>
 stW ((aD r1).add 2) (.string u29)<|
 zl [(.int .u8),.slc,.str] (aD r1) fun(u30:(Int×SLC×ByteArray×Unit))=>
 zc ((#[(.int .u8 u30.1),(.slice u30.2.1.1 u30.2.1.2.1 u30.2.1.2.2),(.string u30.2.2.1)]:Array Value).size=3)<|
 zt (aD r1) [(.int .u8 u30.1),(.slice u30.2.1.1 u30.2.1.2.1 u30.2.1.2.2),(.string u30.2.2.1)]<|
 zl [(.int .u8),.slc,.str] (aD r1) fun(u31:(Int×SLC×ByteArray×Unit))=>K (.tuple #[(.agg #[(.int .u8 u31.1),(.slice u31.2.1.1 u31.2.1.2.1 u31.2.1.2.2),(.string u31.2.2.1)]),(.int .i64 u28.2.1)])
theorem zl4 (x0:Option Addr) (x1:ByteArray) {K:Value->WP} {w:World} (h:S138 x0 x1 K w):Calls prog 138 #[(.pointer x0),(.string x1)] w (Ret K):=cF an138 false Tryz.func138 h
def an139:Ann:=(AN (AN (AR (AN (AQ AO AP)) (AR (AN (AQ AO AP)) (AN AO)))))
def S139 (x0:Option Addr) (x1:Int) (K:Value->WP):WP:=
 ze prog 136 [(.pointer x0),(.int .u32 x1)] (.many [(.one .ptr),(.one (.int .i64))]) fun(u1:Option Addr×Int×Unit)=>
 za (u1.2.1 !=(0:Int)) (K (.int .i64 u1.2.1))<|
 zh u1.1 fun(p2:Addr)=>
 ldW (.int .u16) p2 fun(u3:Int)=>
 za (u3==(65535:Int)) (K (.int .i64 (12:Int)))<|
 zh u1.1 fun(p4:Addr)=>
 ldW (.int .u16) p4 fun(u5:Int)=>
 zh u1.1 fun(p6:Addr)=>
 stW p6 (.int .u16 (wrap .u16 (u5+(1:Int))))<|K (.int .i64 (0:Int))
theorem zl5 (x0:Option Addr) (x1:Int) {K:Value->WP} {w:World} (h:S139 x0 x1 K w):Calls prog 139 #[(.pointer x0),(.int .u32 x1)] w (Ret K):=cF an139 false Tryz.func139 h
def an141:Ann:=(AN (AR (AN (AQ AO AP)) (AR (AN (.block (.loop [(21,.sh (.one .slc))] [] (AN (.block (AN (AR (AN (.block (.loop [(4,.sh (.one .slc)),(24,.sh (.one (.int .i64)))] [2,22,23,1000000] (AN (AR (AQ AP AP) (AR (.block AO) AP)))))) AP))))))) AO)))
def S141 (x0:Option Addr) (K:Value->WP):WP:=
 zi (.cells #[(.slice none 0 0)] 158) fun(r1:Nat)=>
 za (Option.isNone x0) (stW (aD r1) (.slice none 0 0)<|
 zS prog []<|
 ldW .slc (aD r1) fun(u2:SLC)=>K (.slice u2.1 u2.2.1 u2.2.2))<|
 zD<|
 zh x0 fun(p3:Addr)=>
 ldW .slc (p3.add 2) fun(u4:SLC)=>
 zh x0 fun(p5:Addr)=>
 ldW (.int .i64) p5 fun(u6:Int)=>
 ze prog 121 [(.int .i64 u6)] (.one (.one (.int .i64))) fun(u7:Int)=>
 zr [[((p3.add 2),(.slice u4.1 u4.2.1 u4.2.2))]]<|
 ze prog 181 [(.slice u4.1 u4.2.1 u4.2.2),(.int .i64 (wrap .i64 (Int.tdiv u7 (2:Int))))] (.one (.one .any)) fun(u8:Value)=>
 jE prog u8 (SLC×Unit) (fun(t9:SLC×Unit)=>[(.slice t9.1.1 t9.1.2.1 t9.1.2.2)]) (fun(t9:SLC×Unit) (B10:WP->WP) (N11:WP) (Q12:Code->WP)=>B10 (zB (SLC×Int×Unit) ((none,0,0),(0:Int),()) fun(y16:SLC×Int×Unit) (I15:(SLC×Int×Unit)->WP)=>
 za (decide (y16.2.1<((t9.1.2.1:Nat):Int))) (zc (0<=y16.2.1/\y16.2.1<((t9.1.2.1:Nat):Int))<|
 zh t9.1.1 fun(p17:Addr)=>
 ldW (.int .u16) (p17.add (Int.toNat y16.2.1*1)) fun(u18:Int)=>
 ze prog 42 [(.slice y16.1.1 y16.1.2.1 y16.1.2.2),(.int .u64 (wrap .u64 u18)),(.int .i64 (2:Int))] (.one (.one .slc)) fun(u19:SLC)=>I15 ((u19.1,u19.2.1,u19.2.2),(wrap .i64 (y16.2.1+(1:Int))),()))<|
 ldW .slc (aD r1) fun(u20:SLC)=>
 zv prog (Go.convert 85 9 (.slice y16.1.1 y16.1.2.1 y16.1.2.2)) .str fun(u21:ByteArray)=>
 zi (.cells #[(.string u21)] 9) fun(r22:Nat)=>
 zv prog (Builtin.append_ #[158,158] 158 #[(.slice u20.1 u20.2.1 u20.2.2),(.slice (some (aD r22)) 1 1)]) .slc fun(u23:SLC)=>
 stW (aD r1) (.slice u23.1 u23.2.1 u23.2.2)<|N11)) fun(r13:Nat) (p14:Option Code)=>
 jw (ldW .slc (aD r1) fun(u24:SLC)=>
 stW (aD r1) (.slice u24.1 u24.2.1 u24.2.2)<|
 zS prog (⟨.collected r13,#[]⟩::[])<|
 ldW .slc (aD r1) fun(u25:SLC)=>K (.slice u25.1 u25.2.1 u25.2.2)) (zS prog (⟨.collected r13,#[]⟩::[])<|
 ldW .slc (aD r1) fun(u26:SLC)=>K (.slice u26.1 u26.2.1 u26.2.2)) [] p14
theorem zl6 (x0:Option Addr) {K:Value->WP} {w:World} (h:S141 x0 K w):Calls prog 141 #[(.pointer x0)] w (Ret K):=cF an141 true Tryz.func141 h
def an142:Ann:=(AN (AR (.block (AN (AQ AO (AN (AQ AO AP))))) (AR (AN (.block (.loop [(17,.sh (.one (.int .i64)))] [0,15,16,1000000] (AN (AR (AQ AP AP) (AR (.block AO) AP)))))) (AN AO))))
def S142 (x0:Option Addr) (K:Value->WP):WP:=
 za (Option.isNone x0) (K (.int .i64 (1:Int)))<|
 ze prog 163 [(.pointer x0)] (.one (.one .bool)) fun(u1:Bool)=>
 za (!u1) (K (.int .i64 (8:Int)))<|
 zh x0 fun(p2:Addr)=>
 ldW .slc (p2.add 3) fun(u3:SLC)=>
 zB (Int×Unit) ((0:Int),()) fun(y5:Int×Unit) (I4:(Int×Unit)->WP)=>
 za (decide (y5.1<((u3.2.1:Nat):Int))) (zc (0<=y5.1/\y5.1<((u3.2.1:Nat):Int))<|
 zh u3.1 fun(p6:Addr)=>
 zl [(.int .i64),.str] (p6.add (Int.toNat y5.1*2)) fun(u7:(Int×ByteArray×Unit))=>
 zi (.cells #[(.int .i64 (0:Int)),(.string ByteArray.empty)] 230) fun(r8:Nat)=>
 zc ((#[(.int .i64 u7.1),(.string u7.2.1)]:Array Value).size=2)<|
 zt (aD r8) [(.int .i64 u7.1),(.string u7.2.1)]<|
 zD<|
 zh x0 fun(p9:Addr)=>
 ldW .slc (p9.add 2) fun(u10:SLC)=>
 ldW (.int .i64) (aD r8) fun(u11:Int)=>
 ldW .str ((aD r8).add 1) fun(u12:ByteArray)=>
 zc (0<=u11/\u11<((u10.2.1:Nat):Int))<|
 zh u10.1 fun(p13:Addr)=>
 stW (p13.add (Int.toNat u11*1)) (.string u12)<|I4 ((wrap .i64 (y5.1+(1:Int))),()))<|
 zh x0 fun(p14:Addr)=>
 stW (p14.add 3) (.slice none 0 0)<|K (.int .i64 (0:Int))
theorem zl7 (x0:Option Addr) {K:Value->WP} {w:World} (h:S142 x0 K w):Calls prog 142 #[(.pointer x0)] w (Ret K):=cF an142 false Tryz.func142 h
def an143:Ann:=(AN (AR (AN (AN (AQ AO AP))) (AN (AR (AN (.block (.loop [(5,.sh (.one .slc)),(28,.sh (.one (.int .i64)))] [1,26,27,1000000] (AN (AR (AQ AP AP) (AR (.block AO) AP)))))) (AN (AR (AN (.block (.loop [(5,.sh (.one .slc)),(45,.sh (.one (.int .i64)))] [1,43,44,1000000] (AN (AR (AQ AP AP) (AR (.block AO) AP)))))) AO))))))
def S143 (Ae:Int) (Ai:Int) (Aj:Int) (Ar:Int) (AF:Option Addr) (AG AH:Nat) (K:Value->WP):WP:=
 zi (.cells #[(.int .u64 Ae),(.int .i64 Ai),(.int .i64 Aj),(.int .u32 Ar),(.slice AF AG AH)] 79) fun(r1:Nat)=>
 zl [(.int .u64),(.int .i64),(.int .i64),(.int .u32),.slc] (aD r1) fun(u2:(Int×Int×Int×Int×SLC×Unit))=>
 ze prog 117 [(.agg #[(.int .u64 u2.1),(.int .i64 u2.2.1),(.int .i64 u2.2.2.1),(.int .u32 u2.2.2.2.1),(.slice u2.2.2.2.2.1.1 u2.2.2.2.2.1.2.1 u2.2.2.2.2.1.2.2)])] (.one (.one (.int .i64))) fun(u3:Int)=>
 za (u3 !=(0:Int)) (K (.tuple #[(.string (ByteArray.mk #[])),(.int .i64 u3)]))<|
 ldW (.int .i64) ((aD r1).add 1) fun(u4:Int)=>
 ldW (.int .i64) (((aD r1).add 1).add 1) fun(u5:Int)=>
 ldW (.int .u32) ((aD r1).add 3) fun(u6:Int)=>
 zi (.cells #[(.int .u64 (wrap .u64 u4)),(.int .u64 (wrap .u64 u5)),(.int .u64 (wrap .u64 u6))] 42) fun(r7:Nat)=>
 zB (SLC×Int×Unit) ((none,0,0),(0:Int),()) fun(y9:SLC×Int×Unit) (I8:(SLC×Int×Unit)->WP)=>
 za (decide (y9.2.1<((3:Nat):Int))) (zc (0<=y9.2.1/\y9.2.1<((3:Nat):Int))<|
 zh (some (aD r7)) fun(p10:Addr)=>
 ldW (.int .u64) (p10.add (Int.toNat y9.2.1*1)) fun(u11:Int)=>
 ze prog 42 [(.slice y9.1.1 y9.1.2.1 y9.1.2.2),(.int .u64 u11),(.int .i64 (4:Int))] (.one (.one .slc)) fun(u12:SLC)=>I8 ((u12.1,u12.2.1,u12.2.2),(wrap .i64 (y9.2.1+(1:Int))),()))<|
 ldW .slc ((aD r1).add 4) fun(u13:SLC)=>
 ze prog 42 [(.slice y9.1.1 y9.1.2.1 y9.1.2.2),(.int .u64 (wrap .u64 ((u13.2.1:Nat):Int))),(.int .i64 (2:Int))] (.one (.one .slc)) fun(u14:SLC)=>
 ldW .slc ((aD r1).add 4) fun(u15:SLC)=>
 zB (SLC×Int×Unit) ((u14.1,u14.2.1,u14.2.2),(0:Int),()) fun(y17:SLC×Int×Unit) (I16:(SLC×Int×Unit)->WP)=>
 za (decide (y17.2.1<((u15.2.1:Nat):Int))) (zc (0<=y17.2.1/\y17.2.1<((u15.2.1:Nat):Int))<|
 zh u15.1 fun(p18:Addr)=>
 ldW (.int .u32) (p18.add (Int.toNat y17.2.1*1)) fun(u19:Int)=>
 ze prog 42 [(.slice y17.1.1 y17.1.2.1 y17.1.2.2),(.int .u64 (wrap .u64 u19)),(.int .i64 (4:Int))] (.one (.one .slc)) fun(u20:SLC)=>I16 ((u20.1,u20.2.1,u20.2.2),(wrap .i64 (y17.2.1+(1:Int))),()))<|
 ldW (.int .i64) ((aD r1).add 1) fun(u21:Int)=>
 ldW (.int .u64) (aD r1) fun(u22:Int)=>
 zv prog (Go.convert 85 9 (.slice y17.1.1 y17.1.2.1 y17.1.2.2)) .str fun(u23:ByteArray)=>
 ze prog 123 [(.int .i64 u21),(.agg #[(.int .u8 (1:Int)),(.int .u64 u22),(.string u23)])] (.many [(.one .str),(.one (.int .i64))]) fun(u24:ByteArray×Int×Unit)=>K (.tuple #[(.string u24.1),(.int .i64 u24.2.1)])
theorem zl8 (Ae:Int) (Ai:Int) (Aj:Int) (Ar:Int) (AF:Option Addr) (AG AH:Nat) {K:Value->WP} {w:World} (h:S143 Ae Ai Aj Ar AF AG AH K w):Calls prog 143 #[(.agg #[(.int .u64 Ae),(.int .i64 Ai),(.int .i64 Aj),(.int .u32 Ar),(.slice AF AG AH)])] w (Ret K):=cF an143 false Tryz.func143 h
def an144:Ann:=(AN (AR (AN (AQ AO AP)) AO))
def S144 (a0:Option Addr) (n0 c0:Nat) (K:Value->WP):WP:=
 za (Option.isNone a0) (K (.slice none 0 0))<|
 zi (.cells #[] 194) fun(r1:Nat)=>
 zv prog (Builtin.append_ #[191,191] 191 #[(.slice (some (aD r1)) 0 0),(.slice a0 n0 c0)]) .slc fun(u2:SLC)=>K (.slice u2.1 u2.2.1 u2.2.2)
theorem zl9 (a0:Option Addr) (n0 c0:Nat) {K:Value->WP} {w:World} (h:S144 a0 n0 c0 K w):Calls prog 144 #[(.slice a0 n0 c0)] w (Ret K):=cF an144 false Tryz.func144 h
def an154:Ann:=(AN AO)
def S154 (a0:Option Addr) (n0 c0:Nat) (x1:Value) (K:Value->WP):WP:=
 ze prog 195 [(.slice a0 n0 c0),x1] (.one (.one (.int .i64))) fun(u1:Int)=>K (.bool (decide (u1>=(0:Int))))
theorem zma (a0:Option Addr) (n0 c0:Nat) (x1:Value) {K:Value->WP} {w:World} (h:S154 a0 n0 c0 x1 K w):Calls prog 154 #[(.slice a0 n0 c0),x1] w (Ret K):=cF an154 false Tryz.func154 h
def an155:Ann:=(AN AO)
def S155 (Ae:ByteArray) (Ai:Int) (Aj:Bool) (a1:Addr) (K:Value->WP):WP:=
 zi (.cells #[(.string Ae),(.int .i64 Ai),(.bool Aj)] 62) fun(r1:Nat)=>
 ldW .str (aD r1) fun(u2:ByteArray)=>
 ldW .str a1 fun(u3:ByteArray)=>K (.bool (u2.toList==u3.toList))
theorem zmb (Ae:ByteArray) (Ai:Int) (Aj:Bool) (a1:Addr) {K:Value->WP} {w:World} (h:S155 Ae Ai Aj a1 K w):Calls prog 155 #[(.agg #[(.string Ae),(.int .i64 Ai),(.bool Aj)]),(.pointer (some a1))] w (Ret K):=cF an155 false Tryz.func155 h
def an156:Ann:=(AN AO)
def S156 (a0:Option Addr) (n0 c0:Nat) (K:Value->WP):WP:=
 zi (.cells #[(.slice a0 n0 c0)] 85) fun(r1:Nat)=>K (.func (.func 196) #[] #[(.pointer (some (aD r1)))])
theorem zmc (a0:Option Addr) (n0 c0:Nat) {K:Value->WP} {w:World} (h:S156 a0 n0 c0 K w):Calls prog 156 #[(.slice a0 n0 c0)] w (Ret K):=cF an156 false Tryz.func156 h
def an157:Ann:=(AN (AR (AN (AQ AO AP)) (AN AO)))
def S157 (x0:ByteArray) (K:Value->WP):WP:=
 zi (.cells #[(.string ByteArray.empty),(.int .i64 (0:Int)),(.bool false)] 62) fun(r1:Nat)=>
 za (decide (((x0.size:Nat):Int)<(2:Int))) (zc ((#[(.string ByteArray.empty),(.int .i64 (0:Int)),(.bool false)]:Array Value).size=3)<|
 zt (aD r1) [(.string ByteArray.empty),(.int .i64 (0:Int)),(.bool false)]<|
 zl [.str,(.int .i64),.bool] (aD r1) fun(u2:(ByteArray×Int×Bool×Unit))=>K (.tuple #[(.agg #[(.string u2.1),(.int .i64 u2.2.1),(.bool u2.2.2.1)]),(.string (ByteArray.mk #[])),(.bool false)]))<|
 zc (0<=(1:Int)/\(1:Int)<((x0.size:Nat):Int))<|
 za (decide ((wrap .i64 (((x0.size:Nat):Int)-(2:Int)))<(wrap .i64 (bt x0 (1:Int))))) (zc ((#[(.string ByteArray.empty),(.int .i64 (0:Int)),(.bool false)]:Array Value).size=3)<|
 zt (aD r1) [(.string ByteArray.empty),(.int .i64 (0:Int)),(.bool false)]<|
 zl [.str,(.int .i64),.bool] (aD r1) fun(u3:(ByteArray×Int×Bool×Unit))=>K (.tuple #[(.agg #[(.string u3.1),(.int .i64 u3.2.1),(.bool u3.2.2.1)]),(.string (ByteArray.mk #[])),(.bool false)]))<|
 zc (0<=(1:Int)/\(1:Int)<((x0.size:Nat):Int))<|
 zD<|
 zc (0<=(2:Int)/\(2:Int)<=(wrap .i64 ((2:Int)+(wrap .i64 (bt x0 (1:Int)))))/\(wrap .i64 ((2:Int)+(wrap .i64 (bt x0 (1:Int)))))<=((x0.size:Nat):Int))<|
 zc (0<=(0:Int)/\(0:Int)<((x0.size:Nat):Int))<|
 zc (0<=(0:Int)/\(0:Int)<((x0.size:Nat):Int))<|
 zc (0<=(wrap .i64 ((2:Int)+(wrap .i64 (bt x0 (1:Int)))))/\(wrap .i64 ((2:Int)+(wrap .i64 (bt x0 (1:Int)))))<=((x0.size:Nat):Int))<|
 zc ((#[(.string (ByteArray.extract x0 (Int.toNat (2:Int)) (Int.toNat (wrap .i64 ((2:Int)+(wrap .i64 (bt x0 (1:Int)))))))),(.int .i64 (wrap .i64 (iandn .u8 (bt x0 (0:Int)) (128:Int)))),(.bool ((iand .u8 (bt x0 (0:Int)) (128:Int)) !=(0:Int)))]:Array Value).size=3)<|
 zt (aD r1) [(.string (ByteArray.extract x0 (Int.toNat (2:Int)) (Int.toNat (wrap .i64 ((2:Int)+(wrap .i64 (bt x0 (1:Int)))))))),(.int .i64 (wrap .i64 (iandn .u8 (bt x0 (0:Int)) (128:Int)))),(.bool ((iand .u8 (bt x0 (0:Int)) (128:Int)) !=(0:Int)))]<|
 zl [.str,(.int .i64),.bool] (aD r1) fun(u4:(ByteArray×Int×Bool×Unit))=>K (.tuple #[(.agg #[(.string u4.1),(.int .i64 u4.2.1),(.bool u4.2.2.1)]),(.string (ByteArray.extract x0 (Int.toNat (wrap .i64 ((2:Int)+(wrap .i64 (bt x0 (1:Int)))))) x0.size)),(.bool true)])
theorem zmd (x0:ByteArray) {K:Value->WP} {w:World} (h:S157 x0 K w):Calls prog 157 #[(.string x0)] w (Ret K):=cF an157 false Tryz.func157 h
def an161:Ann:=(AN AO)
def S161 (x0:Int) (a1:Addr) (K:Value->WP):WP:=
 za (decide (x0>=(2:Int))) (ldW (.int .i64) ((a1.add 1).add 1) fun(u1:Int)=>K (.bool (decide ((wrap .u64 x0)<(wrap .u64 u1)))))<|K (.bool false)
theorem zme (x0:Int) (a1:Addr) {K:Value->WP} {w:World} (h:S161 x0 a1 K w):Calls prog 161 #[(.int .u32 x0),(.pointer (some a1))] w (Ret K):=cF an161 false Tryz.func161 h
def an162:Ann:=(AN AO)
def S162 (x0:Option Addr) (x1:Int) (K:Value->WP):WP:=
 za (decide (x1>=(0:Int))) (zh x0 fun(p1:Addr)=>
 ldW (.int .i64) (p1.add 1) fun(u2:Int)=>K (.bool (decide (x1<u2))))<|K (.bool false)
theorem zmf (x0:Option Addr) (x1:Int) {K:Value->WP} {w:World} (h:S162 x0 x1 K w):Calls prog 162 #[(.pointer x0),(.int .i64 x1)] w (Ret K):=cF an162 false Tryz.func162 h
def an163:Ann:=(AN (AR (AN (AQ AO AP)) (AN (AN AO))))
def S163 (x0:Option Addr) (K:Value->WP):WP:=
 zh x0 fun(p1:Addr)=>
 ldW (.int .i64) (p1.add 5) fun(u2:Int)=>
 za (u2==(0:Int)) (K (.bool false))<|
 zh x0 fun(p3:Addr)=>
 ldW (.int .i64) (p3.add 5) fun(u4:Int)=>
 zh x0 fun(p5:Addr)=>
 stW (p5.add 5) (.int .i64 (if (wrap .i64 (u4-(1:Int)))>(-1:Int) then (wrap .i64 (u4-(1:Int))) else (-1:Int)))<|
 zh x0 fun(p6:Addr)=>
 ldW (.int .i64) (p6.add 4) fun(u7:Int)=>
 zh x0 fun(p8:Addr)=>
 stW (p8.add 4) (.int .i64 (wrap .i64 (u7+(1:Int))))<|K (.bool true)
theorem zmg (x0:Option Addr) {K:Value->WP} {w:World} (h:S163 x0 K w):Calls prog 163 #[(.pointer x0)] w (Ret K):=cF an163 false Tryz.func163 h
def an164:Ann:=(AN (AR (AN (.block (.loop [(8,.sh (.one (.int .i64)))] [0,1,7,1000000] (AN (AR (AQ AP AP) (AR (.block (AN (AN (AQ AO AP)))) AP)))))) AO))
def S164 (a0:Option Addr) (n0 c0:Nat) (x1:Int) (K:Value->WP):WP:=
 zB (Int×Unit) ((0:Int),()) fun(y2:Int×Unit) (I1:(Int×Unit)->WP)=>
 za (decide (y2.1<((n0:Nat):Int))) (zc (0<=y2.1/\y2.1<((n0:Nat):Int))<|
 zh a0 fun(p3:Addr)=>
 ldW (.int .u32) (p3.add (Int.toNat y2.1*1)) fun(u4:Int)=>
 za (x1==u4) (K (.int .i64 y2.1))<|I1 ((wrap .i64 (y2.1+(1:Int))),()))<|K (.int .i64 (-1:Int))
theorem zmh (a0:Option Addr) (n0 c0:Nat) (x1:Int) {K:Value->WP} {w:World} (h:S164 a0 n0 c0 x1 K w):Calls prog 164 #[(.slice a0 n0 c0),(.int .u32 x1)] w (Ret K):=cF an164 false Tryz.func164 h
def an165:Ann:=(AN AO)
def S165 (a0:Option Addr) (n0 c0:Nat) (K:Value->WP):WP:=
 ze prog 201 [] (.one (.arr 256)) fun(u1:Array Value)=>
 ze prog 200 [(.agg u1),(.slice a0 n0 c0)] (.one (.one (.int .u32))) fun(u2:Int)=>K (.int .u32 u2)
theorem zmi (a0:Option Addr) (n0 c0:Nat) {K:Value->WP} {w:World} (h:S165 a0 n0 c0 K w):Calls prog 165 #[(.slice a0 n0 c0)] w (Ret K):=cF an165 false Tryz.func165 h
def an166:Ann:=(AN (AN (AR (AN (AQ AO AP)) AO)))
def S166 (x0:Option Addr) (x1:Int) (K:Value->WP):WP:=
 zi (.cells #[(.int .u8 (0:Int)),(.slice none 0 0),(.slice none 0 0),(.slice none 0 0)] 215) fun(r1:Nat)=>
 ze prog 88 [(.pointer x0),(.int .u32 x1)] (.many [(.agg [(.int .u8),.slc,.str]),(.one (.int .i64))]) fun(u2:(Int×SLC×ByteArray×Unit)×Int×Unit)=>
 zi (.cells #[(.int .u8 (0:Int)),(.slice none 0 0),(.string ByteArray.empty)] 56) fun(r3:Nat)=>
 zc ((#[(.int .u8 u2.1.1),(.slice u2.1.2.1.1 u2.1.2.1.2.1 u2.1.2.1.2.2),(.string u2.1.2.2.1)]:Array Value).size=3)<|
 zt (aD r3) [(.int .u8 u2.1.1),(.slice u2.1.2.1.1 u2.1.2.1.2.1 u2.1.2.1.2.2),(.string u2.1.2.2.1)]<|
 za (u2.2.1 !=(0:Int)) (zc ((#[(.int .u8 (0:Int)),(.slice none 0 0),(.slice none 0 0),(.slice none 0 0)]:Array Value).size=4)<|
 zt (aD r1) [(.int .u8 (0:Int)),(.slice none 0 0),(.slice none 0 0),(.slice none 0 0)]<|
 zl [(.int .u8),.slc,.slc,.slc] (aD r1) fun(u4:(Int×SLC×SLC×SLC×Unit))=>K (.tuple #[(.agg #[(.int .u8 u4.1),(.slice u4.2.1.1 u4.2.1.2.1 u4.2.1.2.2),(.slice u4.2.2.1.1 u4.2.2.1.2.1 u4.2.2.1.2.2),(.slice u4.2.2.2.1.1 u4.2.2.2.1.2.1 u4.2.2.2.1.2.2)]),(.int .i64 u2.2.1)]))<|
 zl [(.int .u8),.slc,.str] (aD r3) fun(u5:(Int×SLC×ByteArray×Unit))=>
 ze prog 202 [(.agg #[(.int .u8 u5.1),(.slice u5.2.1.1 u5.2.1.2.1 u5.2.1.2.2),(.string u5.2.2.1)])] (.many [(.agg [(.int .u8),.slc,.slc,.slc]),(.one (.int .i64))]) fun(u6:(Int×SLC×SLC×SLC×Unit)×Int×Unit)=>
 zc ((#[(.int .u8 u6.1.1),(.slice u6.1.2.1.1 u6.1.2.1.2.1 u6.1.2.1.2.2),(.slice u6.1.2.2.1.1 u6.1.2.2.1.2.1 u6.1.2.2.1.2.2),(.slice u6.1.2.2.2.1.1 u6.1.2.2.2.1.2.1 u6.1.2.2.2.1.2.2)]:Array Value).size=4)<|
 zt (aD r1) [(.int .u8 u6.1.1),(.slice u6.1.2.1.1 u6.1.2.1.2.1 u6.1.2.1.2.2),(.slice u6.1.2.2.1.1 u6.1.2.2.1.2.1 u6.1.2.2.1.2.2),(.slice u6.1.2.2.2.1.1 u6.1.2.2.2.1.2.1 u6.1.2.2.2.1.2.2)]<|
 zl [(.int .u8),.slc,.slc,.slc] (aD r1) fun(u7:(Int×SLC×SLC×SLC×Unit))=>K (.tuple #[(.agg #[(.int .u8 u7.1),(.slice u7.2.1.1 u7.2.1.2.1 u7.2.1.2.2),(.slice u7.2.2.1.1 u7.2.2.1.2.1 u7.2.2.1.2.2),(.slice u7.2.2.2.1.1 u7.2.2.2.1.2.1 u7.2.2.2.1.2.2)]),(.int .i64 u6.2.1)])
theorem zmj (x0:Option Addr) (x1:Int) {K:Value->WP} {w:World} (h:S166 x0 x1 K w):Calls prog 166 #[(.pointer x0),(.int .u32 x1)] w (Ret K):=cF an166 false Tryz.func166 h
def an167:Ann:=(AN AO)
def S167 (Ae:Int) (Aa:Option Addr) (Ab Ac:Nat) (Ak:Option Addr) (Al Am:Nat) (An:Option Addr) (Ao Aq:Nat) (K:Value->WP):WP:=
 zi (.cells #[(.int .u8 Ae),(.slice Aa Ab Ac),(.slice Ak Al Am),(.slice An Ao Aq)] 215) fun(r1:Nat)=>
 ldW (.int .u8) (aD r1) fun(u2:Int)=>K (.bool (u2==(3:Int)))
theorem zmk (Ae:Int) (Aa:Option Addr) (Ab Ac:Nat) (Ak:Option Addr) (Al Am:Nat) (An:Option Addr) (Ao Aq:Nat) {K:Value->WP} {w:World} (h:S167 Ae Aa Ab Ac Ak Al Am An Ao Aq K w):Calls prog 167 #[(.agg #[(.int .u8 Ae),(.slice Aa Ab Ac),(.slice Ak Al Am),(.slice An Ao Aq)])] w (Ret K):=cF an167 false Tryz.func167 h
def an168:Ann:=(AN (AR (AN (AQ AO AP)) AO))
def S168 (Ae:Int) (Aa:Option Addr) (Ab Ac:Nat) (Ak:Option Addr) (Al Am:Nat) (An:Option Addr) (Ao Aq:Nat) (x1:Int) (K:Value->WP):WP:=
 zi (.cells #[(.int .u8 Ae),(.slice Aa Ab Ac),(.slice Ak Al Am),(.slice An Ao Aq)] 215) fun(r1:Nat)=>
 zl [(.int .u8),.slc,.slc,.slc] (aD r1) fun(u2:(Int×SLC×SLC×SLC×Unit))=>
 ze prog 203 [(.agg #[(.int .u8 u2.1),(.slice u2.2.1.1 u2.2.1.2.1 u2.2.1.2.2),(.slice u2.2.2.1.1 u2.2.2.1.2.1 u2.2.2.1.2.2),(.slice u2.2.2.2.1.1 u2.2.2.2.1.2.1 u2.2.2.2.1.2.2)])] (.one (.one .bool)) fun(u3:Bool)=>
 za u3 (ldW .slc ((aD r1).add 3) fun(u4:SLC)=>
 zc (0<=x1/\x1<((u4.2.1:Nat):Int))<|
 zh u4.1 fun(p5:Addr)=>
 ldW (.int .u32) (p5.add (Int.toNat x1*1)) fun(u6:Int)=>K (.int .u64 (wrap .u64 u6)))<|
 ldW .slc ((aD r1).add 2) fun(u7:SLC)=>
 zc (0<=x1/\x1<((u7.2.1:Nat):Int))<|
 zh u7.1 fun(p8:Addr)=>
 ldW (.int .u64) (p8.add (Int.toNat x1*1)) fun(u9:Int)=>K (.int .u64 u9)
theorem zml (Ae:Int) (Aa:Option Addr) (Ab Ac:Nat) (Ak:Option Addr) (Al Am:Nat) (An:Option Addr) (Ao Aq:Nat) (x1:Int) {K:Value->WP} {w:World} (h:S168 Ae Aa Ab Ac Ak Al Am An Ao Aq x1 K w):Calls prog 168 #[(.agg #[(.int .u8 Ae),(.slice Aa Ab Ac),(.slice Ak Al Am),(.slice An Ao Aq)]),(.int .i64 x1)] w (Ret K):=cF an168 false Tryz.func168 h
def an169:Ann:=(AN (AR (AN (AQ AO AP)) (AN (.block (.loop [(4,.sh (.one (.int .i64))),(26,.sh (.one (.int .i64)))] [0,1,24,25,1000000] (AN (AR (AQ AP AP) (AR (.block (AN (AN (AN (AN (.join [(11,.sh (.one (.int .i64)))] [0,1,4,10,24,25,26,1000000] (AN (AQ AP AP)) (AR (AN (AQ AO AP)) (AN (AQ AP AP))))))))) AP))))))))
def S169 (x0:Value) (a1:Addr) (a2:Addr) (K:Value->WP):WP:=
 ldW .ptr a1 fun(u1:Option Addr)=>
 ldW (.int .u32) a2 fun(u2:Int)=>
 ze prog 170 [(.pointer u1),(.int .u32 u2)] (.many [(.one (.int .i64)),(.one .slc),(.one (.int .i64))]) fun(u3:Int×SLC×Int×Unit)=>
 za (u3.2.2.1 !=(0:Int)) (yJ prog x0 [(.string (ByteArray.mk #[])),(.int .i64 u3.2.2.1)] (.one (.one .bool)) fun(u4:Bool)=>K (.tuple #[]))<|
 zB (Int×Int×Unit) (u3.1,(0:Int),()) fun(y6:Int×Int×Unit) (I5:(Int×Int×Unit)->WP)=>
 za (decide (y6.2.1<((u3.2.1.2.1:Nat):Int))) (zc (0<=y6.2.1/\y6.2.1<((u3.2.1.2.1:Nat):Int))<|
 zh u3.2.1.1 fun(p7:Addr)=>
 ldW (.int .u32) (p7.add (Int.toNat y6.2.1*1)) fun(u8:Int)=>
 ldW .ptr a1 fun(u9:Option Addr)=>
 ze prog 76 [(.pointer u9),(.int .i64 (0:Int))] (.one (.one (.int .i64))) fun(u10:Int)=>
 ldW .ptr a1 fun(u11:Option Addr)=>
 ze prog 88 [(.pointer u11),(.int .u32 u8)] (.many [(.agg [(.int .u8),.slc,.str]),(.one (.int .i64))]) fun(u12:(Int×SLC×ByteArray×Unit)×Int×Unit)=>
 zi (.cells #[(.int .u8 (0:Int)),(.slice none 0 0),(.string ByteArray.empty)] 56) fun(r13:Nat)=>
 zc ((#[(.int .u8 u12.1.1),(.slice u12.1.2.1.1 u12.1.2.1.2.1 u12.1.2.1.2.2),(.string u12.1.2.2.1)]:Array Value).size=3)<|
 zt (aD r13) [(.int .u8 u12.1.1),(.slice u12.1.2.1.1 u12.1.2.1.2.1 u12.1.2.1.2.2),(.string u12.1.2.2.1)]<|
 yD (Int×Unit) (fun(J14:(Int×Unit)->WP)=>
 za (u12.2.1==(0:Int)) (ldW (.int .u8) (aD r13) fun(u16:Int)=>
 za (u16 !=(7:Int)) (J14 ((10:Int),()))<|
 ldW .slc ((aD r13).add 1) fun(u17:SLC)=>
 za (decide (((u17.2.1:Nat):Int)>(0:Int))) (J14 ((10:Int),()))<|
 ldW .str ((aD r13).add 2) fun(u18:ByteArray)=>
 za (((u18.size:Nat):Int) !=(if u10<y6.1 then u10 else y6.1)) (J14 ((10:Int),()))<|J14 (u12.2.1,()))<|J14 (u12.2.1,())) fun(y15:Int×Unit)=>
 za (y15.1 !=(0:Int)) (yJ prog x0 [(.string (ByteArray.mk #[])),(.int .i64 y15.1)] (.one (.one .bool)) fun(u19:Bool)=>K (.tuple #[]))<|
 ldW .str ((aD r13).add 2) fun(u20:ByteArray)=>
 yJ prog x0 [(.string u20),(.int .i64 (0:Int))] (.one (.one .bool)) fun(u21:Bool)=>
 za (!u21) (K (.tuple #[]))<|I5 ((wrap .i64 (y6.1-(if u10<y6.1 then u10 else y6.1))),(wrap .i64 (y6.2.1+(1:Int))),()))<|K (.tuple #[])
theorem zmm (x0:Value) (a1:Addr) (a2:Addr) {K:Value->WP} {w:World} (h:S169 x0 a1 a2 K w):Calls prog 169 #[x0,(.pointer (some a1)),(.pointer (some a2))] w (Ret K):=cF an169 false Tryz.func169 h
def an170:Ann:=(AN (AN (AR (.block (AN (AQ AO (AN (AQ AO (AN (AQ AO AP))))))) (AN (AN (AR (AN (AQ AO AP)) AO))))))
def S170 (x0:Option Addr) (x1:Int) (K:Value->WP):WP:=
 ze prog 88 [(.pointer x0),(.int .u32 x1)] (.many [(.agg [(.int .u8),.slc,.str]),(.one (.int .i64))]) fun(u1:(Int×SLC×ByteArray×Unit)×Int×Unit)=>
 zi (.cells #[(.int .u8 (0:Int)),(.slice none 0 0),(.string ByteArray.empty)] 56) fun(r2:Nat)=>
 zc ((#[(.int .u8 u1.1.1),(.slice u1.1.2.1.1 u1.1.2.1.2.1 u1.1.2.1.2.2),(.string u1.1.2.2.1)]:Array Value).size=3)<|
 zt (aD r2) [(.int .u8 u1.1.1),(.slice u1.1.2.1.1 u1.1.2.1.2.1 u1.1.2.1.2.2),(.string u1.1.2.2.1)]<|
 za (u1.2.1 !=(0:Int)) (K (.tuple #[(.int .i64 (0:Int)),(.slice none 0 0),(.int .i64 u1.2.1)]))<|
 ldW (.int .u8) (aD r2) fun(u3:Int)=>
 za (u3 !=(6:Int)) (K (.tuple #[(.int .i64 (0:Int)),(.slice none 0 0),(.int .i64 (11:Int))]))<|
 ldW .str ((aD r2).add 2) fun(u4:ByteArray)=>
 za (((u4.size:Nat):Int) !=(4:Int)) (K (.tuple #[(.int .i64 (0:Int)),(.slice none 0 0),(.int .i64 (10:Int))]))<|
 ldW .str ((aD r2).add 2) fun(u5:ByteArray)=>
 zv prog (Go.convert 9 85 (.string u5)) .slc fun(u6:SLC)=>
 ze prog 107 [(.slice u6.1 u6.2.1 u6.2.2)] (.one (.one (.int .u64))) fun(u7:Int)=>
 ze prog 76 [(.pointer x0),(.int .i64 (0:Int))] (.one (.one (.int .i64))) fun(u8:Int)=>
 zD<|
 za (decide ((wrap .i64 u7)>(65536:Int))) (K (.tuple #[(.int .i64 (0:Int)),(.slice none 0 0),(.int .i64 (10:Int))]))<|
 zc (u8≠0)<|
 ldW .slc ((aD r2).add 1) fun(u9:SLC)=>
 za ((wrap .i64 (Int.tdiv (wrap .i64 ((wrap .i64 ((wrap .i64 u7)+u8))-(1:Int))) u8)) !=((u9.2.1:Nat):Int)) (K (.tuple #[(.int .i64 (0:Int)),(.slice none 0 0),(.int .i64 (10:Int))]))<|
 zD<|
 ldW .slc ((aD r2).add 1) fun(u10:SLC)=>K (.tuple #[(.int .i64 (wrap .i64 u7)),(.slice u10.1 u10.2.1 u10.2.2),(.int .i64 (0:Int))])
theorem zmn (x0:Option Addr) (x1:Int) {K:Value->WP} {w:World} (h:S170 x0 x1 K w):Calls prog 170 #[(.pointer x0),(.int .u32 x1)] w (Ret K):=cF an170 false Tryz.func170 h
def an172:Ann:=(AN (AN (AR (AN (AQ AO AP)) (AN (AR (AN (.block (.loop [(4,.sh (.one .slc)),(5,.sh (.one .slc)),(28,.sh (.one (.int .i64)))] [1,2,8,27,1000000] (AN (AR (AQ AP AP) (AR (.block (AN (AN (AN (AR (AN (AQ AO AP)) AP))))) AP)))))) AO)))))
def S172 (Ae:Int) (Aa:Option Addr) (Ab Ac:Nat) (Ak:Option Addr) (Al Am:Nat) (An:Option Addr) (Ao Aq:Nat) (x1:Option Addr) (K:Value->WP):WP:=
 zi (.cells #[(.int .u8 Ae),(.slice Aa Ab Ac),(.slice Ak Al Am),(.slice An Ao Aq)] 215) fun(r1:Nat)=>
 ldW (.int .u8) (aD r1) fun(u2:Int)=>
 ze prog 205 [(.pointer x1),(.int .u8 u2)] (.one (.one (.int .i64))) fun(u3:Int)=>
 za (decide (u3<(2:Int))) (K (.tuple #[(.slice none 0 0),(.slice none 0 0),(.int .i64 (3:Int))]))<|
 ldW .slc ((aD r1).add 1) fun(u4:SLC)=>
 zc (u3≠0)<|
 zB (SLC×SLC×Int×Unit) ((none,0,0),(none,0,0),(0:Int),()) fun(y6:SLC×SLC×Int×Unit) (I5:(SLC×SLC×Int×Unit)->WP)=>
 za (decide (y6.2.2.1<(wrap .i64 (Int.tdiv (wrap .i64 ((wrap .i64 (((u4.2.1:Nat):Int)+u3))-(1:Int))) u3)))) (zD<|
 zl [(.int .u8),.slc,.slc,.slc] (aD r1) fun(u7:(Int×SLC×SLC×SLC×Unit))=>
 ldW .slc ((aD r1).add 1) fun(u8:SLC)=>
 zc ((wrap .i64 (Int.tdiv (wrap .i64 ((wrap .i64 (((u4.2.1:Nat):Int)+u3))-(1:Int))) u3))≠0)<|
 ldW .slc ((aD r1).add 1) fun(u9:SLC)=>
 zc ((wrap .i64 (Int.tdiv (wrap .i64 ((wrap .i64 (((u4.2.1:Nat):Int)+u3))-(1:Int))) u3))≠0)<|
 kW (ze prog 206 [(.agg #[(.int .u8 u7.1),(.slice u7.2.1.1 u7.2.1.2.1 u7.2.1.2.2),(.slice u7.2.2.1.1 u7.2.2.1.2.1 u7.2.2.1.2.2),(.slice u7.2.2.2.1.1 u7.2.2.2.1.2.1 u7.2.2.2.1.2.2)]),(.int .i64 (wrap .i64 (Int.tdiv (wrap .i64 (y6.2.2.1*((u8.2.1:Nat):Int))) (wrap .i64 (Int.tdiv (wrap .i64 ((wrap .i64 (((u4.2.1:Nat):Int)+u3))-(1:Int))) u3))))),(.int .i64 (wrap .i64 (Int.tdiv (wrap .i64 ((wrap .i64 (y6.2.2.1+(1:Int)))*((u9.2.1:Nat):Int))) (wrap .i64 (Int.tdiv (wrap .i64 ((wrap .i64 (((u4.2.1:Nat):Int)+u3))-(1:Int))) u3)))))] (.one (.agg [(.int .u8),.slc,.slc,.slc])) fun(u10:(Int×SLC×SLC×SLC×Unit))=>
 zi (.cells #[(.int .u8 (0:Int)),(.slice none 0 0),(.slice none 0 0),(.slice none 0 0)] 215) fun(r11:Nat)=>
 zr [[(((aD r1).add 1),(.slice u9.1 u9.2.1 u9.2.2))],[(((aD r1).add 1),(.slice u8.1 u8.2.1 u8.2.2))],[((aD r1).add 0,(.int .u8 u7.1)),((aD r1).add 1,(.slice u7.2.1.1 u7.2.1.2.1 u7.2.1.2.2)),((aD r1).add 2,(.slice u7.2.2.1.1 u7.2.2.1.2.1 u7.2.2.1.2.2)),((aD r1).add 3,(.slice u7.2.2.2.1.1 u7.2.2.2.1.2.1 u7.2.2.2.1.2.2))]]<|
 zc ((#[(.int .u8 u10.1),(.slice u10.2.1.1 u10.2.1.2.1 u10.2.1.2.2),(.slice u10.2.2.1.1 u10.2.2.1.2.1 u10.2.2.1.2.2),(.slice u10.2.2.2.1.1 u10.2.2.2.1.2.1 u10.2.2.2.1.2.2)]:Array Value).size=4)<|
 zt (aD r11) [(.int .u8 u10.1),(.slice u10.2.1.1 u10.2.1.2.1 u10.2.1.2.2),(.slice u10.2.2.1.1 u10.2.2.1.2.1 u10.2.2.1.2.2),(.slice u10.2.2.2.1.1 u10.2.2.2.1.2.1 u10.2.2.2.1.2.2)]<|
 zl [(.int .u8),.slc,.slc,.slc] (aD r11) fun(u12:(Int×SLC×SLC×SLC×Unit))=>
 ze prog 207 [(.agg #[(.int .u8 u12.1),(.slice u12.2.1.1 u12.2.1.2.1 u12.2.1.2.2),(.slice u12.2.2.1.1 u12.2.2.1.2.1 u12.2.2.1.2.2),(.slice u12.2.2.2.1.1 u12.2.2.2.1.2.1 u12.2.2.2.1.2.2)]),(.pointer x1)] (.many [(.one (.int .u32)),(.one (.int .i64))]) fun(u13:Int×Int×Unit)=>
 za (u13.2.1 !=(0:Int)) (K (.tuple #[(.slice none 0 0),(.slice none 0 0),(.int .i64 u13.2.1)]))<|
 ldW .slc ((aD r11).add 1) fun(u14:SLC)=>
 zc (0<=(0:Int)/\(0:Int)<((u14.2.1:Nat):Int))<|
 zh u14.1 fun(p15:Addr)=>
 ldW (.int .u64) (p15.add (Int.toNat (0:Int)*1)) fun(u16:Int)=>
 zi (.cells #[(.int .u64 u16)] 42) fun(r17:Nat)=>
 zv prog (Builtin.append_ #[129,129] 129 #[(.slice y6.1.1 y6.1.2.1 y6.1.2.2),(.slice (some (aD r17)) 1 1)]) .slc fun(u18:SLC)=>
 zi (.cells #[(.int .u32 u13.1)] 41) fun(r19:Nat)=>
 zv prog (Builtin.append_ #[54,54] 54 #[(.slice y6.2.1.1 y6.2.1.2.1 y6.2.1.2.2),(.slice (some (aD r19)) 1 1)]) .slc fun(u20:SLC)=>I5 ((u18.1,u18.2.1,u18.2.2),(u20.1,u20.2.1,u20.2.2),(wrap .i64 (y6.2.2.1+(1:Int))),()))<|
 zi (.cells #[(.int .u8 (0:Int)),(.slice none 0 0),(.slice none 0 0),(.slice none 0 0)] 215) fun(r21:Nat)=>
 zr [[(((aD r1).add 1),(.slice u9.1 u9.2.1 u9.2.2))],[(((aD r1).add 1),(.slice u8.1 u8.2.1 u8.2.2))],[((aD r1).add 0,(.int .u8 u7.1)),((aD r1).add 1,(.slice u7.2.1.1 u7.2.1.2.1 u7.2.1.2.2)),((aD r1).add 2,(.slice u7.2.2.1.1 u7.2.2.1.2.1 u7.2.2.1.2.2)),((aD r1).add 3,(.slice u7.2.2.2.1.1 u7.2.2.2.1.2.1 u7.2.2.2.1.2.2))]]<|
 ze prog 206 [(.agg #[(.int .u8 u7.1),(.slice u7.2.1.1 u7.2.1.2.1 u7.2.1.2.2),(.slice u7.2.2.1.1 u7.2.2.1.2.1 u7.2.2.1.2.2),(.slice u7.2.2.2.1.1 u7.2.2.2.1.2.1 u7.2.2.2.1.2.2)]),(.int .i64 (wrap .i64 (Int.tdiv (wrap .i64 (y6.2.2.1*((u8.2.1:Nat):Int))) (wrap .i64 (Int.tdiv (wrap .i64 ((wrap .i64 (((u4.2.1:Nat):Int)+u3))-(1:Int))) u3))))),(.int .i64 (wrap .i64 (Int.tdiv (wrap .i64 ((wrap .i64 (y6.2.2.1+(1:Int)))*((u9.2.1:Nat):Int))) (wrap .i64 (Int.tdiv (wrap .i64 ((wrap .i64 (((u4.2.1:Nat):Int)+u3))-(1:Int))) u3)))))] (.one (.agg [(.int .u8),.slc,.slc,.slc])) fun(u22:(Int×SLC×SLC×SLC×Unit))=>
 zc ((#[(.int .u8 u22.1),(.slice u22.2.1.1 u22.2.1.2.1 u22.2.1.2.2),(.slice u22.2.2.1.1 u22.2.2.1.2.1 u22.2.2.1.2.2),(.slice u22.2.2.2.1.1 u22.2.2.2.1.2.1 u22.2.2.2.1.2.2)]:Array Value).size=4)<|
 zt (aD r21) [(.int .u8 u22.1),(.slice u22.2.1.1 u22.2.1.2.1 u22.2.1.2.2),(.slice u22.2.2.1.1 u22.2.2.1.2.1 u22.2.2.1.2.2),(.slice u22.2.2.2.1.1 u22.2.2.2.1.2.1 u22.2.2.2.1.2.2)]<|
 zl [(.int .u8),.slc,.slc,.slc] (aD r21) fun(u23:(Int×SLC×SLC×SLC×Unit))=>
 ze prog 207 [(.agg #[(.int .u8 u23.1),(.slice u23.2.1.1 u23.2.1.2.1 u23.2.1.2.2),(.slice u23.2.2.1.1 u23.2.2.1.2.1 u23.2.2.1.2.2),(.slice u23.2.2.2.1.1 u23.2.2.2.1.2.1 u23.2.2.2.1.2.2)]),(.pointer x1)] (.many [(.one (.int .u32)),(.one (.int .i64))]) fun(u24:Int×Int×Unit)=>
 za (u24.2.1 !=(0:Int)) (K (.tuple #[(.slice none 0 0),(.slice none 0 0),(.int .i64 u24.2.1)]))<|
 ldW .slc ((aD r21).add 1) fun(u25:SLC)=>
 zc (0<=(0:Int)/\(0:Int)<((u25.2.1:Nat):Int))<|
 zh u25.1 fun(p26:Addr)=>
 ldW (.int .u64) (p26.add (Int.toNat (0:Int)*1)) fun(u27:Int)=>
 zi (.cells #[(.int .u64 u27)] 42) fun(r28:Nat)=>
 zv prog (Builtin.append_ #[129,129] 129 #[(.slice y6.1.1 y6.1.2.1 y6.1.2.2),(.slice (some (aD r28)) 1 1)]) .slc fun(u29:SLC)=>
 zi (.cells #[(.int .u32 u24.1)] 41) fun(r30:Nat)=>
 zv prog (Builtin.append_ #[54,54] 54 #[(.slice y6.2.1.1 y6.2.1.2.1 y6.2.1.2.2),(.slice (some (aD r30)) 1 1)]) .slc fun(u31:SLC)=>I5 ((u29.1,u29.2.1,u29.2.2),(u31.1,u31.2.1,u31.2.2),(wrap .i64 (y6.2.2.1+(1:Int))),()))<|K (.tuple #[(.slice y6.1.1 y6.1.2.1 y6.1.2.2),(.slice y6.2.1.1 y6.2.1.2.1 y6.2.1.2.2),(.int .i64 (0:Int))])
theorem zmo (Ae:Int) (Aa:Option Addr) (Ab Ac:Nat) (Ak:Option Addr) (Al Am:Nat) (An:Option Addr) (Ao Aq:Nat) (x1:Option Addr) {K:Value->WP} {w:World} (h:S172 Ae Aa Ab Ac Ak Al Am An Ao Aq x1 K w):Calls prog 172 #[(.agg #[(.int .u8 Ae),(.slice Aa Ab Ac),(.slice Ak Al Am),(.slice An Ao Aq)]),(.pointer x1)] w (Ret K):=cF an172 false Tryz.func172 h
def an173:Ann:=(AN AO)
def S173 (x0:Option Addr) (K:Value->WP):WP:=
 zh x0 fun(p1:Addr)=>
 ldW .slc (p1.add 3) fun(u2:SLC)=>
 ze prog 208 [(.slice u2.1 u2.2.1 u2.2.2)] (.one (.one .any)) fun(u3:Value)=>K u3
theorem zmp (x0:Option Addr) {K:Value->WP} {w:World} (h:S173 x0 K w):Calls prog 173 #[(.pointer x0)] w (Ret K):=cF an173 false Tryz.func173 h
def an174:Ann:=(AN (AN (AR (AN (AQ AO AP)) (AN (AN (AR (AN (AQ AO AP)) (AN (AR (AN (AQ AO AP)) (AN (AR (AN (AN (AQ AO AP))) AO))))))))))
def S174 (x0:ByteArray) (K:Value->WP):WP:=
 zi (.cells #[(.int .u8 (0:Int)),(.int .u64 (0:Int)),(.string ByteArray.empty)] 127) fun(r1:Nat)=>
 ze prog 121 [(.int .i64 ((x0.size:Nat):Int))] (.one (.one (.int .i64))) fun(u2:Int)=>
 za (u2==(0:Int)) (zl [(.int .u8),(.int .u64),.str] (aD r1) fun(u3:(Int×Int×ByteArray×Unit))=>
 zc ((#[(.int .u8 u3.1),(.int .u64 u3.2.1),(.string u3.2.2.1)]:Array Value).size=3)<|
 zt (aD r1) [(.int .u8 u3.1),(.int .u64 u3.2.1),(.string u3.2.2.1)]<|
 zl [(.int .u8),(.int .u64),.str] (aD r1) fun(u4:(Int×Int×ByteArray×Unit))=>K (.tuple #[(.agg #[(.int .u8 u4.1),(.int .u64 u4.2.1),(.string u4.2.2.1)]),(.int .i64 (2:Int))]))<|
 zv prog (Go.convert 9 85 (.string x0)) .slc fun(u5:SLC)=>
 zD<|
 zc (0<=(wrap .i64 (((u5.2.1:Nat):Int)-(4:Int)))/\(wrap .i64 (((u5.2.1:Nat):Int)-(4:Int)))<=((u5.2.2:Nat):Int))<|
 zc (0<=(wrap .i64 (((u5.2.1:Nat):Int)-(4:Int)))/\(wrap .i64 (((u5.2.1:Nat):Int)-(4:Int)))<=((u5.2.1:Nat):Int))<|
 ze prog 165 [(.slice (zn u5.1 0 u5.2.2 1) (Int.toNat (wrap .i64 (((u5.2.1:Nat):Int)-(4:Int)))) u5.2.2)] (.one (.one (.int .u32))) fun(u6:Int)=>
 ze prog 107 [(.slice (zn u5.1 (Int.toNat (wrap .i64 (((u5.2.1:Nat):Int)-(4:Int)))) u5.2.2 1) (u5.2.1-(Int.toNat (wrap .i64 (((u5.2.1:Nat):Int)-(4:Int))))) (u5.2.2-(Int.toNat (wrap .i64 (((u5.2.1:Nat):Int)-(4:Int))))))] (.one (.one (.int .u64))) fun(u7:Int)=>
 za ((wrap .u64 u6) !=u7) (zl [(.int .u8),(.int .u64),.str] (aD r1) fun(u8:(Int×Int×ByteArray×Unit))=>
 zc ((#[(.int .u8 u8.1),(.int .u64 u8.2.1),(.string u8.2.2.1)]:Array Value).size=3)<|
 zt (aD r1) [(.int .u8 u8.1),(.int .u64 u8.2.1),(.string u8.2.2.1)]<|
 zl [(.int .u8),(.int .u64),.str] (aD r1) fun(u9:(Int×Int×ByteArray×Unit))=>K (.tuple #[(.agg #[(.int .u8 u9.1),(.int .u64 u9.2.1),(.string u9.2.2.1)]),(.int .i64 (10:Int))]))<|
 zc (0<=(2:Int)/\(2:Int)<=(4:Int)/\(4:Int)<=((u5.2.2:Nat):Int))<|
 ze prog 107 [(.slice (zn u5.1 (Int.toNat (2:Int)) u5.2.2 1) ((Int.toNat (4:Int))-(Int.toNat (2:Int))) (u5.2.2-(Int.toNat (2:Int))))] (.one (.one (.int .u64))) fun(u10:Int)=>
 za (decide ((wrap .i64 u10)>u2)) (zl [(.int .u8),(.int .u64),.str] (aD r1) fun(u11:(Int×Int×ByteArray×Unit))=>
 zc ((#[(.int .u8 u11.1),(.int .u64 u11.2.1),(.string u11.2.2.1)]:Array Value).size=3)<|
 zt (aD r1) [(.int .u8 u11.1),(.int .u64 u11.2.1),(.string u11.2.2.1)]<|
 zl [(.int .u8),(.int .u64),.str] (aD r1) fun(u12:(Int×Int×ByteArray×Unit))=>K (.tuple #[(.agg #[(.int .u8 u12.1),(.int .u64 u12.2.1),(.string u12.2.2.1)]),(.int .i64 (4:Int))]))<|
 zD<|
 zc (0<=(0:Int)/\(0:Int)<((u5.2.1:Nat):Int))<|
 zh u5.1 fun(p13:Addr)=>
 ldW (.int .u8) (p13.add (Int.toNat (0:Int)*1)) fun(u14:Int)=>
 zc (0<=(4:Int)/\(4:Int)<=(12:Int)/\(12:Int)<=((u5.2.2:Nat):Int))<|
 zc (0<=(12:Int)/\(12:Int)<=(wrap .i64 ((12:Int)+(wrap .i64 u10)))/\(wrap .i64 ((12:Int)+(wrap .i64 u10)))<=((x0.size:Nat):Int))<|
 ze prog 107 [(.slice (zn u5.1 (Int.toNat (4:Int)) u5.2.2 1) ((Int.toNat (12:Int))-(Int.toNat (4:Int))) (u5.2.2-(Int.toNat (4:Int))))] (.one (.one (.int .u64))) fun(u15:Int)=>
 zr [[((p13.add (Int.toNat (0:Int)*1)),(.int .u8 u14))]]<|
 zc ((#[(.int .u8 u14),(.int .u64 u15),(.string (ByteArray.extract x0 (Int.toNat (12:Int)) (Int.toNat (wrap .i64 ((12:Int)+(wrap .i64 u10))))))]:Array Value).size=3)<|
 zt (aD r1) [(.int .u8 u14),(.int .u64 u15),(.string (ByteArray.extract x0 (Int.toNat (12:Int)) (Int.toNat (wrap .i64 ((12:Int)+(wrap .i64 u10))))))]<|
 zl [(.int .u8),(.int .u64),.str] (aD r1) fun(u16:(Int×Int×ByteArray×Unit))=>
 ze prog 123 [(.int .i64 ((x0.size:Nat):Int)),(.agg #[(.int .u8 u16.1),(.int .u64 u16.2.1),(.string u16.2.2.1)])] (.many [(.one .str),(.one (.int .i64))]) fun(u17:ByteArray×Int×Unit)=>
 za (u17.2.1 !=(0:Int)) (zc ((#[(.int .u8 (0:Int)),(.int .u64 (0:Int)),(.string ByteArray.empty)]:Array Value).size=3)<|
 zt (aD r1) [(.int .u8 (0:Int)),(.int .u64 (0:Int)),(.string ByteArray.empty)]<|
 zl [(.int .u8),(.int .u64),.str] (aD r1) fun(u18:(Int×Int×ByteArray×Unit))=>K (.tuple #[(.agg #[(.int .u8 u18.1),(.int .u64 u18.2.1),(.string u18.2.2.1)]),(.int .i64 (4:Int))]))<|
 za (!(u17.1.toList==x0.toList)) (zc ((#[(.int .u8 (0:Int)),(.int .u64 (0:Int)),(.string ByteArray.empty)]:Array Value).size=3)<|
 zt (aD r1) [(.int .u8 (0:Int)),(.int .u64 (0:Int)),(.string ByteArray.empty)]<|
 zl [(.int .u8),(.int .u64),.str] (aD r1) fun(u19:(Int×Int×ByteArray×Unit))=>K (.tuple #[(.agg #[(.int .u8 u19.1),(.int .u64 u19.2.1),(.string u19.2.2.1)]),(.int .i64 (4:Int))]))<|
 zl [(.int .u8),(.int .u64),.str] (aD r1) fun(u20:(Int×Int×ByteArray×Unit))=>
 zc ((#[(.int .u8 u20.1),(.int .u64 u20.2.1),(.string u20.2.2.1)]:Array Value).size=3)<|
 zt (aD r1) [(.int .u8 u20.1),(.int .u64 u20.2.1),(.string u20.2.2.1)]<|
 zl [(.int .u8),(.int .u64),.str] (aD r1) fun(u21:(Int×Int×ByteArray×Unit))=>K (.tuple #[(.agg #[(.int .u8 u21.1),(.int .u64 u21.2.1),(.string u21.2.2.1)]),(.int .i64 (0:Int))])
theorem zmq (x0:ByteArray) {K:Value->WP} {w:World} (h:S174 x0 K w):Calls prog 174 #[(.string x0)] w (Ret K):=cF an174 false Tryz.func174 h
def an175:Ann:=(AN AO)
def S175 (a0:Option Addr) (n0 c0:Nat) (K:Value->WP):WP:=
 ze prog 209 [(.slice a0 n0 c0)] (.one (.one .slc)) fun(u1:SLC)=>
 zi (.cells #[(.slice u1.1 u1.2.1 u1.2.2)] 298) fun(r2:Nat)=>K (.pointer (some (aD r2)))
theorem zmr (a0:Option Addr) (n0 c0:Nat) {K:Value->WP} {w:World} (h:S175 a0 n0 c0 K w):Calls prog 175 #[(.slice a0 n0 c0)] w (Ret K):=cF an175 false Tryz.func175 h
def an176:Ann:=(AN (AR (.block (AN (AQ AO (AN (AQ AO AP))))) (AN AO)))
def S176 (x0:Option Addr) (x1:Int) (K:Value->WP):WP:=
 za (Option.isNone x0) (K (.tuple #[(.int .u64 (0:Int)),(.int .i64 (1:Int))]))<|
 za (decide (x1<(1:Int))) (K (.tuple #[(.int .u64 (0:Int)),(.int .i64 (2:Int))]))<|
 za (decide (x1>(8:Int))) (K (.tuple #[(.int .u64 (0:Int)),(.int .i64 (2:Int))]))<|
 ze prog 210 [(.pointer x0),(.int .i64 x1)] (.many [(.one .slc),(.one (.int .i64))]) fun(u1:SLC×Int×Unit)=>
 ze prog 107 [(.slice u1.1.1 u1.1.2.1 u1.1.2.2)] (.one (.one (.int .u64))) fun(u2:Int)=>K (.tuple #[(.int .u64 u2),(.int .i64 u1.2.1)])
theorem zms (x0:Option Addr) (x1:Int) {K:Value->WP} {w:World} (h:S176 x0 x1 K w):Calls prog 176 #[(.pointer x0),(.int .i64 x1)] w (Ret K):=cF an176 false Tryz.func176 h
def an177:Ann:=(AN (AR (.block (AN (AQ AO (AN (AQ AO AP))))) (AN AO)))
def S177 (x0:Option Addr) (x1:Int) (K:Value->WP):WP:=
 za (Option.isNone x0) (K (.tuple #[(.slice none 0 0),(.int .i64 (1:Int))]))<|
 za (decide (x1<(0:Int))) (K (.tuple #[(.slice none 0 0),(.int .i64 (2:Int))]))<|
 ze prog 210 [(.pointer x0),(.int .i64 x1)] (.many [(.one .slc),(.one (.int .i64))]) fun(u1:SLC×Int×Unit)=>
 ze prog 209 [(.slice u1.1.1 u1.1.2.1 u1.1.2.2)] (.one (.one .slc)) fun(u2:SLC)=>K (.tuple #[(.slice u2.1 u2.2.1 u2.2.2),(.int .i64 u1.2.1)])
theorem zmt (x0:Option Addr) (x1:Int) {K:Value->WP} {w:World} (h:S177 x0 x1 K w):Calls prog 177 #[(.pointer x0),(.int .i64 x1)] w (Ret K):=cF an177 false Tryz.func177 h
def an178:Ann:=(AN (AR (AN (AQ AO AP)) AO))
def S178 (x0:Option Addr) (K:Value->WP):WP:=
 za (Option.isNone x0) (K (.int .i64 (0:Int)))<|
 zh x0 fun(p1:Addr)=>
 ldW .slc p1 fun(u2:SLC)=>K (.int .i64 ((u2.2.1:Nat):Int))
theorem zmu (x0:Option Addr) {K:Value->WP} {w:World} (h:S178 x0 K w):Calls prog 178 #[(.pointer x0)] w (Ret K):=cF an178 false Tryz.func178 h
def an181:Ann:=(AN (AR (AN (AQ AP AP)) AO))
def S181 (a0:Option Addr) (n0 c0:Nat) (x1:Int) (K:Value->WP):WP:=
 zi (.cells #[(.slice a0 n0 c0)] 191) fun(r1:Nat)=>
 zi (.cells #[(.int .i64 x1)] 3) fun(r2:Nat)=>
 ldW (.int .i64) (aD r2) fun(u3:Int)=>
 za (decide (u3<(1:Int))) (zm)<|K (.func (.func 211) #[] #[(.pointer (some (aD r1))),(.pointer (some (aD r2)))])
theorem zmv (a0:Option Addr) (n0 c0:Nat) (x1:Int) {K:Value->WP} {w:World} (h:S181 a0 n0 c0 x1 K w):Calls prog 181 #[(.slice a0 n0 c0),(.int .i64 x1)] w (Ret K):=cF an181 false Tryz.func181 h
def an195:Ann:=(AN (AR (AN (.block (.loop [(8,.sh (.one (.int .i64)))] [0,1,7,1000000] (AN (AR (AQ AP AP) (AR (.block (AN (AN (AQ AO AP)))) AP)))))) AO))
def S195 (a0:Option Addr) (n0 c0:Nat) (x1:Value) (K:Value->WP):WP:=
 zB (Int×Unit) ((0:Int),()) fun(y2:Int×Unit) (I1:(Int×Unit)->WP)=>
 za (decide (y2.1<((n0:Nat):Int))) (zc (0<=y2.1/\y2.1<((n0:Nat):Int))<|
 zh a0 fun(p3:Addr)=>
 zl [.str,(.int .i64),.bool] (p3.add (Int.toNat y2.1*3)) fun(u4:(ByteArray×Int×Bool×Unit))=>
 yJ prog x1 [(.agg #[(.string u4.1),(.int .i64 u4.2.1),(.bool u4.2.2.1)])] (.one (.one .bool)) fun(u5:Bool)=>
 za u5 (K (.int .i64 y2.1))<|I1 ((wrap .i64 (y2.1+(1:Int))),()))<|K (.int .i64 (-1:Int))
theorem zmw (a0:Option Addr) (n0 c0:Nat) (x1:Value) {K:Value->WP} {w:World} (h:S195 a0 n0 c0 x1 K w):Calls prog 195 #[(.slice a0 n0 c0),x1] w (Ret K):=cF an195 false Tryz.func195 h
def an196:Ann:=(AN (.block (.loop [(3,.sh (.one (.int .i64)))] [0,1,1000000] (AR (AN (AQ AP AP)) (AR (.block (AN (AQ AP AP))) AP)))))
def S196 (x0:Value) (a1:Addr) (K:Value->WP):WP:=
 ldW .slc a1 fun(u1:SLC)=>
 zB (Int×Unit) ((wrap .i64 (((u1.2.1:Nat):Int)-(1:Int))),()) fun(y3:Int×Unit) (I2:(Int×Unit)->WP)=>
 za (decide (y3.1>=(0:Int))) (ldW .slc a1 fun(u4:SLC)=>
 zc (0<=y3.1/\y3.1<((u4.2.1:Nat):Int))<|
 zh u4.1 fun(p5:Addr)=>
 ldW (.int .u8) (p5.add (Int.toNat y3.1*1)) fun(u6:Int)=>
 yJ prog x0 [(.int .i64 y3.1),(.int .u8 u6)] (.one (.one .bool)) fun(u7:Bool)=>
 za (!u7) (K (.tuple #[]))<|I2 ((wrap .i64 (y3.1-(1:Int))),()))<|K (.tuple #[])
theorem zmx (x0:Value) (a1:Addr) {K:Value->WP} {w:World} (h:S196 x0 a1 K w):Calls prog 196 #[x0,(.pointer (some a1))] w (Ret K):=cF an196 false Tryz.func196 h
def an200:Ann:=(AN AO)
def S200 (x0:Array Value) (a1:Option Addr) (n1 c1:Nat) (K:Value->WP):WP:=
 zi (.cells x0 287) fun(r1:Nat)=>
 zdH 256 (aD r1) fun(u2:Array Value)=>
 ze prog 216 [(.agg u2),(.int .u32 (4294967295:Int)),(.slice a1 n1 c1)] (.one (.one (.int .u32))) fun(u3:Int)=>K (.int .u32 (inot .u32 u3))
theorem zmy (x0:Array Value) (a1:Option Addr) (n1 c1:Nat) {K:Value->WP} {w:World} (h:S200 x0 a1 n1 c1 K w):Calls prog 200 #[(.agg x0),(.slice a1 n1 c1)] w (Ret K):=cF an200 false Tryz.func200 h
def an201:Ann:=(AN (AR (AN (.block (.loop [(3,.sh (.one (.int .i64)))] [0,1000000] (AN (AR (AQ AP AP) (AR (.block (AN (AN (AR (AN (.block (.loop [(2,.sh (.one (.int .u32))),(8,.sh (.one (.int .i64)))] [0,1,3,1000000] (AN (AR (AQ AP AP) (AR (.block AP) AP)))))) AP)))) AP)))))) AO))
def S201  (K:Value->WP):WP:=
 zi (.cells (zeo prog 287) 287) fun(r1:Nat)=>
 zB (Int×Unit) ((0:Int),()) fun(y3:Int×Unit) (I2:(Int×Unit)->WP)=>
 za (decide (y3.1<(256:Int))) (zB (Int×Int×Unit) ((wrap .u32 y3.1),(0:Int),()) fun(y5:Int×Int×Unit) (I4:(Int×Int×Unit)->WP)=>
 za (decide (y5.2.1<(8:Int))) (I4 ((ixor .u32 (ishr .u32 y5.1 (1:Int)) (wrap .u32 ((2197175160:Int)*(iand .u32 y5.1 (1:Int))))),(wrap .i64 (y5.2.1+(1:Int))),()))<|
 zc (0<=y3.1/\y3.1<((256:Nat):Int))<|
 stW ((aD r1).add (Int.toNat y3.1*1)) (.int .u32 y5.1)<|I2 ((wrap .i64 (y3.1+(1:Int))),()))<|
 zdH 256 (aD r1) fun(u6:Array Value)=>
 zc (u6.size=256)<|
 zt (aD r1) u6.toList<|
 zdH 256 (aD r1) fun(u7:Array Value)=>K (.agg u7)
theorem zmz  {K:Value->WP} {w:World} (h:S201  K w):Calls prog 201 #[] w (Ret K):=cF an201 false Tryz.func201 h
def an202:Ann:=(AN (AN (AN (AN (.join [(5,.sh (.one .bool)),(6,.sh (.one (.int .i64))),(1000000,.ds)] [2] (AN (.block (AN (AQ (AN (AR (AN (.block (.loop [(28,.sh (.one .slc))] [] (AN (.block AO))))) AP)) (AN (AQ AO (AN (AQ AP AP)))))))) (AR (AN (.block (.loop [(5,.sh (.one .bool)),(8,.sh (.one (.int .i64)))] [2,6,1000000] (AR (AN (AQ AP AP)) (AR (.block AP) AP))))) (AR (AN (AQ AO AP)) AO)))))))
def S202 (Ae:Int) (Aa:Option Addr) (Ab Ac:Nat) (Aj:ByteArray) (K:Value->WP):WP:=
 zi (.cells #[(.int .u8 Ae),(.slice Aa Ab Ac),(.string Aj)] 56) fun(r1:Nat)=>
 zi (.cells #[(.int .u8 (0:Int)),(.slice none 0 0),(.slice none 0 0),(.slice none 0 0)] 215) fun(r2:Nat)=>
 ldW .str ((aD r1).add 2) fun(u3:ByteArray)=>
 ze prog 217 [(.string u3)] (.many [(.one .slc),(.one .bool)]) fun(u4:SLC×Bool×Unit)=>
 ldW (.int .u8) (aD r1) fun(u5:Int)=>
 ldW .slc ((aD r1).add 1) fun(u6:SLC)=>
 zc ((#[(.int .u8 u5),(.slice u4.1.1 u4.1.2.1 u4.1.2.2),(.slice none 0 0),(.slice u6.1 u6.2.1 u6.2.2)]:Array Value).size=4)<|
 zt (aD r2) [(.int .u8 u5),(.slice u4.1.1 u4.1.2.1 u4.1.2.2),(.slice none 0 0),(.slice u6.1 u6.2.1 u6.2.2)]<|
 yD (Bool×Int×List Deferred×Unit) (fun(J7:(Bool×Int×List Deferred×Unit)->WP)=>
 ldW (.int .u8) (aD r1) fun(u9:Int)=>
 za (u9==(4:Int)) (stW ((aD r2).add 1) (.slice none 0 0)<|
 ze prog 218 [(.slice u4.1.1 u4.1.2.1 u4.1.2.2),(.int .i64 (2:Int))] (.one (.one .any)) fun(u10:Value)=>
 jE prog u10 (SLC×Unit) (fun(t11:SLC×Unit)=>[(.slice t11.1.1 t11.1.2.1 t11.1.2.2)]) (fun(t11:SLC×Unit) (B12:WP->WP) (N13:WP) (Q14:Code->WP)=>B12 (zD<|
 ldW .slc ((aD r2).add 1) fun(u17:SLC)=>
 zc (0<=(0:Int)/\(0:Int)<((t11.1.2.1:Nat):Int))<|
 zh t11.1.1 fun(p18:Addr)=>
 ldW (.int .u64) (p18.add (Int.toNat (0:Int)*1)) fun(u19:Int)=>
 zi (.cells #[(.int .u64 u19)] 42) fun(r20:Nat)=>
 zr [[(((aD r2).add 1),(.slice u17.1 u17.2.1 u17.2.2))]]<|
 zv prog (Builtin.append_ #[129,129] 129 #[(.slice u17.1 u17.2.1 u17.2.2),(.slice (some (aD r20)) 1 1)]) .slc fun(u21:SLC)=>
 stW ((aD r2).add 1) (.slice u21.1 u21.2.1 u21.2.2)<|
 zD<|
 ldW .slc ((aD r2).add 2) fun(u22:SLC)=>
 zc (0<=(wrap .i64 (((t11.1.2.1:Nat):Int)-(1:Int)))/\(wrap .i64 (((t11.1.2.1:Nat):Int)-(1:Int)))<((t11.1.2.1:Nat):Int))<|
 zh t11.1.1 fun(p23:Addr)=>
 ldW (.int .u64) (p23.add (Int.toNat (wrap .i64 (((t11.1.2.1:Nat):Int)-(1:Int)))*1)) fun(u24:Int)=>
 zi (.cells #[(.int .u64 u24)] 42) fun(r25:Nat)=>
 zr [[(((aD r2).add 2),(.slice u22.1 u22.2.1 u22.2.2))]]<|
 zv prog (Builtin.append_ #[129,129] 129 #[(.slice u22.1 u22.2.1 u22.2.2),(.slice (some (aD r25)) 1 1)]) .slc fun(u26:SLC)=>
 stW ((aD r2).add 2) (.slice u26.1 u26.2.1 u26.2.2)<|N13)) fun(r15:Nat) (p16:Option Code)=>
 jw (za u4.2.1 (za ((Int.tmod ((u4.1.2.1:Nat):Int) (2:Int))==(0:Int)) (ldW .slc ((aD r1).add 1) fun(u27:SLC)=>J7 ((((u27.2.1:Nat):Int)==(0:Int)),(1:Int),(⟨.collected r15,#[]⟩::[]),()))<|J7 (false,(1:Int),(⟨.collected r15,#[]⟩::[]),()))<|J7 (false,(1:Int),(⟨.collected r15,#[]⟩::[]),())) (zS prog (⟨.collected r15,#[]⟩::[])<|
 zl [(.int .u8),.slc,.slc,.slc] (aD r2) fun(u28:(Int×SLC×SLC×SLC×Unit))=>K (.tuple #[(.agg #[(.int .u8 u28.1),(.slice u28.2.1.1 u28.2.1.2.1 u28.2.1.2.2),(.slice u28.2.2.1.1 u28.2.2.1.2.1 u28.2.2.1.2.2),(.slice u28.2.2.2.1.1 u28.2.2.2.1.2.1 u28.2.2.2.1.2.2)]),(.int .i64 (0:Int))])) [] p16)<|
 za (u9==(3:Int)) (za u4.2.1 (ldW .slc ((aD r1).add 1) fun(u29:SLC)=>J7 ((((u4.1.2.1:Nat):Int)==((u29.2.1:Nat):Int)),(2:Int),[],()))<|J7 (false,(2:Int),[],()))<|
 za (u9==(5:Int)) (za u4.2.1 (ldW .slc ((aD r1).add 1) fun(u30:SLC)=>J7 ((((u4.1.2.1:Nat):Int)==((u30.2.1:Nat):Int)),(1:Int),[],()))<|J7 (false,(1:Int),[],()))<|J7 (false,(1:Int),[],())) fun(y8:Bool×Int×List Deferred×Unit)=>
 zB (Bool×Int×Unit) (y8.1,(1:Int),()) fun(y32:Bool×Int×Unit) (I31:(Bool×Int×Unit)->WP)=>
 ldW .slc ((aD r2).add 1) fun(u33:SLC)=>
 za (decide (y32.2.1<((u33.2.1:Nat):Int))) (zD<|
 za y32.1 (ldW .slc ((aD r2).add 1) fun(u34:SLC)=>
 zc (0<=(wrap .i64 (y32.2.1-(1:Int)))/\(wrap .i64 (y32.2.1-(1:Int)))<((u34.2.1:Nat):Int))<|
 zh u34.1 fun(p35:Addr)=>
 ldW (.int .u64) (p35.add (Int.toNat (wrap .i64 (y32.2.1-(1:Int)))*1)) fun(u36:Int)=>
 ldW .slc ((aD r2).add 1) fun(u37:SLC)=>
 zc (0<=y32.2.1/\y32.2.1<((u37.2.1:Nat):Int))<|
 zh u37.1 fun(p38:Addr)=>
 ldW (.int .u64) (p38.add (Int.toNat y32.2.1*1)) fun(u39:Int)=>I31 ((decide (u36<u39)),(wrap .i64 (y32.2.1+(1:Int))),()))<|I31 (false,(wrap .i64 (y32.2.1+(1:Int))),()))<|
 za (!y32.1) (zc ((#[(.int .u8 (0:Int)),(.slice none 0 0),(.slice none 0 0),(.slice none 0 0)]:Array Value).size=4)<|
 zt (aD r2) [(.int .u8 (0:Int)),(.slice none 0 0),(.slice none 0 0),(.slice none 0 0)]<|
 zS prog y8.2.2.1<|
 zl [(.int .u8),.slc,.slc,.slc] (aD r2) fun(u40:(Int×SLC×SLC×SLC×Unit))=>K (.tuple #[(.agg #[(.int .u8 u40.1),(.slice u40.2.1.1 u40.2.1.2.1 u40.2.1.2.2),(.slice u40.2.2.1.1 u40.2.2.1.2.1 u40.2.2.1.2.2),(.slice u40.2.2.2.1.1 u40.2.2.2.1.2.1 u40.2.2.2.1.2.2)]),(.int .i64 (10:Int))]))<|
 ldW .slc ((aD r2).add 1) fun(u41:SLC)=>
 za (decide (((u41.2.1:Nat):Int)<y8.2.1)) (zc ((#[(.int .u8 (0:Int)),(.slice none 0 0),(.slice none 0 0),(.slice none 0 0)]:Array Value).size=4)<|
 zt (aD r2) [(.int .u8 (0:Int)),(.slice none 0 0),(.slice none 0 0),(.slice none 0 0)]<|
 zS prog y8.2.2.1<|
 zl [(.int .u8),.slc,.slc,.slc] (aD r2) fun(u42:(Int×SLC×SLC×SLC×Unit))=>K (.tuple #[(.agg #[(.int .u8 u42.1),(.slice u42.2.1.1 u42.2.1.2.1 u42.2.1.2.2),(.slice u42.2.2.1.1 u42.2.2.1.2.1 u42.2.2.1.2.2),(.slice u42.2.2.2.1.1 u42.2.2.2.1.2.1 u42.2.2.2.1.2.2)]),(.int .i64 (10:Int))]))<|
 zl [(.int .u8),.slc,.slc,.slc] (aD r2) fun(u43:(Int×SLC×SLC×SLC×Unit))=>
 zc ((#[(.int .u8 u43.1),(.slice u43.2.1.1 u43.2.1.2.1 u43.2.1.2.2),(.slice u43.2.2.1.1 u43.2.2.1.2.1 u43.2.2.1.2.2),(.slice u43.2.2.2.1.1 u43.2.2.2.1.2.1 u43.2.2.2.1.2.2)]:Array Value).size=4)<|
 zt (aD r2) [(.int .u8 u43.1),(.slice u43.2.1.1 u43.2.1.2.1 u43.2.1.2.2),(.slice u43.2.2.1.1 u43.2.2.1.2.1 u43.2.2.1.2.2),(.slice u43.2.2.2.1.1 u43.2.2.2.1.2.1 u43.2.2.2.1.2.2)]<|
 zS prog y8.2.2.1<|
 zl [(.int .u8),.slc,.slc,.slc] (aD r2) fun(u44:(Int×SLC×SLC×SLC×Unit))=>K (.tuple #[(.agg #[(.int .u8 u44.1),(.slice u44.2.1.1 u44.2.1.2.1 u44.2.1.2.2),(.slice u44.2.2.1.1 u44.2.2.1.2.1 u44.2.2.1.2.2),(.slice u44.2.2.2.1.1 u44.2.2.2.1.2.1 u44.2.2.2.1.2.2)]),(.int .i64 (0:Int))])
theorem zmA (Ae:Int) (Aa:Option Addr) (Ab Ac:Nat) (Aj:ByteArray) {K:Value->WP} {w:World} (h:S202 Ae Aa Ab Ac Aj K w):Calls prog 202 #[(.agg #[(.int .u8 Ae),(.slice Aa Ab Ac),(.string Aj)])] w (Ret K):=cF an202 true Tryz.func202 h
def an203:Ann:=(AN AO)
def S203 (Ae:Int) (Aa:Option Addr) (Ab Ac:Nat) (Ak:Option Addr) (Al Am:Nat) (An:Option Addr) (Ao Aq:Nat) (K:Value->WP):WP:=
 zi (.cells #[(.int .u8 Ae),(.slice Aa Ab Ac),(.slice Ak Al Am),(.slice An Ao Aq)] 215) fun(r1:Nat)=>
 ldW (.int .u8) (aD r1) fun(u2:Int)=>K (.bool (u2 !=(4:Int)))
theorem zmB (Ae:Int) (Aa:Option Addr) (Ab Ac:Nat) (Ak:Option Addr) (Al Am:Nat) (An:Option Addr) (Ao Aq:Nat) {K:Value->WP} {w:World} (h:S203 Ae Aa Ab Ac Ak Al Am An Ao Aq K w):Calls prog 203 #[(.agg #[(.int .u8 Ae),(.slice Aa Ab Ac),(.slice Ak Al Am),(.slice An Ao Aq)])] w (Ret K):=cF an203 false Tryz.func203 h
def an205:Ann:=(AN (AR (AN (AQ AO AP)) AO))
def S205 (x0:Option Addr) (x1:Int) (K:Value->WP):WP:=
 za (x1==(4:Int)) (ze prog 76 [(.pointer x0),(.int .i64 (0:Int))] (.one (.one (.int .i64))) fun(u1:Int)=>K (.int .i64 (wrap .i64 (Int.tdiv u1 (16:Int)))))<|
 ze prog 76 [(.pointer x0),(.int .i64 (0:Int))] (.one (.one (.int .i64))) fun(u2:Int)=>K (.int .i64 (wrap .i64 (Int.tdiv u2 (12:Int))))
theorem zmC (x0:Option Addr) (x1:Int) {K:Value->WP} {w:World} (h:S205 x0 x1 K w):Calls prog 205 #[(.pointer x0),(.int .u8 x1)] w (Ret K):=cF an205 false Tryz.func205 h
def an206:Ann:=(AN (AN (AR (AN (AQ AP AP)) AO)))
def S206 (Ae:Int) (Aa:Option Addr) (Ab Ac:Nat) (Ak:Option Addr) (Al Am:Nat) (An:Option Addr) (Ao Aq:Nat) (x1:Int) (x2:Int) (K:Value->WP):WP:=
 zi (.cells #[(.int .u8 Ae),(.slice Aa Ab Ac),(.slice Ak Al Am),(.slice An Ao Aq)] 215) fun(r1:Nat)=>
 zi (.cells #[(.int .u8 (0:Int)),(.slice none 0 0),(.slice none 0 0),(.slice none 0 0)] 215) fun(r2:Nat)=>
 zD<|
 ldW (.int .u8) (aD r1) fun(u3:Int)=>
 ldW .slc ((aD r1).add 1) fun(u4:SLC)=>
 zc (0<=x1/\x1<=x2/\x2<=((u4.2.2:Nat):Int))<|
 zi (.cells #[(.int .u8 (0:Int)),(.slice none 0 0),(.slice none 0 0),(.slice none 0 0)] 215) fun(r5:Nat)=>
 zr [[(((aD r1).add 1),(.slice u4.1 u4.2.1 u4.2.2))],[((aD r1),(.int .u8 u3))]]<|
 zc ((#[(.int .u8 u3),(.slice (zn u4.1 (Int.toNat x1) u4.2.2 1) ((Int.toNat x2)-(Int.toNat x1)) (u4.2.2-(Int.toNat x1))),(.slice none 0 0),(.slice none 0 0)]:Array Value).size=4)<|
 zt (aD r5) [(.int .u8 u3),(.slice (zn u4.1 (Int.toNat x1) u4.2.2 1) ((Int.toNat x2)-(Int.toNat x1)) (u4.2.2-(Int.toNat x1))),(.slice none 0 0),(.slice none 0 0)]<|
 zl [(.int .u8),.slc,.slc,.slc] (aD r1) fun(u6:(Int×SLC×SLC×SLC×Unit))=>
 ze prog 203 [(.agg #[(.int .u8 u6.1),(.slice u6.2.1.1 u6.2.1.2.1 u6.2.1.2.2),(.slice u6.2.2.1.1 u6.2.2.1.2.1 u6.2.2.1.2.2),(.slice u6.2.2.2.1.1 u6.2.2.2.1.2.1 u6.2.2.2.1.2.2)])] (.one (.one .bool)) fun(u7:Bool)=>
 za u7 (ldW .slc ((aD r1).add 3) fun(u8:SLC)=>
 zc (0<=x1/\x1<=x2/\x2<=((u8.2.2:Nat):Int))<|
 stW ((aD r5).add 3) (.slice (zn u8.1 (Int.toNat x1) u8.2.2 1) ((Int.toNat x2)-(Int.toNat x1)) (u8.2.2-(Int.toNat x1)))<|
 zl [(.int .u8),.slc,.slc,.slc] (aD r5) fun(u9:(Int×SLC×SLC×SLC×Unit))=>
 zc ((#[(.int .u8 u9.1),(.slice u9.2.1.1 u9.2.1.2.1 u9.2.1.2.2),(.slice u9.2.2.1.1 u9.2.2.1.2.1 u9.2.2.1.2.2),(.slice u9.2.2.2.1.1 u9.2.2.2.1.2.1 u9.2.2.2.1.2.2)]:Array Value).size=4)<|
 zt (aD r2) [(.int .u8 u9.1),(.slice u9.2.1.1 u9.2.1.2.1 u9.2.1.2.2),(.slice u9.2.2.1.1 u9.2.2.1.2.1 u9.2.2.1.2.2),(.slice u9.2.2.2.1.1 u9.2.2.2.1.2.1 u9.2.2.2.1.2.2)]<|
 zl [(.int .u8),.slc,.slc,.slc] (aD r2) fun(u10:(Int×SLC×SLC×SLC×Unit))=>K (.agg #[(.int .u8 u10.1),(.slice u10.2.1.1 u10.2.1.2.1 u10.2.1.2.2),(.slice u10.2.2.1.1 u10.2.2.1.2.1 u10.2.2.1.2.2),(.slice u10.2.2.2.1.1 u10.2.2.2.1.2.1 u10.2.2.2.1.2.2)]))<|
 ldW .slc ((aD r1).add 2) fun(u11:SLC)=>
 zc (0<=x1/\x1<=x2/\x2<=((u11.2.2:Nat):Int))<|
 stW ((aD r5).add 2) (.slice (zn u11.1 (Int.toNat x1) u11.2.2 1) ((Int.toNat x2)-(Int.toNat x1)) (u11.2.2-(Int.toNat x1)))<|
 zl [(.int .u8),.slc,.slc,.slc] (aD r5) fun(u12:(Int×SLC×SLC×SLC×Unit))=>
 zc ((#[(.int .u8 u12.1),(.slice u12.2.1.1 u12.2.1.2.1 u12.2.1.2.2),(.slice u12.2.2.1.1 u12.2.2.1.2.1 u12.2.2.1.2.2),(.slice u12.2.2.2.1.1 u12.2.2.2.1.2.1 u12.2.2.2.1.2.2)]:Array Value).size=4)<|
 zt (aD r2) [(.int .u8 u12.1),(.slice u12.2.1.1 u12.2.1.2.1 u12.2.1.2.2),(.slice u12.2.2.1.1 u12.2.2.1.2.1 u12.2.2.1.2.2),(.slice u12.2.2.2.1.1 u12.2.2.2.1.2.1 u12.2.2.2.1.2.2)]<|
 zl [(.int .u8),.slc,.slc,.slc] (aD r2) fun(u13:(Int×SLC×SLC×SLC×Unit))=>K (.agg #[(.int .u8 u13.1),(.slice u13.2.1.1 u13.2.1.2.1 u13.2.1.2.2),(.slice u13.2.2.1.1 u13.2.2.1.2.1 u13.2.2.1.2.2),(.slice u13.2.2.2.1.1 u13.2.2.2.1.2.1 u13.2.2.2.1.2.2)])
theorem zmD (Ae:Int) (Aa:Option Addr) (Ab Ac:Nat) (Ak:Option Addr) (Al Am:Nat) (An:Option Addr) (Ao Aq:Nat) (x1:Int) (x2:Int) {K:Value->WP} {w:World} (h:S206 Ae Aa Ab Ac Ak Al Am An Ao Aq x1 x2 K w):Calls prog 206 #[(.agg #[(.int .u8 Ae),(.slice Aa Ab Ac),(.slice Ak Al Am),(.slice An Ao Aq)]),(.int .i64 x1),(.int .i64 x2)] w (Ret K):=cF an206 false Tryz.func206 h
def an207:Ann:=(AN (AN (AR (AN (.block (.loop [(6,.sh (.one .slc)),(12,.sh (.one (.int .i64)))] [1,2,10,11,1000000] (AN (AR (AQ AP AP) (AR (.block (AN (AN (AN (AQ AP AP))))) AP)))))) AO)))
def S207 (Ae:Int) (Aa:Option Addr) (Ab Ac:Nat) (Ak:Option Addr) (Al Am:Nat) (An:Option Addr) (Ao Aq:Nat) (x1:Option Addr) (K:Value->WP):WP:=
 zi (.cells #[(.int .u8 Ae),(.slice Aa Ab Ac),(.slice Ak Al Am),(.slice An Ao Aq)] 215) fun(r1:Nat)=>
 ldW .slc ((aD r1).add 1) fun(u2:SLC)=>
 zB (SLC×Int×Unit) ((none,0,0),(0:Int),()) fun(y4:SLC×Int×Unit) (I3:(SLC×Int×Unit)->WP)=>
 za (decide (y4.2.1<((u2.2.1:Nat):Int))) (zc (0<=y4.2.1/\y4.2.1<((u2.2.1:Nat):Int))<|
 zh u2.1 fun(p5:Addr)=>
 ldW (.int .u64) (p5.add (Int.toNat y4.2.1*1)) fun(u6:Int)=>
 ze prog 42 [(.slice y4.1.1 y4.1.2.1 y4.1.2.2),(.int .u64 u6),(.int .i64 (8:Int))] (.one (.one .slc)) fun(u7:SLC)=>
 zl [(.int .u8),.slc,.slc,.slc] (aD r1) fun(u8:(Int×SLC×SLC×SLC×Unit))=>
 ze prog 203 [(.agg #[(.int .u8 u8.1),(.slice u8.2.1.1 u8.2.1.2.1 u8.2.1.2.2),(.slice u8.2.2.1.1 u8.2.2.1.2.1 u8.2.2.1.2.2),(.slice u8.2.2.2.1.1 u8.2.2.2.1.2.1 u8.2.2.2.1.2.2)])] (.one (.one .bool)) fun(u9:Bool)=>
 za (!u9) (ldW .slc ((aD r1).add 2) fun(u10:SLC)=>
 zc (0<=y4.2.1/\y4.2.1<((u10.2.1:Nat):Int))<|
 zh u10.1 fun(p11:Addr)=>
 ldW (.int .u64) (p11.add (Int.toNat y4.2.1*1)) fun(u12:Int)=>
 ze prog 42 [(.slice u7.1 u7.2.1 u7.2.2),(.int .u64 u12),(.int .i64 (8:Int))] (.one (.one .slc)) fun(u13:SLC)=>I3 ((u13.1,u13.2.1,u13.2.2),(wrap .i64 (y4.2.1+(1:Int))),()))<|I3 ((u7.1,u7.2.1,u7.2.2),(wrap .i64 (y4.2.1+(1:Int))),()))<|
 ldW (.int .u8) (aD r1) fun(u14:Int)=>
 ldW .slc ((aD r1).add 3) fun(u15:SLC)=>
 zv prog (Go.convert 85 9 (.slice y4.1.1 y4.1.2.1 y4.1.2.2)) .str fun(u16:ByteArray)=>
 ze prog 24 [(.pointer x1),(.agg #[(.int .u8 u14),(.slice u15.1 u15.2.1 u15.2.2),(.string u16)])] (.many [(.one (.int .u32)),(.one (.int .i64))]) fun(u17:Int×Int×Unit)=>K (.tuple #[(.int .u32 u17.1),(.int .i64 u17.2.1)])
theorem zmE (Ae:Int) (Aa:Option Addr) (Ab Ac:Nat) (Ak:Option Addr) (Al Am:Nat) (An:Option Addr) (Ao Aq:Nat) (x1:Option Addr) {K:Value->WP} {w:World} (h:S207 Ae Aa Ab Ac Ak Al Am An Ao Aq x1 K w):Calls prog 207 #[(.agg #[(.int .u8 Ae),(.slice Aa Ab Ac),(.slice Ak Al Am),(.slice An Ao Aq)]),(.pointer x1)] w (Ret K):=cF an207 false Tryz.func207 h
def an208:Ann:=(AN AO)
def S208 (a0:Option Addr) (n0 c0:Nat) (K:Value->WP):WP:=
 zi (.cells #[(.slice a0 n0 c0)] 159) fun(r1:Nat)=>K (.func (.func 219) #[] #[(.pointer (some (aD r1)))])
theorem zmF (a0:Option Addr) (n0 c0:Nat) {K:Value->WP} {w:World} (h:S208 a0 n0 c0 K w):Calls prog 208 #[(.slice a0 n0 c0)] w (Ret K):=cF an208 false Tryz.func208 h
def an209:Ann:=(AN (AR (AN (AQ AO AP)) AO))
def S209 (a0:Option Addr) (n0 c0:Nat) (K:Value->WP):WP:=
 za (Option.isNone a0) (K (.slice none 0 0))<|
 zi (.cells #[] 5) fun(r1:Nat)=>
 zv prog (Builtin.append_ #[85,85] 85 #[(.slice (some (aD r1)) 0 0),(.slice a0 n0 c0)]) .slc fun(u2:SLC)=>K (.slice u2.1 u2.2.1 u2.2.2)
theorem zmG (a0:Option Addr) (n0 c0:Nat) {K:Value->WP} {w:World} (h:S209 a0 n0 c0 K w):Calls prog 209 #[(.slice a0 n0 c0)] w (Ret K):=cF an209 false Tryz.func209 h
def an210:Ann:=(AN (AR (AN (AQ AO AP)) (AN (AN AO))))
def S210 (x0:Option Addr) (x1:Int) (K:Value->WP):WP:=
 zh x0 fun(p1:Addr)=>
 ldW .slc p1 fun(u2:SLC)=>
 za (decide (((u2.2.1:Nat):Int)<x1)) (K (.tuple #[(.slice none 0 0),(.int .i64 (7:Int))]))<|
 zh x0 fun(p3:Addr)=>
 ldW .slc p3 fun(u4:SLC)=>
 zc (0<=x1/\x1<=x1/\x1<=((u4.2.2:Nat):Int))<|
 zh x0 fun(p5:Addr)=>
 ldW .slc p5 fun(u6:SLC)=>
 zc (0<=x1/\x1<=((u6.2.1:Nat):Int))<|
 zh x0 fun(p7:Addr)=>
 stW p7 (.slice (zn u6.1 (Int.toNat x1) u6.2.2 1) (u6.2.1-(Int.toNat x1)) (u6.2.2-(Int.toNat x1)))<|K (.tuple #[(.slice (zn u4.1 0 (Int.toNat x1) 1) (Int.toNat x1) (Int.toNat x1)),(.int .i64 (0:Int))])
theorem zmH (x0:Option Addr) (x1:Int) {K:Value->WP} {w:World} (h:S210 x0 x1 K w):Calls prog 210 #[(.pointer x0),(.int .i64 x1)] w (Ret K):=cF an210 false Tryz.func210 h
def an211:Ann:=(AN (.block (.loop [(4,.sh (.one (.int .i64)))] [0,1,2,1000000] (AR (AN (AQ AP AP)) (AR (.block (AN (AN (AQ AP AP)))) AP)))))
def S211 (x0:Value) (a1:Addr) (a2:Addr) (K:Value->WP):WP:=
 zB (Int×Unit) ((0:Int),()) fun(y2:Int×Unit) (I1:(Int×Unit)->WP)=>
 ldW .slc a1 fun(u3:SLC)=>
 za (decide (y2.1<((u3.2.1:Nat):Int))) (zD<|
 ldW (.int .i64) a2 fun(u4:Int)=>
 ldW .slc a1 fun(u5:SLC)=>
 zc (0<=y2.1/\y2.1<=((u5.2.1:Nat):Int))<|
 ldW .slc a1 fun(u6:SLC)=>
 zc (0<=y2.1/\y2.1<=(wrap .i64 (y2.1+(if (((u5.2.1-(Int.toNat y2.1)):Nat):Int)<u4 then (((u5.2.1-(Int.toNat y2.1)):Nat):Int) else u4)))/\(wrap .i64 (y2.1+(if (((u5.2.1-(Int.toNat y2.1)):Nat):Int)<u4 then (((u5.2.1-(Int.toNat y2.1)):Nat):Int) else u4)))<=(wrap .i64 (y2.1+(if (((u5.2.1-(Int.toNat y2.1)):Nat):Int)<u4 then (((u5.2.1-(Int.toNat y2.1)):Nat):Int) else u4)))/\(wrap .i64 (y2.1+(if (((u5.2.1-(Int.toNat y2.1)):Nat):Int)<u4 then (((u5.2.1-(Int.toNat y2.1)):Nat):Int) else u4)))<=((u6.2.2:Nat):Int))<|
 yJ prog x0 [(.slice (zn u6.1 (Int.toNat y2.1) (Int.toNat (wrap .i64 (y2.1+(if (((u5.2.1-(Int.toNat y2.1)):Nat):Int)<u4 then (((u5.2.1-(Int.toNat y2.1)):Nat):Int) else u4)))) 1) ((Int.toNat (wrap .i64 (y2.1+(if (((u5.2.1-(Int.toNat y2.1)):Nat):Int)<u4 then (((u5.2.1-(Int.toNat y2.1)):Nat):Int) else u4))))-(Int.toNat y2.1)) ((Int.toNat (wrap .i64 (y2.1+(if (((u5.2.1-(Int.toNat y2.1)):Nat):Int)<u4 then (((u5.2.1-(Int.toNat y2.1)):Nat):Int) else u4))))-(Int.toNat y2.1)))] (.one (.one .bool)) fun(u7:Bool)=>
 za (!u7) (K (.tuple #[]))<|
 ldW (.int .i64) a2 fun(u8:Int)=>I1 ((wrap .i64 (y2.1+u8)),()))<|K (.tuple #[])
theorem zmI (x0:Value) (a1:Addr) (a2:Addr) {K:Value->WP} {w:World} (h:S211 x0 a1 a2 K w):Calls prog 211 #[x0,(.pointer (some a1)),(.pointer (some a2))] w (Ret K):=cF an211 false Tryz.func211 h
def an216:Ann:=(AN (AR (AN (.block (.loop [(1,.sh (.one (.int .u32))),(11,.sh (.one (.int .i64)))] [3,9,10,1000000] (AN (AR (AQ AP AP) (AR (.block AO) AP)))))) AO))
def S216 (x0:Array Value) (x1:Int) (a2:Option Addr) (n2 c2:Nat) (K:Value->WP):WP:=
 zi (.cells x0 287) fun(r1:Nat)=>
 zB (Int×Int×Unit) (x1,(0:Int),()) fun(y3:Int×Int×Unit) (I2:(Int×Int×Unit)->WP)=>
 za (decide (y3.2.1<((n2:Nat):Int))) (zc (0<=y3.2.1/\y3.2.1<((n2:Nat):Int))<|
 zh a2 fun(p4:Addr)=>
 ldW (.int .u8) (p4.add (Int.toNat y3.2.1*1)) fun(u5:Int)=>
 zc (0<=(ixor .u8 (wrap .u8 y3.1) u5)/\(ixor .u8 (wrap .u8 y3.1) u5)<((256:Nat):Int))<|
 ldW (.int .u32) ((aD r1).add (Int.toNat (ixor .u8 (wrap .u8 y3.1) u5)*1)) fun(u6:Int)=>I2 ((ixor .u32 (ishr .u32 y3.1 (8:Int)) u6),(wrap .i64 (y3.2.1+(1:Int))),()))<|K (.int .u32 y3.1)
theorem zmJ (x0:Array Value) (x1:Int) (a2:Option Addr) (n2 c2:Nat) {K:Value->WP} {w:World} (h:S216 x0 x1 a2 n2 c2 K w):Calls prog 216 #[(.agg x0),(.int .u32 x1),(.slice a2 n2 c2)] w (Ret K):=cF an216 false Tryz.func216 h
def an217:Ann:=(AN (AR (AN (.block (.loop [(8,.sh (.one .slc))] [] (AN (.block AP))))) AO))
def S217 (x0:ByteArray) (K:Value->WP):WP:=
 zi (.cells #[(.slice none 0 0)] 129) fun(r1:Nat)=>
 zv prog (Go.convert 9 85 (.string x0)) .slc fun(u2:SLC)=>
 ze prog 222 [(.slice u2.1 u2.2.1 u2.2.2),(.int .i64 (8:Int))] (.one (.one .any)) fun(u3:Value)=>
 jE prog u3 (SLC×Unit) (fun(t4:SLC×Unit)=>[(.slice t4.1.1 t4.1.2.1 t4.1.2.2)]) (fun(t4:SLC×Unit) (B5:WP->WP) (N6:WP) (Q7:Code->WP)=>B5 (zD<|
 ldW .slc (aD r1) fun(u10:SLC)=>
 ze prog 107 [(.slice t4.1.1 t4.1.2.1 t4.1.2.2)] (.one (.one (.int .u64))) fun(u11:Int)=>
 zr [[((aD r1),(.slice u10.1 u10.2.1 u10.2.2))]]<|
 zi (.cells #[(.int .u64 u11)] 42) fun(r12:Nat)=>
 zr [[((aD r1),(.slice u10.1 u10.2.1 u10.2.2))]]<|
 zv prog (Builtin.append_ #[129,129] 129 #[(.slice u10.1 u10.2.1 u10.2.2),(.slice (some (aD r12)) 1 1)]) .slc fun(u13:SLC)=>
 stW (aD r1) (.slice u13.1 u13.2.1 u13.2.2)<|N6)) fun(r8:Nat) (p9:Option Code)=>
 jw (ldW .slc (aD r1) fun(u14:SLC)=>
 stW (aD r1) (.slice u14.1 u14.2.1 u14.2.2)<|
 zS prog (⟨.collected r8,#[]⟩::[])<|
 ldW .slc (aD r1) fun(u15:SLC)=>K (.tuple #[(.slice u15.1 u15.2.1 u15.2.2),(.bool ((Int.tmod ((x0.size:Nat):Int) (8:Int))==(0:Int)))])) (zS prog (⟨.collected r8,#[]⟩::[])<|
 ldW .slc (aD r1) fun(u16:SLC)=>K (.tuple #[(.slice u16.1 u16.2.1 u16.2.2),(.bool false)])) [] p9
theorem zmK (x0:ByteArray) {K:Value->WP} {w:World} (h:S217 x0 K w):Calls prog 217 #[(.string x0)] w (Ret K):=cF an217 true Tryz.func217 h
def an218:Ann:=(AN (AR (AN (AQ AP AP)) AO))
def S218 (a0:Option Addr) (n0 c0:Nat) (x1:Int) (K:Value->WP):WP:=
 zi (.cells #[(.slice a0 n0 c0)] 129) fun(r1:Nat)=>
 zi (.cells #[(.int .i64 x1)] 3) fun(r2:Nat)=>
 ldW (.int .i64) (aD r2) fun(u3:Int)=>
 za (decide (u3<(1:Int))) (zm)<|K (.func (.func 223) #[] #[(.pointer (some (aD r1))),(.pointer (some (aD r2)))])
theorem zmL (a0:Option Addr) (n0 c0:Nat) (x1:Int) {K:Value->WP} {w:World} (h:S218 a0 n0 c0 x1 K w):Calls prog 218 #[(.slice a0 n0 c0),(.int .i64 x1)] w (Ret K):=cF an218 false Tryz.func218 h
def an219:Ann:=(AN (.block (.loop [(3,.sh (.one (.int .i64)))] [0,1,1000000] (AR (AN (AQ AP AP)) (AR (.block (AN (AQ AP AP))) AP)))))
def S219 (x0:Value) (a1:Addr) (K:Value->WP):WP:=
 ldW .slc a1 fun(u1:SLC)=>
 zB (Int×Unit) ((wrap .i64 (((u1.2.1:Nat):Int)-(1:Int))),()) fun(y3:Int×Unit) (I2:(Int×Unit)->WP)=>
 za (decide (y3.1>=(0:Int))) (ldW .slc a1 fun(u4:SLC)=>
 zc (0<=y3.1/\y3.1<((u4.2.1:Nat):Int))<|
 zh u4.1 fun(p5:Addr)=>
 zl [(.int .i64),.str] (p5.add (Int.toNat y3.1*2)) fun(u6:(Int×ByteArray×Unit))=>
 yJ prog x0 [(.int .i64 y3.1),(.agg #[(.int .i64 u6.1),(.string u6.2.1)])] (.one (.one .bool)) fun(u7:Bool)=>
 za (!u7) (K (.tuple #[]))<|I2 ((wrap .i64 (y3.1-(1:Int))),()))<|K (.tuple #[])
theorem zmM (x0:Value) (a1:Addr) {K:Value->WP} {w:World} (h:S219 x0 a1 K w):Calls prog 219 #[x0,(.pointer (some a1))] w (Ret K):=cF an219 false Tryz.func219 h
def an222:Ann:=(AN (AR (AN (AQ AP AP)) AO))
def S222 (a0:Option Addr) (n0 c0:Nat) (x1:Int) (K:Value->WP):WP:=
 zi (.cells #[(.slice a0 n0 c0)] 85) fun(r1:Nat)=>
 zi (.cells #[(.int .i64 x1)] 3) fun(r2:Nat)=>
 ldW (.int .i64) (aD r2) fun(u3:Int)=>
 za (decide (u3<(1:Int))) (zm)<|K (.func (.func 224) #[] #[(.pointer (some (aD r1))),(.pointer (some (aD r2)))])
theorem zmN (a0:Option Addr) (n0 c0:Nat) (x1:Int) {K:Value->WP} {w:World} (h:S222 a0 n0 c0 x1 K w):Calls prog 222 #[(.slice a0 n0 c0),(.int .i64 x1)] w (Ret K):=cF an222 false Tryz.func222 h
def an223:Ann:=(AN (.block (.loop [(4,.sh (.one (.int .i64)))] [0,1,2,1000000] (AR (AN (AQ AP AP)) (AR (.block (AN (AN (AQ AP AP)))) AP)))))
def S223 (x0:Value) (a1:Addr) (a2:Addr) (K:Value->WP):WP:=
 zB (Int×Unit) ((0:Int),()) fun(y2:Int×Unit) (I1:(Int×Unit)->WP)=>
 ldW .slc a1 fun(u3:SLC)=>
 za (decide (y2.1<((u3.2.1:Nat):Int))) (zD<|
 ldW (.int .i64) a2 fun(u4:Int)=>
 ldW .slc a1 fun(u5:SLC)=>
 zc (0<=y2.1/\y2.1<=((u5.2.1:Nat):Int))<|
 ldW .slc a1 fun(u6:SLC)=>
 zc (0<=y2.1/\y2.1<=(wrap .i64 (y2.1+(if (((u5.2.1-(Int.toNat y2.1)):Nat):Int)<u4 then (((u5.2.1-(Int.toNat y2.1)):Nat):Int) else u4)))/\(wrap .i64 (y2.1+(if (((u5.2.1-(Int.toNat y2.1)):Nat):Int)<u4 then (((u5.2.1-(Int.toNat y2.1)):Nat):Int) else u4)))<=(wrap .i64 (y2.1+(if (((u5.2.1-(Int.toNat y2.1)):Nat):Int)<u4 then (((u5.2.1-(Int.toNat y2.1)):Nat):Int) else u4)))/\(wrap .i64 (y2.1+(if (((u5.2.1-(Int.toNat y2.1)):Nat):Int)<u4 then (((u5.2.1-(Int.toNat y2.1)):Nat):Int) else u4)))<=((u6.2.2:Nat):Int))<|
 yJ prog x0 [(.slice (zn u6.1 (Int.toNat y2.1) (Int.toNat (wrap .i64 (y2.1+(if (((u5.2.1-(Int.toNat y2.1)):Nat):Int)<u4 then (((u5.2.1-(Int.toNat y2.1)):Nat):Int) else u4)))) 1) ((Int.toNat (wrap .i64 (y2.1+(if (((u5.2.1-(Int.toNat y2.1)):Nat):Int)<u4 then (((u5.2.1-(Int.toNat y2.1)):Nat):Int) else u4))))-(Int.toNat y2.1)) ((Int.toNat (wrap .i64 (y2.1+(if (((u5.2.1-(Int.toNat y2.1)):Nat):Int)<u4 then (((u5.2.1-(Int.toNat y2.1)):Nat):Int) else u4))))-(Int.toNat y2.1)))] (.one (.one .bool)) fun(u7:Bool)=>
 za (!u7) (K (.tuple #[]))<|
 ldW (.int .i64) a2 fun(u8:Int)=>I1 ((wrap .i64 (y2.1+u8)),()))<|K (.tuple #[])
theorem zmO (x0:Value) (a1:Addr) (a2:Addr) {K:Value->WP} {w:World} (h:S223 x0 a1 a2 K w):Calls prog 223 #[x0,(.pointer (some a1)),(.pointer (some a2))] w (Ret K):=cF an223 false Tryz.func223 h
def an224:Ann:=(AN (.block (.loop [(4,.sh (.one (.int .i64)))] [0,1,2,1000000] (AR (AN (AQ AP AP)) (AR (.block (AN (AN (AQ AP AP)))) AP)))))
def S224 (x0:Value) (a1:Addr) (a2:Addr) (K:Value->WP):WP:=
 zB (Int×Unit) ((0:Int),()) fun(y2:Int×Unit) (I1:(Int×Unit)->WP)=>
 ldW .slc a1 fun(u3:SLC)=>
 za (decide (y2.1<((u3.2.1:Nat):Int))) (zD<|
 ldW (.int .i64) a2 fun(u4:Int)=>
 ldW .slc a1 fun(u5:SLC)=>
 zc (0<=y2.1/\y2.1<=((u5.2.1:Nat):Int))<|
 ldW .slc a1 fun(u6:SLC)=>
 zc (0<=y2.1/\y2.1<=(wrap .i64 (y2.1+(if (((u5.2.1-(Int.toNat y2.1)):Nat):Int)<u4 then (((u5.2.1-(Int.toNat y2.1)):Nat):Int) else u4)))/\(wrap .i64 (y2.1+(if (((u5.2.1-(Int.toNat y2.1)):Nat):Int)<u4 then (((u5.2.1-(Int.toNat y2.1)):Nat):Int) else u4)))<=(wrap .i64 (y2.1+(if (((u5.2.1-(Int.toNat y2.1)):Nat):Int)<u4 then (((u5.2.1-(Int.toNat y2.1)):Nat):Int) else u4)))/\(wrap .i64 (y2.1+(if (((u5.2.1-(Int.toNat y2.1)):Nat):Int)<u4 then (((u5.2.1-(Int.toNat y2.1)):Nat):Int) else u4)))<=((u6.2.2:Nat):Int))<|
 yJ prog x0 [(.slice (zn u6.1 (Int.toNat y2.1) (Int.toNat (wrap .i64 (y2.1+(if (((u5.2.1-(Int.toNat y2.1)):Nat):Int)<u4 then (((u5.2.1-(Int.toNat y2.1)):Nat):Int) else u4)))) 1) ((Int.toNat (wrap .i64 (y2.1+(if (((u5.2.1-(Int.toNat y2.1)):Nat):Int)<u4 then (((u5.2.1-(Int.toNat y2.1)):Nat):Int) else u4))))-(Int.toNat y2.1)) ((Int.toNat (wrap .i64 (y2.1+(if (((u5.2.1-(Int.toNat y2.1)):Nat):Int)<u4 then (((u5.2.1-(Int.toNat y2.1)):Nat):Int) else u4))))-(Int.toNat y2.1)))] (.one (.one .bool)) fun(u7:Bool)=>
 za (!u7) (K (.tuple #[]))<|
 ldW (.int .i64) a2 fun(u8:Int)=>I1 ((wrap .i64 (y2.1+u8)),()))<|K (.tuple #[])
theorem zmP (x0:Value) (a1:Addr) (a2:Addr) {K:Value->WP} {w:World} (h:S224 x0 a1 a2 K w):Calls prog 224 #[x0,(.pointer (some a1)),(.pointer (some a2))] w (Ret K):=cF an224 false Tryz.func224 h
end V
/- Contracts of the statements' own helpers,and of slices.Clone. -/
namespace V
open Go Go.Proofs
theorem xE:Elem prog 85 5 (.int .u8 0) 1:=by
 refine⟨by kernel_rfl,by kernel_rfl,rfl⟩
def Bytes (w:World) (bs:List UInt8) (v:Value) (w':World):Prop:=∃ x:SLC,v=.slice x.1 x.2.1 x.2.2/\Own 5 w' w.heap.size x.1 x.2.1 x.2.2 (bV bs)/\Ext w w'
theorem zfT {w w':World} {bs:List UInt8} {A:Option Addr} {n c:Nat} (h:Own 5 w' w.heap.size A n c (bV bs)) (he:Ext w w'):Bytes w bs (.slice A n c) w':=⟨(A,n,c),rfl,h,he⟩
theorem zpS {w:World} {A:Option Addr} {n c:Nat} {bs:List UInt8} {K:SLC->WP} (h:Sl w A n (bV bs)) (hn:n<=140737488355328)
  (hK:∀ A' c' w',Own 5 w' w.heap.size A' n c' (bV bs)->Ext w w'->K (A',n,c') w'):
  (zi (.cells #[] 5) fun r=>zv prog (Builtin.append_ #[85,85] 85 #[.slice (some (aD r)) 0 0,.slice A n c]) .slc K) w:=by
 apply yE;have ho:Own 5 (w.alloc (.cells #[] 5)) w.heap.size (some ⟨w.heap.size,0,none⟩) 0 0 []:=Own.lit (cs:=#[]) (Nat.le_refl _) (by simp);have he:Ext w (w.alloc (.cells #[] 5)):=(Ext.refl w).alloc _;refine zam (c:=0) (n:=0) (m:=n) xE ho he.size (h.ext he) (uR bs) (by omega) (by omega) ?_;intro A' c' w' ho' hg _;rw[List.nil_append,Nat.zero_add]at ho';rw[Nat.zero_add];exact hK A' c' w' ho' (he.grown hg.grown (ho.row'))
theorem zdp {w:World} {A:Option Addr} {n c:Nat} {bs:List UInt8} (h:Sl w A n (bV bs)) (hn:n<=140737488355328):Calls prog 209 #[.slice A n c] w (Ret (Bytes w bs)):=by
 apply zmG;unfold S209;refine zg (fun hA=>?_) (fun hA=>?_)
 ·have hA:A=none:=by simpa using hA
  subst hA;have hn0:n=0:=by
   rcases Nat.eq_zero_or_pos n with h0|h0
   ·exact h0
   ·obtain⟨a,h1,_⟩:=h.2.2 h0;cases h1
  have hb:=h.blen;obtain rfl:bs=[]:=eq_nil_of_length_eq_zero (by omega);exact zfT (Own.nil _ _ _) (Ext.refl w)
 ·exact zpS h hn fun A' c' w' ho he=>zfT ho he
end V
/- Contracts of the package schema and of the document's answer (17). -/
namespace V
open Go Go.Proofs
abbrev Col:=ByteArray×Int×Bool
def xr:Enc Col where
 k:=3
 f c:=[.string c.1,.int .i64 c.2.1,.bool c.2.2]
 len _:=rfl
 one _:=by
  intro v hv
  simp only [mem_cons,not_mem_nil,or_false]at hv
  rcases hv with rfl|rfl|rfl<;>rfl
 pos:=by omega
def letter (c:Nat):Bool:=(97<=c&&c<=122)||(65<=c&&c<=90)||c==95
def digit (c:Nat):Bool:=48<=c&&c<=57
def xq (i c:Nat):Bool:=letter c||(decide (0<i)&&digit c)
theorem ur {i c:Nat}:xq i c=true↔(97<=c/\c<=122)\/(65<=c/\c<=90)\/c=95\/(0<i/\48<=c/\c<=57):=by
 simp only [xq,letter,digit,Bool.or_eq_true,Bool.and_eq_true,decide_eq_true_eq,beq_iff_eq];omega
def zaY (s:List UInt8):Bool:=decide (1<=s.length/\s.length<=32/\∀ i,i<s.length->xq i (s.getD i 0).toNat=true)
def yz (s:List UInt8):Int:=if zaY s then 0 else 170
theorem zdq {s:List UInt8} (h:s.length<1):yz s=170:=by
 unfold yz zaY;rw[decide_eq_false (by omega)];rfl
theorem zeG {s:List UInt8} (h:32<s.length):yz s=170:=by
 unfold yz zaY;rw[decide_eq_false (by omega)];rfl
theorem zfU {s:List UInt8} {i:Nat} (hi:i<s.length) (h:xq i (s.getD i 0).toNat=false):yz s=170:=by
 unfold yz zaY;rw[decide_eq_false (fun hh=>by rw[hh.2.2 i hi]at h;cases h)];rfl
theorem zeH {s:List UInt8} (h1:1<=s.length) (h2:s.length<=32) (h:∀ i,i<s.length->xq i (s.getD i 0).toNat=true):yz s=0:=by
 unfold yz zaY;rw[decide_eq_true ⟨h1,h2,h⟩];rfl
theorem zbp (w:World) (s:ByteArray):Calls prog 110 #[.string s] w (Ret fun v w'=>v=.int .i64 (yz (B s))/\Ext w w'):=by
 apply zlL;unfold S110;have hsz:=zP s;refine zg (fun h=>?_) (fun h1=>?_)
 ·exact⟨by rw[zdq (by have:=of_decide_eq_true h;omega)],Ext.refl w⟩
 refine zg (fun h=>?_) (fun h2=>?_)
 ·exact⟨by rw[zeG (by have:=of_decide_eq_true h;omega)],Ext.refl w⟩
 have h1:=of_decide_eq_false h1;have h2:=of_decide_eq_false h2;apply yE;refine⟨fun _ w'=>∃ pos,w'.heap[w.heap.size]?=some (.stringIter s pos)/\pos<=s.size/\Ext w w'/\∀ i,i<pos->xq i ((B s).getD i 0).toNat=true,
  fun _ w'=>match w'.heap[w.heap.size]? with|some (.stringIter s pos)=>s.size-pos|_=>0,⟨0,by show(w.heap.push _)[_]?=_;simp,by omega,(Ext.refl w).alloc _,fun i hi=>by omega⟩,?_⟩
 rintro _ w' ⟨pos,hb,hp,he,hok⟩;have hlt:=(Array.getElem?_eq_some_iff.1 hb).1;refine⟨s,pos,hb,fun hps=>?_,fun hps=>?_⟩
 ·have hgo:xq pos ((B s).getD pos 0).toNat=true->((B s).getD pos 0).toNat<128->(fun(_:Unit) w''=>(∃ pos,w''.heap[w.heap.size]?=some (.stringIter s pos)/\pos<=s.size/\Ext w w''/\∀ i,i<pos->xq i ((B s).getD i 0).toNat=true)/\
      (match w''.heap[w.heap.size]? with|some (.stringIter s pos)=>s.size-pos|_=>0)<(match w'.heap[w.heap.size]? with|some (.stringIter s pos)=>s.size-pos|_=>0)) () (yA w' w.heap.size (.stringIter s (pos+(Utf8.decode s pos).2))):=by
   intro hc hlo;have hd:=decode_ascii hps hlo;rw[hd];have hs:=xU (w:=w') (l:=w.heap.size) (o:=.stringIter s (pos+1)) hlt;refine⟨⟨pos+1,hs,by omega,he.yA (Nat.le_refl _) _,fun i hi=>?_⟩,?_⟩
   ·by_cases hip:i=pos
    ·subst hip;exact hc
    ·exact hok i (by omega)
   ·rw[hs,hb];simp only;omega
  have hw2:Ext w (yA w' w.heap.size (.stringIter s (pos+(Utf8.decode s pos).2))):=he.yA (Nat.le_refl _) _;have hbyte:((B s).getD pos 0).toNat<128/\(Utf8.decode s pos).1=((B s).getD pos 0).toNat\/¬((B s).getD pos 0).toNat<128/\128<=(Utf8.decode s pos).1:=by
   by_cases hlo:((B s).getD pos 0).toNat<128
   ·exact .inl ⟨hlo,by rw[decode_ascii hps hlo]⟩
   ·exact .inr ⟨hlo,zg0 hps hlo⟩
  have hbad:xq pos (Utf8.decode s pos).1=false->yz (B s)=170:=by
   intro hc;refine zfU (i:=pos) (by omega) ?_;rcases hbyte with ⟨h1,h2⟩|⟨h1,h2⟩
   ·rw[<- h2];exact hc
   ·rw[Bool.eq_false_iff];intro hh;rw[ur]at hh;omega
  have hgood:xq pos (Utf8.decode s pos).1=true->(fun(_:Unit) w''=>(∃ pos,w''.heap[w.heap.size]?=some (.stringIter s pos)/\pos<=s.size/\Ext w w''/\∀ i,i<pos->xq i ((B s).getD i 0).toNat=true)/\
    (match w''.heap[w.heap.size]? with|some (.stringIter s pos)=>s.size-pos|_=>0)<(match w'.heap[w.heap.size]? with|some (.stringIter s pos)=>s.size-pos|_=>0)) () (yA w' w.heap.size (.stringIter s (pos+(Utf8.decode s pos).2))):=by
   intro hc;rcases hbyte with ⟨h1,h2⟩|⟨h1,h2⟩
   ·exact hgo (by rw[<- h2];exact hc) h1
   ·rw[ur]at hc;omega
  clear hgo hbyte;generalize yA w' w.heap.size (.stringIter s (pos+(Utf8.decode s pos).2))=w2 at *;generalize (Utf8.decode s pos).1=c at *;refine zf rfl ?_;refine yi (fun _ w'=>xq pos c=false/\w'=w2) ?_ (fun J6 h6=>?_)
  ·rintro _ w3 ⟨hc,rfl⟩;exact⟨by rw[hbad hc],hw2⟩
  refine yi (fun(x:Bool×Unit) w'=>(x.1=true↔(97<=c/\c<=122)\/(65<=c/\c<=90)\/c=95)/\w'=w2) ?_ (fun J8 h8=>?_)
  ·rintro⟨b,_⟩ w3 ⟨hb',rfl⟩;simp only at hb';have ok:xq pos c=true↔b=true\/(0<pos/\48<=c/\c<=57):=by rw[ur,hb'];omega
   refine zg (fun h=>hgood (ok.2 (.inl h))) (fun hl=>?_);have hb2:¬b=true:=by simp[show b=false from hl]
   have no:¬(0<pos/\48<=c/\c<=57)->J6 () w3:=fun h=>h6 _ _ ⟨by rw[Bool.eq_false_iff,ne_eq,ok];rintro(h1|h1);exact hb2 h1;exact h h1,rfl⟩;refine zg (fun h1=>?_) (fun h1=>no (by have:=of_decide_eq_false h1;omega));refine zg (fun h2=>?_) (fun h2=>no (by have:=of_decide_eq_false h2;omega));refine zg (fun h3=>?_) (fun h3=>no (by have:=of_decide_eq_false h3;omega));have h1:=of_decide_eq_true h1;have h2:=of_decide_eq_true h2;have h3:=of_decide_eq_true h3;exact hgood (ok.2 (.inr ⟨by omega,by omega,by omega⟩))
  ·have hl:∀ b:Bool,(b=true↔(97<=c/\c<=122)\/(65<=c/\c<=90)\/c=95)->J8 (b,()) w2:=fun b hb=>h8 _ _ ⟨hb,rfl⟩;refine zg (fun ha=>?_) (fun ha=>?_)
   ·have ha:=of_decide_eq_true ha;refine zg (fun hb=>hl _ ?_) (fun hb=>?_)
    ·rw[decide_eq_true_eq];have hb:=of_decide_eq_true hb;omega
    ·have hb:=of_decide_eq_false hb;refine zg (fun h3=>?_) (fun h3=>?_)
     ·have h3:=of_decide_eq_true h3;refine zg (fun h4=>hl _ ?_) (fun h4=>hl _ ?_)
      ·rw[decide_eq_true_eq];have h4:=of_decide_eq_true h4;omega
      ·rw[beq_iff_eq];have h4:=of_decide_eq_false h4;omega
     ·exact hl _ (by rw[beq_iff_eq];have h3:=of_decide_eq_false h3;omega)
   ·have ha:=of_decide_eq_false ha;refine zg (fun h3=>?_) (fun h3=>?_)
    ·have h3:=of_decide_eq_true h3;refine zg (fun h4=>hl _ ?_) (fun h4=>hl _ ?_)
     ·rw[decide_eq_true_eq];have h4:=of_decide_eq_true h4;omega
     ·rw[beq_iff_eq];have h4:=of_decide_eq_false h4;omega
    ·exact hl _ (by rw[beq_iff_eq];have h3:=of_decide_eq_false h3;omega)
 ·obtain rfl:pos=s.size:=by omega
  refine zd rfl ?_;exact⟨by rw[zeH (by omega) (by omega) (fun i hi=>hok i (by omega))],he⟩
theorem zaD (w:World) (s:ByteArray):Calls prog 63 #[.string s] w (Ret fun v w'=>v=.int .i64 (yz (B s))/\Ext w w'):=by
 apply zoG;unfold S63;have hsz:=zP s;refine zg (fun h=>?_) (fun h1=>?_)
 ·exact⟨by rw[zdq (by have:=of_decide_eq_true h;omega)],Ext.refl w⟩
 refine zg (fun h=>?_) (fun h2=>?_)
 ·exact⟨by rw[zeG (by have:=of_decide_eq_true h;omega)],Ext.refl w⟩
 have h1:=of_decide_eq_false h1;have h2:=of_decide_eq_false h2;refine zu (fun x w'=>w'=w/\∃ i:Nat,i<=s.size/\x=((i:Int),())/\∀ k,k<i->xq k ((B s).getD k 0).toNat=true) (fun x=>(s.size-x.1).toNat) ⟨rfl,0,by omega,rfl,fun k hk=>by omega⟩ ?_;rintro _ _ ⟨rfl,i,hi,rfl,hok⟩;dsimp only;rename_i w2
 by_cases hlt:i<s.size
 ·refine zf (decide_eq_true (by omega)) ?_;rw[wrap_i64 (x:=(i:Int)+1) (by omega) (by omega)];have hbt:bt s (i:Int)=((((B s).getD i 0).toNat:Nat):Int):=by rw[zan (by omega) (by omega)];rfl
  rw[hbt];have hbad:xq i ((B s).getD i 0).toNat=false->yz (B s)=170:=zfU (by omega);have hgood:xq i ((B s).getD i 0).toNat=true->∀ k,k<i+1->xq k ((B s).getD k 0).toNat=true:=fun h k hk=>by
   by_cases hki:k=i
   ·subst hki;exact h
   ·exact hok k (by omega)
  generalize ((B s).getD i 0).toNat=c at *;refine yi (fun _ w'=>xq i c=true/\w'=w2) ?_ (fun J6 h6=>?_)
  ·rintro _ w3 ⟨hc,rfl⟩;exact⟨⟨rfl,i+1,by omega,rfl,hgood hc⟩,by omega⟩
  refine⟨⟨by omega,by omega⟩,?_⟩;refine yi (fun(x:Bool×Unit) w'=>(x.1=true↔48<=c/\c<=57)/\w'=w2) ?_ (fun J8 h8=>?_)
  ·rintro⟨d,_⟩ w3 ⟨hd,rfl⟩;simp only at hd;refine yi (fun(x:Bool×Unit) w'=>(x.1=true↔xq i c=false)/\w'=w3) ?_ (fun J7 h7=>?_)
   ·rintro⟨b,_⟩ w4 ⟨hb,rfl⟩;simp only at hb;refine zg (fun h=>⟨by rw[hbad (hb.1 h)],Ext.refl _⟩) (fun h=>h6 _ _ ⟨?_,rfl⟩);cases hc:xq i c with
    |true=>rfl
    |false=>rw[hb.2 hc]at h;cases h
   have ok:=@ur i c;have no:∀ b:Bool,(b=false↔(97<=c/\c<=122)\/(65<=c/\c<=90)\/c=95\/(0<i/\48<=c/\c<=57))->J7 (b,()) w3:=fun b hb=>by
    refine h7 (b,()) w3 ⟨?_,rfl⟩;show b=true↔xq i c=false;cases hc:xq i c with
    |true=>
     have:=hb.2 (ok.1 hc);rw[this];simp
    |false=>
     cases hbb:b with
     |true=>simp
     |false=>
      have:=ok.2 (hb.1 hbb);rw[hc]at this;cases this
   have tail:¬(97<=c/\c<=122)->¬(65<=c/\c<=90)->(za ((c:Int)==(95:Int)) (J7 (false,()))<|za d (J7 ((!(decide ((i:Int)>(0:Int)))),()))<|J7 (true,())) w3:=fun hn1 hn2=>by
    refine zg (fun h=>no _ ?_) (fun h=>?_)
    ·rw[beq_iff_eq]at h;simp only [true_iff];omega
    ·have h:¬((c:Int)=95):=by rw[beq_eq_false_iff_ne]at h;exact h
     refine zg (fun hdd=>no _ ?_) (fun hdd=>no _ ?_)
     ·have:=hd.1 hdd;rw[Bool.not_eq_false',decide_eq_true_eq];omega
     ·have:¬(48<=c/\c<=57):=fun hh=>by rw[hd.2 hh]at hdd;cases hdd
      simp only [Bool.true_eq_false,false_iff];omega
   refine zg (fun ha=>?_) (fun ha=>?_)
   ·have ha:=of_decide_eq_true ha;refine zg (fun hb=>no _ ?_) (fun hb=>?_)
    ·have hb:=of_decide_eq_true hb;simp only [true_iff];omega
    ·have hb:=of_decide_eq_false hb;refine zg (fun h3=>?_) (fun h3=>tail (by omega) (by have h3:=of_decide_eq_false h3;omega));have h3:=of_decide_eq_true h3;refine zg (fun h4=>no _ ?_) (fun h4=>tail (by omega) (by have h4:=of_decide_eq_false h4;omega));have h4:=of_decide_eq_true h4;simp only [true_iff];omega
   ·have ha:=of_decide_eq_false ha;refine zg (fun h3=>?_) (fun h3=>tail (by omega) (by have h3:=of_decide_eq_false h3;omega));have h3:=of_decide_eq_true h3;refine zg (fun h4=>no _ ?_) (fun h4=>tail (by omega) (by have h4:=of_decide_eq_false h4;omega));have h4:=of_decide_eq_true h4;simp only [true_iff];omega
  ·refine zg (fun ha=>?_) (fun ha=>?_)
   ·have ha:=of_decide_eq_true ha;exact h8 _ _ ⟨by rw[decide_eq_true_eq];omega,rfl⟩
   ·have ha:=of_decide_eq_false ha;exact h8 _ _ ⟨by simp only [Bool.false_eq_true,false_iff];omega,rfl⟩
 ·obtain rfl:i=s.size:=by omega
  refine zd (decide_eq_false (by omega)) ?_;exact⟨by rw[zeH (by omega) (by omega) (fun k hk=>hok k (by omega))],Ext.refl _⟩
theorem zg4 {w:World} {c:Col} {a:Addr} {s:ByteArray} (h:w.cell? a=some (.string s)):
  Calls prog 155 #[.agg #[.string c.1,.int .i64 c.2.1,.bool c.2.2],.pointer (some a)] w (Ret fun v w'=>v=.bool (decide (B c.1=B s))/\Ext w w'):=by
 apply zmb;unfold S155;apply yE;have he:Ext w (w.alloc (.cells #[(.string c.1),(.int .i64 c.2.1),(.bool c.2.2)] 62)):=(Ext.refl w).alloc _;have hb:Blk (w.alloc (.cells #[(.string c.1),(.int .i64 c.2.1),(.bool c.2.2)] 62)) w.heap.size [(.string c.1),(.int .i64 c.2.1),(.bool c.2.2)] 62:=Blk.new w _ _;refine zo hb (by rfl) ?_;refine zaC (he.cell h) ?_;exact⟨by rw[x6],he⟩
def Tests (g:FuncId):Prop:=∀ (w:World) (c:Col) (a:Addr) (s:ByteArray),w.cell? a=some (.string s)->
  Calls prog g #[.agg #[.string c.1,.int .i64 c.2.1,.bool c.2.2],.pointer (some a)] w (Ret fun v w'=>v=.bool (decide (B c.1=B s))/\Ext w w')
def ke (s:ByteArray) (cs:List Col):Nat:=cs.findIdx fun c=>decide (B c.1=B s)
theorem zg5 {w:World} {A:Option Addr} {n c:Nat} {cs:List Col} {g:FuncId} {a:Addr} {s:ByteArray} (hg:enterable prog g=true) (ht:Tests g) (h:Sli xr w A n cs) (ha:w.cell? a=some (.string s)):
  Calls prog 195 #[.slice A n c,.func (.func g) #[] #[.pointer (some a)]] w (Ret fun v w'=>v=.int .i64 (if ke s cs<n then (ke s cs:Int) else -1)/\Ext w w'):=by
 apply zmw;unfold S195;have hl:=h.len;have hle:=h.le;refine zu (fun x w'=>Ext w w'/\∃ i:Nat,i<=n/\x=((i:Int),())/\i<=ke s cs) (fun x=>(n-x.1).toNat) ⟨Ext.refl w,0,by omega,rfl,by omega⟩ ?_;rintro _ w' ⟨he,i,hi,rfl,hf⟩;dsimp only
 by_cases hlt:i<n
 ·refine zf (decide_eq_true (by omega)) ?_;have hx:cs[i]?=some cs[i]:=List.getElem?_eq_getElem (by omega);refine xY (h.ext he) (by omega) (x:=cs[i]) (by simp) rfl ?_;intro p hp hc;refine qC (ls:=[.str,(.int .i64),.bool]) (x:=(cs[i].1,cs[i].2.1,cs[i].2.2,())) hc ?_;refine qf hg ?_;refine zb (ht w' cs[i] a s (he.cell ha)) ?_;rintro _ w1 ⟨rfl,he1⟩;refine⟨_,rfl,?_⟩;refine zg (fun hd=>?_) (fun hd=>?_)
  ·have hfi:ke s cs=i:=by
    have h1:ke s cs<=i:=by
     rcases Nat.lt_or_ge i (ke s cs) with h1|h1
     ·have:=List.not_of_lt_findIdx h1;rw[hd]at this;cases this
     ·exact h1
    omega
   refine⟨?_,he.trans he1⟩;rw[hfi,if_pos hlt]
  ·rw[wrap_i64 (by omega) (by omega)];refine⟨⟨he.trans he1,i+1,by omega,rfl,?_⟩,by omega⟩;rcases Nat.lt_or_ge i (ke s cs) with h1|h1
   ·omega
   ·have hfi:ke s cs=i:=by omega
    have h2:ke s cs<cs.length:=by omega
    have:=List.findIdx_getElem (p:=fun c:Col=>decide (B c.1=B s)) (xs:=cs) (w:=h2);have h3:decide (B cs[i].1=B s)=true:=by
     have e:cs[ke s cs]=cs[i]:=by congr 1
     rw[<- e];exact this
    rw[h3]at hd;cases hd
 ·obtain rfl:i=n:=by omega
  refine zd (decide_eq_false (by omega)) ?_;exact⟨by rw[if_neg (by omega)],he⟩
theorem zeI {w:World} {A:Option Addr} {n c:Nat} {cs:List Col} {g:FuncId} {a:Addr} {s:ByteArray} (hg:enterable prog g=true) (ht:Tests g) (h:Sli xr w A n cs) (ha:w.cell? a=some (.string s)):
  Calls prog 154 #[.slice A n c,.func (.func g) #[] #[.pointer (some a)]] w (Ret fun v w'=>v=.bool (cs.any fun c=>decide (B c.1=B s))/\Ext w w'):=by
 apply zma;unfold S154;refine zb (zg5 hg ht h ha) ?_;rintro _ w1 ⟨rfl,he1⟩;refine⟨_,rfl,?_,he1⟩;have hl:=h.len;congr 1;rw[Bool.eq_iff_iff,decide_eq_true_iff,List.any_eq_true];have:=List.findIdx_lt_length (p:=fun c:Col=>decide (B c.1=B s)) (xs:=cs);rw[<- this,hl];show((if ke s cs<n then (ke s cs:Int) else -1)>=0)↔ke s cs<n;split<;>omega
def qg:List Col->List Col->Int
 |_,[]=>0
 |pre,c::r=>if yz (B c.1)≠0 then 170 else if c.2.1<1\/c.2.1>3\/(pre.any fun d=>decide (B d.1=B c.1))=true then 171 else qg (pre++[c]) r
def yL (cs:List Col):Int:=if cs.length<1\/cs.length>16 then 171 else qg [] cs
theorem zii (s:List UInt8):yz s=0\/yz s=170:=by unfold yz;split<;>simp
theorem uU {w:World} {A:Option Addr} {n c:Nat} {cs:List Col} (h:Sli xr w A n cs) (hc:n<=c):
  Calls prog 106 #[.slice A n c] w (Ret fun v w'=>v=.int .i64 (yL cs)/\Ext w w'):=by
 apply zlH;unfold S106 yL;have hl:=h.len;refine zg (fun h1=>?_) (fun h1=>?_)
 ·have h1:=of_decide_eq_true h1;rw[if_pos (by omega)];exact⟨rfl,Ext.refl w⟩
 refine zg (fun h2=>?_) (fun h2=>?_)
 ·have h2:=of_decide_eq_true h2;rw[if_pos (by omega)];exact⟨rfl,Ext.refl w⟩
 have h1:=of_decide_eq_false h1;have h2:=of_decide_eq_false h2;rw[if_neg (by omega)];refine zu (fun x w'=>Ext w w'/\∃ i:Nat,i<=n/\x=((i:Int),())/\qg [] cs=qg (cs.take i) (cs.drop i)) (fun x=>(n-x.1).toNat) ⟨Ext.refl w,0,by omega,rfl,by simp⟩ ?_;rintro _ w' ⟨he,i,hi,rfl,hf⟩;dsimp only
 by_cases hlt:i<n
 ·refine zf (decide_eq_true (by omega)) ?_;obtain⟨col,hcol⟩:∃ col,col=cs[i]:=⟨_,rfl⟩;have hdrop:cs.drop i=col::cs.drop (i+1):=by rw[hcol];exact drop_eq_getElem_cons (by omega)
  have htake:cs.take (i+1)=cs.take i++[col]:=by rw[hcol];exact take_succ_eq_append_getElem (by omega)
  have hx:cs[Int.toNat (i:Int)]?=some col:=by rw[hcol];simp
  rw[hdrop,qg]at hf;refine xY (h.ext he) (by omega) hx rfl ?_;intro p hp hcell;refine qC (ls:=[.str,(.int .i64),.bool]) (x:=(col.1,col.2.1,col.2.2,())) hcell ?_;refine yt (vs:=[(.string col.1),(.int .i64 col.2.1),(.bool col.2.2)]) (by rfl) (xr.one col) ?_ (by rfl);intro r w1 hb he1 hr;refine zo hb (by rfl) ?_;refine zb (zbp w1 col.1) ?_;rintro _ w2 ⟨rfl,he2⟩;refine⟨_,rfl,?_⟩;have hb2:=hb.ext he2;have he02:=(he.trans he1).trans he2;refine zg (fun hn=>?_) (fun hn=>?_)
  ·have hn:yz (B col.1)≠0:=by simpa using hn
   rw[hf,if_pos hn];rcases zii (B col.1) with h0|h0
   ·exact absurd h0 hn
   ·exact⟨by rw[h0],he02⟩
  have hn:yz (B col.1)=0:=by simpa using hn
  rw[if_neg (by simp[hn])]at hf;refine xj (o:=1) hb2 (by rfl) ?_;refine zg (fun hk=>?_) (fun hk=>?_)
  ·have hk:=of_decide_eq_true hk;rw[hf,if_pos (.inl hk)];exact⟨rfl,he02⟩
  have hk:=of_decide_eq_false hk;refine xj (o:=1) hb2 (by rfl) ?_;refine zg (fun hk2=>?_) (fun hk2=>?_)
  ·have hk2:=of_decide_eq_true hk2;rw[hf,if_pos (.inr (.inl hk2))];exact⟨rfl,he02⟩
  have hk2:=of_decide_eq_false hk2;refine⟨⟨by omega,by omega⟩,?_⟩;rw[Int.toNat_natCast];have hcut:=(h.zfl (k:=i) (m:=c) (z:=3) rfl (by omega) (by omega)).ext he02;have hcell2:w2.cell? ⟨r,0,none⟩=some (.string col.1):=by rw[hb2.cell];rfl
  refine zb (zeI (s:=col.1) (g:=155) (by kernel_rfl) (fun w c a s h=>zg4 h) hcut hcell2) ?_;rintro _ w3 ⟨rfl,he3⟩;refine⟨_,rfl,?_⟩;refine zg (fun hd=>?_) (fun hd=>?_)
  ·rw[hf,if_pos (.inr (.inr hd))];exact⟨rfl,he02.trans he3⟩
  ·rw[if_neg (by
    rintro(h3|h3|h3)
    ·exact hk h3
    ·exact hk2 h3
    ·rw[h3]at hd;cases hd)]at hf
   rw[wrap_i64 (by omega) (by omega)];exact⟨⟨he02.trans he3,i+1,by omega,rfl,by rw[htake];exact hf⟩,by omega⟩
 ·obtain rfl:i=n:=by omega
  refine zd (decide_eq_false (by omega)) ?_;rw[drop_of_length_le (by omega)]at hf;exact⟨by rw[hf];rfl,he⟩
def jS (cs:List Col):Bool:=decide (cs.length<=20)&&cs.all fun c=>decide ((B c.1).length<=60)
theorem zeJ {w:World} {A:Option Addr} {n c:Nat} {cs:List Col} (h:Sli xr w A n cs):
  Calls prog 39 #[.slice A n c] w (Ret fun v w'=>v=.bool (jS cs)/\Ext w w'):=by
 apply zoj;unfold S39;have hl:=h.len;have hle:=h.le;refine zu (fun x w'=>w'=w/\∃ i:Nat,i<=n/\x=((i:Int),())/\∀ k c,k<i->cs[k]?=some c->(B c.1).length<=60) (fun x=>(n-x.1).toNat) ⟨rfl,0,by omega,rfl,fun k c hk=>by omega⟩ ?_;rintro _ _ ⟨rfl,i,hi,rfl,hf⟩;dsimp only
 by_cases hlt:i<n
 ·refine zf (decide_eq_true (by omega)) ?_;obtain⟨col,hcol⟩:∃ col,col=cs[i]:=⟨_,rfl⟩;have hx:cs[i]?=some col:=by rw[hcol];exact List.getElem?_eq_getElem (by omega)
  refine xY h (by omega) (x:=col) (by simpa using hx) rfl ?_;intro p hp hcell;refine zaC (by have:=hcell.1;rw[add_zero]at this;exact this) ?_;have hs:=zP col.1;refine zg (fun hb=>?_) (fun hb=>?_)
  ·have hb:=of_decide_eq_true hb;refine⟨?_,Ext.refl _⟩;congr 1
   symm
   unfold jS;rw[Bool.and_eq_false_iff];right;rw[Bool.eq_false_iff,ne_eq,all_eq_true];intro hall;have:=of_decide_eq_true (hall col (mem_of_getElem? hx));omega
  ·have hb:=of_decide_eq_false hb;rw[wrap_i64 (by omega) (by omega)];refine⟨⟨rfl,i+1,by omega,rfl,fun k c hk hc=>?_⟩,by omega⟩
   by_cases hki:k=i
   ·subst hki;rw[hx]at hc;injection hc with hc
    subst hc;omega
   ·exact hf k c (by omega) hc
 ·obtain rfl:i=n:=by omega
  refine zd (decide_eq_false (by omega)) ?_;refine⟨?_,Ext.refl _⟩;congr 1;unfold jS;have hall:(cs.all fun c=>decide ((B c.1).length<=60))=true:=by
   rw[all_eq_true];intro c hc;obtain⟨k,hk,rfl⟩:=mem_iff_getElem.1 hc;exact decide_eq_true (hf k _ (by omega) (List.getElem?_eq_getElem hk))
  rw[hall,Bool.and_true,hl];exact decide_eq_decide.2 (by omega)
def zbq (c:Col):Prop:=yz (B c.1)=0/\1<=c.2.1/\c.2.1<=3
theorem zcn:∀ (r pre:List Col),qg pre r=0->∀ c∈r,zbq c
 |[],_,_,c,hc=>by cases hc
 |d::r,pre,h,c,hc=>by
  unfold qg at h;split at h
  ·cases h
  ·rename_i h1;split at h
   ·cases h
   ·rename_i h2;rcases mem_cons.1 hc with rfl|hc
    ·have:¬(c.2.1<1\/c.2.1>3):=fun hh=>h2 (by rcases hh with hh|hh;exact .inl hh;exact .inr (.inl hh));exact⟨by omega,by omega,by omega⟩
    ·exact zcn r _ h c hc
theorem zao {cs:List Col} (h:yL cs=0):(1<=cs.length/\cs.length<=16)/\qg [] cs=0/\∀ c∈cs,zbq c:=by
 unfold yL at h;split at h
 ·cases h
 ·exact⟨by omega,h,zcn _ _ h⟩
theorem qh {s:List UInt8} (h:yz s=0):1<=s.length/\s.length<=32:=by
 unfold yz zaY at h;split at h
 ·rename_i hh;have:=of_decide_eq_true hh;exact⟨this.1,this.2.1⟩
 ·cases h
def xc (c:Col):UInt8:=if c.2.2 then UInt8.ofNat (c.2.1.toNat+128) else UInt8.ofNat c.2.1.toNat
def qH (c:Col):List UInt8:=xc c::UInt8.ofNat (B c.1).length::B c.1
def yq (cs:List Col):List UInt8:=UInt8.ofNat cs.length::cs.flatMap qH
theorem zij {c:Col} (h:zbq c):(qH c).length<=34:=by
 have:=qh h.1;simp[qH];omega
theorem vO:∀ {cs:List Col},(∀ c∈cs,zbq c)->(cs.flatMap qH).length<=cs.length*34
 |[],_=>by simp
 |c::r,h=>by
  have h1:=zij (h c mem_cons_self);have h2:=vO (cs:=r) (fun c hc=>h c (mem_cons_of_mem _ hc));simp only [flatMap_cons,length_append,length_cons];omega
def kA (cs:List Col):List UInt8×Int:=if yL cs=0 then (yq cs,0) else ([],yL cs)
theorem zg6 {w:World} {A:Option Addr} {n c:Nat} {cs:List Col} (h:Sli xr w A n cs) (hc:n<=c):
  Calls prog 40 #[.slice A n c] w (Ret fun v w'=>v=.tuple #[.string ⟨(kA cs).1.toArray⟩,.int .i64 (kA cs).2]/\Ext w w'):=by
 apply zok;unfold S40;have hl:=h.len;refine zb (uU h hc) ?_;rintro _ w1 ⟨rfl,he1⟩;refine⟨_,rfl,?_⟩;unfold kA;refine zg (fun hn=>?_) (fun hn=>?_)
 ·have hn:yL cs≠0:=by simpa using hn
  rw[if_neg hn];exact⟨rfl,he1⟩
 have hn:yL cs=0:=by simpa using hn
 rw[if_pos hn];obtain⟨hlen,_,hok⟩:=zao hn;apply yE;have e0:#[Value.int .u8 (wrap .u8 ((n:Nat):Int))]=(bV [UInt8.ofNat cs.length]).toArray:=by rw[yN,hl];rfl
 rw[e0];have ho0:Own 5 (w1.alloc (.cells (bV [UInt8.ofNat cs.length]).toArray 5)) w.heap.size (some ⟨w1.heap.size,0,none⟩) 1 1 (bV [UInt8.ofNat cs.length]):=Own.lit (cs:=(bV [UInt8.ofNat cs.length]).toArray) he1.size (by simp[bV]);have he2:=he1.alloc (.cells (bV [UInt8.ofNat cs.length]).toArray 5);generalize w1.alloc (.cells (bV [UInt8.ofNat cs.length]).toArray 5)=w2 at ho0 he2 ⊢;refine zu (fun x w'=>Ext w w'/\∃ (i:Nat) (A':Option Addr) (m c':Nat),i<=n/\x=((A',m,c'),(i:Int),())/\Own 5 w' w.heap.size A' m c' (bV (UInt8.ofNat cs.length::(cs.take i).flatMap qH))) (fun x=>(n-x.2.1).toNat) ⟨he2,0,_,1,1,by omega,rfl,by simpa using ho0⟩ ?_;rintro _ w' ⟨he,i,A',m,c',hi,rfl,ho⟩;dsimp only;have hm:=ho.sl.blen;have hlb:(UInt8.ofNat cs.length::(cs.take i).flatMap qH).length<=600:=by
  have:=vO (cs:=cs.take i) (fun c hc=>hok c (List.mem_of_mem_take hc));have h2:(cs.take i).length<=16:=by simp;omega
  have:=Nat.mul_le_mul_right 34 h2;simp only [length_cons];omega
 by_cases hlt:i<n
 ·refine zf (decide_eq_true (by omega)) ?_;obtain⟨col,hcol⟩:∃ col,col=cs[i]:=⟨_,rfl⟩;have hmem:col∈cs:=by rw[hcol];exact getElem_mem _
  have htake:cs.take (i+1)=cs.take i++[col]:=by rw[hcol];exact take_succ_eq_append_getElem (by omega)
  have hx:cs[Int.toNat (i:Int)]?=some col:=by rw[hcol];simp
  obtain⟨hk0,hk1,hk2⟩:=hok col hmem;have hname:=qh hk0;have hns:=zP col.1;refine xY (h.ext he) (by omega) hx rfl ?_;intro p hp hcell;refine qC (ls:=[.str,(.int .i64),.bool]) (x:=(col.1,col.2.1,col.2.2,())) hcell ?_;refine yt (vs:=[(.string col.1),(.int .i64 col.2.1),(.bool col.2.2)]) (by rfl) (xr.one col) ?_ (by rfl);intro r w3 hb he3 hr;refine xj (o:=1) hb (by rfl) ?_;refine xj (o:=2) hb (by rfl) ?_;have tail:∀ (kb:Int),kb=((xc col).toNat:Int)->(zD<|
    ldW .str (aD r) fun(u15:ByteArray)=>
    ldW .str (aD r) fun(u16:ByteArray)=>
    zi (.cells #[(.int .u8 kb),(.int .u8 (wrap .u8 ((u15.size:Nat):Int)))] 5) fun(r17:Nat)=>
    zr [[((aD r),(.string u16))]]<|
    zv prog (Builtin.append_ #[85,85] 85 #[(.slice A' m c'),(.slice (some (aD r17)) 2 2)]) .slc fun(u18:SLC)=>
    zr [[((aD r),(.string u16))]]<|
    zv prog (Builtin.append_ #[85,9] 85 #[(.slice u18.1 u18.2.1 u18.2.2),(.string u16)]) .slc fun(u19:SLC)=>fun w'=>(Ext w w'/\∃ (i':Nat) (A':Option Addr) (m c':Nat),i'<=n/\(((u19.1,u19.2.1,u19.2.2),wrap .i64 ((i:Int)+1),()):SLC×Int×Unit)=((A',m,c'),(i':Int),())/\Own 5 w' w.heap.size A' m c' (bV (UInt8.ofNat cs.length::(cs.take i').flatMap qH)))/\(n-wrap .i64 ((i:Int)+1)).toNat<(n-(i:Int)).toNat) w3:=by
   rintro kb rfl;show(ldW _ _ _) w3.drew;have he3':Ext w' w3.drew:=he3.drew;have hb':Blk w3.drew r [(.string col.1),(.int .i64 col.2.1),(.bool col.2.2)] 62:=hb;generalize w3.drew=w4 at he3' hb' ⊢;refine zo hb' (by rfl) ?_;refine zo hb' (by rfl) ?_;rw[yN];have he4:=he.trans he3';have ho4:=ho.ext he3';have e1:(#[.int .u8 ((xc col).toNat:Int),.int .u8 ((UInt8.ofNat col.1.size).toNat:Int)]:Array Value)=(bV [xc col,UInt8.ofNat (B col.1).length]).toArray:=by rw[hns];rfl
   rw[e1];apply yE;have hblk:Blk (w4.alloc (.cells (bV [xc col,UInt8.ofNat (B col.1).length]).toArray 5)) w4.heap.size (bV [xc col,UInt8.ofNat (B col.1).length]) 5:=by simpa using Blk.new w4 (bV [xc col,UInt8.ofNat (B col.1).length]).toArray 5
   have hal:Ext w4 (w4.alloc (.cells (bV [xc col,UInt8.ofNat (B col.1).length]).toArray 5)):=(Ext.refl w4).alloc _;have held:∀ {w5:World} {K:WP},Blk w5 r [(.string col.1),(.int .i64 col.2.1),(.bool col.2.2)] 62->K w5->zr [[((aD r),(.string col.1))]] K w5:=fun {w5 K} hb hk=>⟨fun l hl p hp=>by
    simp only [mem_singleton]at hl
    subst hl
    simp only [mem_singleton]at hp
    subst hp
    rw[hb.cell]
    rfl,hk⟩
   have hb5:=hb'.ext hal;have ho5:=ho4.ext hal;have he5:=he4.trans hal;generalize w4.alloc (.cells (bV [xc col,UInt8.ofNat (B col.1).length]).toArray 5)=w5 at *;refine held hb5 ?_;refine zam xE ho5 he5.size (Sl.xX hblk rfl (by omega)) (uR _) (by omega) (by omega) ?_;intro A6 c6 w6 ho6 hg6 _;rw[<- xi]at ho6;have hrne:orow A'≠some r:=fun hh=>by
    have h1:=World.ownsRow.lt ho r (by rw[xC];exact hh);omega
   have hb6:Blk w6 r [(.string col.1),(.int .i64 col.2.1),(.bool col.2.2)] 62:=hb5.grown hg6.grown (fun hh=>hrne hh.symm);have he6:=he5.grown hg6.grown ho5.row';refine held hb6 ?_;dsimp only;have hm6:=ho6.sl.blen;refine ka xE (by kernel_rfl) ho6 he6.size (by omega) ?_;intro A7 c7 w7 ho7 hg7;have he7:=he6.grown hg7.grown ho6.row';rw[wrap_i64 (by omega) (by omega)];refine⟨⟨he7,i+1,A7,_,c7,by omega,rfl,?_⟩,by omega⟩;have e2:UInt8.ofNat cs.length::(cs.take (i+1)).flatMap qH=(UInt8.ofNat cs.length::(cs.take i).flatMap qH++[xc col,UInt8.ofNat (B col.1).length])++B col.1:=by
    rw[htake];simp[qH]
   rw[e2];exact ho7
  have hkn:wrap .u8 col.2.1=((col.2.1.toNat:Nat):Int):=by rw[wrap_u8];omega
  refine zg (fun hnull=>?_) (fun hnull=>?_)
  ·refine tail _ ?_;rw[hkn,show(128:Int)=((128:Nat):Int) from rfl,zfm (k:=.u8) rfl (by simp[IntKind.bits];omega) (by simp[IntKind.bits])];unfold xc;rw[hnull,if_pos rfl];have:col.2.1.toNat=1\/col.2.1.toNat=2\/col.2.1.toNat=3:=by omega
   rcases this with h|h|h<;>rw[h]<;>rfl
  ·refine tail _ ?_;rw[hkn];unfold xc;have:col.2.1.toNat=1\/col.2.1.toNat=2\/col.2.1.toNat=3:=by omega
   rw[hnull,if_neg (by simp)];rcases this with h|h|h<;>rw[h]<;>rfl
 ·obtain rfl:i=n:=by omega
  refine zd (decide_eq_false (by omega)) ?_;rw[take_of_length_le (by omega)]at ho;refine qa (e:=5) (by kernel_rfl) (by kernel_rfl) (by kernel_rfl) ho.sl ?_;exact⟨rfl,he⟩
end V
/- Columns and cells that came in,opened. -/
namespace V
open Go Go.ChangeShapes Go.WideShapes Go.ChangeAt Go.RowKit Go.Deep Go.Proofs
section
variable {H:Type} {enc:TypeId×Value->H} {w:World} {base:Nat} {spare:Nat->Bool} {held:Bool}
theorem zo9 {n:Nat} {cs:List Value} {x:DataW H×List MemPlace} (h:DataW.trod enc prog w base spare held n 62 cs=some x):∃ c:Col,xr.f c=cs/\(B c.1).length<=9223372036854775807:=by
 obtain⟨hl,m,hf⟩:=zjy (ts:=[9,3,4]) (by kernel_rfl) (by kernel_rfl) (by kernel_rfl) (by kernel_rfl) h;obtain⟨v0,y0,e0,h0⟩:=hf 0 _ rfl;obtain⟨v1,y1,e1,h1⟩:=hf 1 _ rfl;obtain⟨v2,y2,e2,h2⟩:=hf 2 _ rfl;obtain⟨s,hs,hsl⟩:=vc (by kernel_rfl) h0;obtain⟨z,hz,hzw⟩:=zaW (k:=.i64) (by kernel_rfl) h1;obtain⟨b,hb⟩:=zlG (by kernel_rfl) h2;cases hs;cases hz;cases hb;refine⟨(s,z,b),?_,by rw[<- zP];simpa [maxLen] using hsl⟩
 match cs,hl with
 |[a0,a1,a2],_=>
  simp only [List.getElem?_cons_zero,List.getElem?_cons_succ,Option.some.injEq]at e0 e1 e2;rw[e0,e1,e2];rfl
end
end V
/- Contracts of schema.Read and what goes with it. -/
namespace V
open Go Go.Proofs
theorem zg7:j9 prog 40 62 (.agg #[.string ByteArray.empty,.int .i64 0,.bool false]) xr.k 32:=by
 refine⟨by kernel_rfl,by kernel_rfl,rfl⟩
theorem zmQ:∀ x:Fin 256,iandn .u8 (x.val:Int) 128=((x.val % 128:Nat):Int):=by decide+kernel
theorem zpa:∀ x:Fin 256,((iand .u8 (x.val:Int) 128) !=0)=decide (128<=x.val):=by decide+kernel
def qZ (s:List UInt8):Option (Col×List UInt8):=
 if s.length<2\/s.length-2<(s.getD 1 0).toNat then none
 else some ((⟨((s.drop 2).take (s.getD 1 0).toNat).toArray⟩,(((s.getD 0 0).toNat % 128:Nat):Int),decide (128<=(s.getD 0 0).toNat)),s.drop (2+(s.getD 1 0).toNat))
def xo:Nat->List UInt8->Option (List Col×List UInt8)
 |0,s=>some ([],s)
 |n+1,s=>match qZ s with
  |none=>none
  |some (c,r)=>match xo n r with
   |none=>none
   |some (cs,r')=>some (c::cs,r')
def yf:List UInt8->Option (List Col×List UInt8)
 |[]=>none
 |b::r=>match xo b.toNat r with
  |none=>none
  |some (cs,r')=>if yL cs=0 then some (cs,r') else none
theorem zeK {n i:Nat} {r0 rest:List UInt8} {acc:List Col} (hi:i<n) {c:Col} {r:List UInt8} (hc:qZ rest=some (c,r))
  (h:xo n r0=(xo (n-i) rest).map fun p=>(acc++p.1,p.2)):xo n r0=(xo (n-(i+1)) r).map fun p=>((acc++[c])++p.1,p.2):=by
 rw[h,show n-i=(n-(i+1))+1 by omega,xo,hc];simp only;cases xo (n-(i+1)) r with
 |none=>rfl
 |some p=>simp
theorem zeL {n i:Nat} {r0 rest:List UInt8} {acc:List Col} (hi:i<n) (hc:qZ rest=none)
  (h:xo n r0=(xo (n-i) rest).map fun p=>(acc++p.1,p.2)):xo n r0=none:=by
 rw[h,show n-i=(n-(i+1))+1 by omega,xo,hc];rfl
abbrev RdT:=SLC×ByteArray×Int×Unit
def zgz (w:World) (R:Option (List Col×List UInt8)) (x:RdT) (w':World):Prop:=
 (match R with
  |none=>x=((none,0,0),⟨#[]⟩,171,())
  |some (cs,r)=>Owni xr 62 w' w.heap.size x.1.1 x.1.2.1 x.1.2.2 cs/\x.2.1=⟨r.toArray⟩/\x.2.2.1=0)/\Ext w w'
def zqu:Option (Col×List UInt8)->(ByteArray×Int×Bool×Unit)×ByteArray×Bool×Unit
 |none=>((ByteArray.empty,0,false,()),⟨#[]⟩,false,())
 |some (c,r)=>((c.1,c.2.1,c.2.2,()),⟨r.toArray⟩,true,())
theorem zkC (w:World) (s:ByteArray) (hsmall:s.size<=9223372036854775807):Calls prog 157 #[.string s] w (Ret fun v w'=>v=Rs.val (.many [.agg [.str,.int .i64,.bool],.one .str,.one .bool]) (zqu (qZ (B s)))/\Ext w w'):=by
 apply zmd;unfold S157;have hsz:=zP s;apply yE;have hb:Blk (w.alloc (.cells #[(.string ByteArray.empty),(.int .i64 (0:Int)),(.bool false)] 62)) w.heap.size [(.string ByteArray.empty),(.int .i64 (0:Int)),(.bool false)] 62:=Blk.new w _ _;have he:Ext w (w.alloc (.cells #[(.string ByteArray.empty),(.int .i64 (0:Int)),(.bool false)] 62)):=(Ext.refl w).alloc _;have hB:w.heap.size<=w.heap.size:=Nat.le_refl _;generalize w.alloc (.cells #[(.string ByteArray.empty),(.int .i64 (0:Int)),(.bool false)] 62)=w1 at hb he ⊢;generalize hbk:w.heap.size=blk at hb hB ⊢;have put:∀ {K:(ByteArray×Int×Bool×Unit)->WP} {w2:World} (c:Col),Blk w2 blk [(.string ByteArray.empty),(.int .i64 (0:Int)),(.bool false)] 62->Ext w w2->(∀ w',Ext w w'->K (c.1,c.2.1,c.2.2,()) w')->
   (zc ((#[(.string c.1),(.int .i64 c.2.1),(.bool c.2.2)]:Array Value).size=3)<|
   zt (aD blk) [(.string c.1),(.int .i64 c.2.1),(.bool c.2.2)]<|
   zl [.str,(.int .i64),.bool] (aD blk) K) w2:=by
  intro K w2 c hb2 he2 hK;refine⟨rfl,hb2.qL _ 0 (by simp) (xr.one c),?_⟩;have hb3:=hb2.setCells [(.string c.1),(.int .i64 c.2.1),(.bool c.2.2)] rfl;exact zaV (ls:=[.str,(.int .i64),.bool]) (x:=(c.1,c.2.1,c.2.2,())) hb3 rfl (hK _ (he2.setCells (by rw[hbk];exact hB) _ _))
 refine zg (fun h=>?_) (fun h1=>?_)
 ·have hn:qZ (B s)=none:=by
   have:=of_decide_eq_true h;unfold qZ;rw[if_pos (.inl (by omega))]
  rw[hn];exact put (ByteArray.empty,0,false) hb he (fun w' he'=>⟨rfl,he'⟩)
 have h1:=of_decide_eq_false h1;refine⟨⟨by omega,by omega⟩,?_⟩;have hb1:bt s 1=(((B s).getD 1 0).toNat:Int):=by rw[zan (by omega) (by omega)];rfl
 have hb0:bt s 0=(((B s).getD 0 0).toNat:Int):=by rw[zan (by omega) (by omega)];rfl
 have hl1:=((B s).getD 1 0).toNat_lt;have hl0:=((B s).getD 0 0).toNat_lt;rw[hb1,hb0];rw[wrap_i64 (x:=(s.size:Int)-2) (by omega) (by omega),wrap_i64 (x:=(((B s).getD 1 0).toNat:Int)) (by omega) (by omega),wrap_i64 (x:=2+(((B s).getD 1 0).toNat:Int)) (by omega) (by omega)];refine zg (fun h2=>?_) (fun h2=>?_)
 ·have hn:qZ (B s)=none:=by
   have:=of_decide_eq_true h2;unfold qZ;rw[if_pos (.inr (by omega))]
  rw[hn];exact put (ByteArray.empty,0,false) hb he (fun w' he'=>⟨rfl,he'⟩)
 have h2:=of_decide_eq_false h2;refine⟨⟨by omega,by omega⟩,?_⟩;have he':=he.drew;have hb':=hb.drew;show(zc _ _) w1.drew;generalize w1.drew=w2 at he' hb' ⊢;refine⟨⟨by omega,by omega,by omega⟩,⟨by omega,by omega⟩,⟨by omega,by omega⟩,⟨by omega,by omega⟩,?_⟩;have hs:qZ (B s)=some ((⟨(((B s).drop 2).take ((B s).getD 1 0).toNat).toArray⟩,((((B s).getD 0 0).toNat % 128:Nat):Int),decide (128<=((B s).getD 0 0).toNat)),(B s).drop (2+((B s).getD 1 0).toNat)):=by
  unfold qZ;rw[if_neg (by omega)]
 rw[hs];have i1:=zmQ ⟨((B s).getD 0 0).toNat,hl0⟩;have i2:=zpa ⟨((B s).getD 0 0).toNat,hl0⟩;simp only at i1 i2;rw[i1,i2,wrap_i64 (x:=((((B s).getD 0 0).toNat % 128:Nat):Int)) (by omega) (by omega)];have ex1:s.extract (Int.toNat 2) (Int.toNat (2+(((B s).getD 1 0).toNat:Int)))=⟨(((B s).drop 2).take ((B s).getD 1 0).toNat).toArray⟩:=by
  apply jy;rw[xT,qo];congr 1;omega
 have ex2:s.extract (Int.toNat (2+(((B s).getD 1 0).toNat:Int))) s.size=⟨((B s).drop (2+((B s).getD 1 0).toNat)).toArray⟩:=by
  apply jy;rw[xT,show(2+(((B s).getD 1 0).toNat:Int)).toNat=2+((B s).getD 1 0).toNat by omega];show _=(B s).drop (2+((B s).getD 1 0).toNat);exact take_of_length_le (by simp;omega)
 rw[ex1,ex2];exact put (⟨(((B s).drop 2).take ((B s).getD 1 0).toNat).toArray⟩,((((B s).getD 0 0).toNat % 128:Nat):Int),decide (128<=((B s).getD 0 0).toNat)) hb' he' (fun w' he'=>⟨rfl,he'⟩)
def zeM (a b:Col):Bool:=decide (B a.1=B b.1)&&(a.2.1==b.2.1&&(a.2.2==b.2.2&&true))
theorem zfV {a b:Col}:zeM a b=true↔a=b:=by
 unfold zeM;simp only [Bool.and_eq_true,decide_eq_true_eq,beq_iff_eq,and_true];constructor
 ·rintro⟨h1,h2,h3⟩;exact Prod.ext (jy h1) (Prod.ext h2 h3)
 ·rintro rfl;exact⟨rfl,rfl,rfl⟩
theorem zjz (w:World) (a b:Col):(Op.eqFields 9999 #[.string a.1,.int .i64 a.2.1,.bool a.2.2] #[.string b.1,.int .i64 b.2.1,.bool b.2.2] (prog.fieldsOf 62).toList).run prog w=.ok (zeM a b) w:=by
 have hf:(prog.fieldsOf 62).toList=[(prog.fieldsOf 62).getD 0 default,(prog.fieldsOf 62).getD 1 default,(prog.fieldsOf 62).getD 2 default]:=by kernel_rfl
 rw[hf];unfold zeM;rw[<- x6];refine qk (of_decide_eq_true (by kernel_rfl)) (a:=.string a.1) (b:=.string b.1) (by kernel_rfl) (by kernel_rfl) (run_equalIn_string w 9998 _ _ _ (by kernel_rfl)) ?_;refine qk (of_decide_eq_true (by kernel_rfl)) (a:=.int .i64 a.2.1) (b:=.int .i64 b.2.1) (by kernel_rfl) (by kernel_rfl) (run_equalIn_int w 9998 _ .i64 .i64 _ _ (by kernel_rfl)) ?_;refine qk (of_decide_eq_true (by kernel_rfl)) (a:=.bool a.2.2) (b:=.bool b.2.2) (by kernel_rfl) (by kernel_rfl) (run_equalIn_bool' w 9998 _ _ _ (by kernel_rfl)) ?_;rfl
theorem zpb (w:World) (a b:Col) (x y:Operand):(eqS .neq 62 x y (.agg #[.string a.1,.int .i64 a.2.1,.bool a.2.2]) (.agg #[.string b.1,.int .i64 b.2.1,.bool b.2.2])).run prog w=.ok (.bool (!(zeM a b))) w:=
 zfn (by kernel_rfl) (by kernel_rfl) (by kernel_rfl) (zjz w a b)
theorem zik {w:World} {s:ByteArray} (hsmall:s.size<=9223372036854775807):Calls prog 109 #[.string s] w (Ret fun v w'=>∃ x:RdT,v=Rs.val (.many [.one .slc,.one .str,.one (.int .i64)]) x/\zgz w (yf (B s)) x w'):=by
 apply zlK;unfold S109;have hsz:=zP s;have none_:∀ {w'},yf (B s)=none->Ext w w'->∃ x:RdT,Value.tuple #[(.slice none 0 0),(.string (ByteArray.mk #[])),(.int .i64 (171:Int))]=Rs.val (.many [.one .slc,.one .str,.one (.int .i64)]) x/\zgz w (yf (B s)) x w':=fun {w'} h he=>⟨((none,0,0),⟨#[]⟩,171,()),rfl,by rw[h];exact⟨rfl,he⟩⟩;refine zg (fun h=>?_) (fun h=>?_)
 ·rw[x6]at h;have hB:B s=[]:=of_decide_eq_true h;exact none_ (by rw[hB];rfl) (Ext.refl w)
 rw[x6]at h;have hB:B s≠[]:=of_decide_eq_false h;obtain⟨b,r0,hs⟩:∃ b r0,B s=b::r0:=by
  cases hh:B s with
  |nil=>exact absurd hh hB
  |cons b r=>exact⟨b,r,rfl⟩
 have hl:(B s).length=r0.length+1:=by rw[hs];rfl
 have he0:Ext w w.drew:=(Ext.refl w).drew;show(zc _ _) w.drew;generalize w.drew=w0 at he0 ⊢;refine⟨⟨by omega,by omega⟩,⟨by omega,by omega⟩,?_⟩;have hb0:bt s 0=(b.toNat:Int):=by rw[zan (by omega) (by omega),hs];rfl
 have hlt:=b.toNat_lt;rw[hb0,wrap_i64 (by omega) (by omega)];have ex:s.extract (Int.toNat 1) s.size=⟨r0.toArray⟩:=by
  apply jy;rw[xT,hs];show _=r0;exact take_of_length_le (by simp;omega)
 rw[ex];refine zu (fun x w'=>Ext w w'/\∃ (i:Nat) (acc:List Col) (rest:ByteArray) (A:Option Addr) (m c:Nat),i<=b.toNat/\x=((A,m,c),rest,(i:Int),())/\Owni xr 62 w' w.heap.size A m c acc/\acc.length=i/\rest.size<=9223372036854775807/\xo b.toNat r0=(xo (b.toNat-i) (B rest)).map fun p=>(acc++p.1,p.2))
  (fun x=>(b.toNat-x.2.2.1).toNat) ⟨he0,0,[],⟨r0.toArray⟩,none,0,0,by omega,rfl,Owni.nil _ _ _,rfl,by rw[zP,qo];omega,by rw[qo,Nat.sub_zero];cases xo b.toNat r0<;>simp⟩ ?_
 rintro _ w' ⟨he,i,acc,rest,A,m,c,hi,rfl,ho,hacc,hrs,hrd⟩;dsimp only;have hm:=ho.len
 by_cases hlt:i<b.toNat
 ·refine zf (decide_eq_true (by omega)) ?_;refine zb (zkC w' rest hrs) ?_;rintro _ w1 ⟨rfl,he1⟩;refine⟨_,rfl,?_⟩;cases hcol:qZ (B rest) with
  |none=>
   refine yt (vs:=[(.string ByteArray.empty),(.int .i64 (0:Int)),(.bool false)]) (by rfl) (xr.one (ByteArray.empty,0,false)) ?_ (by rfl);intro r w2 hb he2 hr;refine zf (by rfl) ?_;refine none_ ?_ ((he.trans he1).trans he2);rw[hs,yf,zeL hlt hcol hrd]
  |some p=>
   obtain⟨col,rest'⟩:=p;refine yt (vs:=[(.string col.1),(.int .i64 col.2.1),(.bool col.2.2)]) (by rfl) (xr.one col) ?_ (by rfl);intro r w2 hb he2 hr;refine zd (by rfl) ?_;refine zaV (ls:=[.str,(.int .i64),.bool]) (x:=(col.1,col.2.1,col.2.2,())) hb rfl ?_;have he02:=(he.trans he1).trans he2;refine yG (E:=xr) (ys:=[col]) (by rfl) rfl zg7 (ho.ext (he1.trans he2)) he02.size (by omega) (by omega) ?_;intro A3 c3 w3 ho3 hg3;dsimp only;rw[wrap_i64 (by omega) (by omega)];have hrl:rest'.length<=(B rest).length:=by
    unfold qZ at hcol;split at hcol
    ·cases hcol
    ·injection hcol with hcol
     injection hcol with _ hcol
     rw[<- hcol];simp
   refine⟨⟨he02.grown hg3.grown (ho.ext (he1.trans he2)).row,i+1,acc++[col],⟨rest'.toArray⟩,A3,_,c3,by omega,rfl,ho3,by simp[hacc],?_,?_⟩,by omega⟩
   ·rw[zP,qo];have:=zP rest;omega
   ·rw[qo];exact zeK hlt hcol hrd
 ·obtain rfl:i=b.toNat:=by omega
  refine zd (decide_eq_false (by omega)) ?_;rw[Nat.sub_self]at hrd;have hrd2:xo b.toNat r0=some (acc,B rest):=by rw[hrd];simp[xo]
  refine zb (uU ho.sl (by have:=ho.le;omega)) ?_;rintro _ w1 ⟨rfl,he1⟩;refine⟨_,rfl,?_⟩;refine zg (fun hck=>?_) (fun hck=>?_)
  ·have hck:yL acc≠0:=by simpa using hck
   refine none_ ?_ (he.trans he1);rw[hs,yf,hrd2];simp only;rw[if_neg hck]
  ·have hck:yL acc=0:=by simpa using hck
   have hres:yf (B s)=some (acc,B rest):=by
    rw[hs,yf,hrd2];simp only;rw[if_pos hck]
   refine⟨((A,m,c),rest,0,()),rfl,?_⟩;rw[hres];exact⟨⟨ho.ext he1,rfl,rfl⟩,he.trans he1⟩
end V
/- Columns:plain;what is read of what was put (as in seat 17's L2). -/
namespace V
open Go Go.Proofs
theorem zkD {c:Col} (h:zbq c):(xc c).toNat=c.2.1.toNat+(if c.2.2 then 128 else 0):=by
 obtain⟨_,h1,h2⟩:=h;unfold xc;cases hc:c.2.2 with
 |true=>rw[if_pos rfl,if_pos rfl,UInt8.toNat_ofNat'];omega
 |false=>rw[if_neg (by simp),if_neg (by simp),UInt8.toNat_ofNat'];omega
theorem zkE {c:Col} (h:zbq c) (t:List UInt8):qZ (qH c++t)=some (c,t):=by
 have hn:=qh h.1;have hk:=zkD h;obtain⟨_,h1,h2⟩:=h;have hlen:(UInt8.ofNat (B c.1).length).toNat=(B c.1).length:=by rw[UInt8.toNat_ofNat'];omega
 have e:qH c++t=xc c::UInt8.ofNat (B c.1).length::(B c.1++t):=by simp[qH]
 rw[e];unfold qZ;have g0:(xc c::UInt8.ofNat (B c.1).length::(B c.1++t)).getD 0 0=xc c:=rfl;have g1:(xc c::UInt8.ofNat (B c.1).length::(B c.1++t)).getD 1 0=UInt8.ofNat (B c.1).length:=rfl;rw[g0,g1,hlen,hk,if_neg (by simp)];congr 1;refine Prod.ext (Prod.ext ?_ (Prod.ext ?_ ?_)) ?_
 ·apply jy;show((B c.1++t).take (B c.1).length)=B c.1;simp
 ·show((((c.2.1.toNat+if c.2.2 then 128 else 0) % 128:Nat)):Int)=c.2.1;split<;>omega
 ·show decide (128<=c.2.1.toNat+if c.2.2 then 128 else 0)=c.2.2;cases hc:c.2.2
  ·rw[if_neg (by simp),decide_eq_false (by omega)]
  ·rw[if_pos rfl,decide_eq_true (by omega)]
 ·show(xc c::UInt8.ofNat (B c.1).length::(B c.1++t)).drop (2+(B c.1).length)=t;rw[Nat.add_comm];show(B c.1++t).drop (B c.1).length=t;simp
theorem zeN:∀ {cs:List Col},(∀ c∈cs,zbq c)->∀ t,xo cs.length (cs.flatMap qH++t)=some (cs,t)
 |[],_,t=>rfl
 |c::r,h,t=>by
  rw[length_cons,flatMap_cons,append_assoc,xo,zkE (h c mem_cons_self)];simp only;rw[zeN (fun d hd=>h d (mem_cons_of_mem _ hd)) t]
theorem zil {cs:List Col} (h:yL cs=0) (t:List UInt8):yf (yq cs++t)=some (cs,t):=by
 obtain⟨hlen,_,hok⟩:=zao h;have hl:(UInt8.ofNat cs.length).toNat=cs.length:=by rw[UInt8.toNat_ofNat'];omega
 unfold yq;rw[List.cons_append,yf,hl,zeN hok t];simp only;rw[if_pos h]
theorem zkF {s:List UInt8} {c:Col} {r:List UInt8} (h:qZ s=some (c,r)):qH c++r=s:=by
 unfold qZ at h;split at h
 ·cases h
 rename_i h0
 match s,h0 with
 |[],h0=>exact absurd (.inl (by simp)) h0
 |[a],h0=>exact absurd (.inl (by simp)) h0
 |a::b::q,h0=>
  injection h with h
  injection h with h1 h2
  subst h1 h2;have g0:(a::b::q).getD 0 0=a:=rfl;have g1:(a::b::q).getD 1 0=b:=rfl;rw[g1]at h0;rw[g0,g1];have hb:=b.toNat_lt;have ha:=a.toNat_lt;have hle:b.toNat<=q.length:=by
   have:(a::b::q).length=q.length+2:=rfl;omega
  have e1:B (⟨(((a::b::q).drop 2).take b.toNat).toArray⟩:ByteArray)=q.take b.toNat:=rfl;unfold qH;simp only [e1];have e2:(q.take b.toNat).length=b.toNat:=by simp;omega
  have e3:UInt8.ofNat (q.take b.toNat).length=b:=by rw[e2];apply UInt8.toNat_inj.1;rw[UInt8.toNat_ofNat'];omega
  rw[e3];have e4:xc ((⟨(((a::b::q).drop 2).take b.toNat).toArray⟩,((a.toNat % 128:Nat):Int),decide (128<=a.toNat)):Col)=a:=by
   unfold xc;simp only;apply UInt8.toNat_inj.1;split<;>rename_i hh
   ·have:=of_decide_eq_true hh;rw[UInt8.toNat_ofNat',Int.toNat_natCast];omega
   ·have:=of_decide_eq_false (Bool.eq_false_iff.2 hh);rw[UInt8.toNat_ofNat',Int.toNat_natCast];omega
  rw[e4];have e5:(a::b::q).drop (2+b.toNat)=q.drop b.toNat:=by rw[Nat.add_comm];rfl
  rw[e5];simp
theorem zfW:∀ {n:Nat} {s:List UInt8} {cs:List Col} {r:List UInt8},xo n s=some (cs,r)->cs.length=n/\cs.flatMap qH++r=s
 |0,s,cs,r,h=>by
  injection h with h;injection h with h1 h2;subst h1 h2;exact⟨rfl,rfl⟩
 |n+1,s,cs,r,h=>by
  unfold xo at h;split at h
  ·cases h
  rename_i c q hc;split at h
  ·cases h
  rename_i cs' r' hr;injection h with h;injection h with h1 h2;subst h1 h2
  obtain⟨h3,h4⟩:=zfW hr;refine⟨by simp[h3],?_⟩;rw[flatMap_cons,append_assoc,h4];exact zkF hc
theorem zap {s:List UInt8} {cs:List Col} {r:List UInt8} (h:yf s=some (cs,r)):yL cs=0/\yq cs++r=s:=by
 cases s with
 |nil=>cases h
 |cons b q=>
  rw[yf]at h;cases hr:xo b.toNat q with
  |none=>rw[hr]at h;cases h
  |some p=>
   obtain⟨cs',r'⟩:=p;rw[hr]at h;simp only at h
   by_cases hc:yL cs'=0
   ·rw[if_pos hc]at h;injection h with h;injection h with h1 h2;subst h1 h2
    obtain⟨h3,h4⟩:=zfW hr;refine⟨hc,?_⟩;unfold yq;rw[h3,List.cons_append,h4];congr 1;apply UInt8.toNat_inj.1;have:=b.toNat_lt;rw[UInt8.toNat_ofNat'];omega
   ·rw[if_neg hc]at h;cases h
theorem zbV {cs:List Col} (h:yL cs=0):1<=(yq cs).length/\(yq cs).length<=600:=by
 obtain⟨hlen,_,hok⟩:=zao h;have h1:=vO hok;have:=Nat.mul_le_mul_right 34 hlen.2;simp only [yq,length_cons];omega
theorem zgl {cs:List Col} (h:jS cs=true):cs.length<=20:=by
 unfold jS at h;rw[Bool.and_eq_true]at h;exact of_decide_eq_true h.1
end V
/- Writing in place:appends within a row's room,copies. -/
namespace V
open Go Go.RowKit
theorem zaZ (b o:Nat):∀ (vs:List Value) (i:Nat) (w:World),setCells w ⟨b,o,none⟩ i vs=setCells w ⟨b,0,none⟩ (o+i) vs
 |[],_,_=>rfl
 |v::r,i,w=>by
  simp only [setCells,zx,Nat.zero_add];rw[zaZ b o r (i+1)];rfl
theorem za0 (b o:Nat):∀ (vs:List Value) (i:Nat) (w:World),Storable w ⟨b,0,none⟩ (o+i) vs->Storable w ⟨b,o,none⟩ i vs
 |[],_,_,_=>trivial
 |v::r,i,w,h=>by
  simp only [Storable,zx,Nat.zero_add]at h ⊢;exact⟨h.1,h.2.1,h.2.2.1,za0 b o r (i+1) w h.2.2.2⟩
theorem za1 (b:Nat):∀ (vs:List Value) (i o:Nat) (w:World) (k:Nat),k≠b->(setCells w ⟨b,o,none⟩ i vs).heap[k]?=w.heap[k]?
 |[],_,_,_,_,_=>rfl
 |v::r,i,o,w,k,h=>by
  simp only [setCells];rw[za1 b r (i+1) o _ k h,Below.heap_setCell _ _ _ _ (by rw[zx];exact h)]
theorem zbW (b:Nat):∀ (vs:List Value) (i o:Nat) (w:World),(setCells w ⟨b,o,none⟩ i vs).heap.size=w.heap.size
 |[],_,_,_=>rfl
 |v::r,i,o,w=>by
  simp only [setCells];rw[zbW b r (i+1) o _];simp
theorem zbX (b:Nat):∀ (vs:List Value) (i o:Nat) (w:World),(setCells w ⟨b,o,none⟩ i vs).os=w.os/\(setCells w ⟨b,o,none⟩ i vs).tape=w.tape/\(setCells w ⟨b,o,none⟩ i vs).output=w.output
 |[],_,_,_=>⟨rfl,rfl,rfl⟩
 |v::r,i,o,w=>zbX b r (i+1) o _
theorem zi2 {w:World} {b o:Nat} {cs vs:List Value} {t:TypeId} (h:Blk w b cs t) (hl:o+vs.length<=cs.length) (hv:∀ v∈vs,v.oneCell'=true):
  Storable w ⟨b,o,none⟩ 0 vs/\Blk (setCells w ⟨b,o,none⟩ 0 vs) b (cs.take o++vs++cs.drop (o+vs.length)) t/\w.grownBy (setCells w ⟨b,o,none⟩ 0 vs) (some b):=by
 refine⟨za0 b o vs 0 w (h.qL vs o hl hv),?_,?_⟩
 ·rw[zaZ];exact Blk.uh vs o w cs h hl
 ·obtain⟨m1,m2,m3⟩:=zbX b vs 0 o w;exact⟨m1,m2,m3,by rw[zbW];exact Nat.le_refl _,fun k hk hne=>za1 b vs 0 o w k (fun e=>hne (by rw[e]))⟩
section
variable {P:Program} {t e:TypeId} {z:Value} {bytes:Nat}
theorem zjA {w:World} {b o n c m d:Nat} {ty t2:TypeId} {X:Option Addr} {cs ys:List Value} {K:SLC->WP} (hE:Elem P t e z bytes) (hb:Blk w b cs t2) (ho:o+c<=cs.length) (hn:n+m<=c)
  (hx:Sl w X m ys) (hys:∀ y∈ys,y.oneCell'=true)
  (hK:∀ w',Blk w' b (cs.take (o+n)++ys++cs.drop (o+n+m)) t2->w.grownBy w' (some b)->K (some ⟨b,o,none⟩,n+m,c) w'):
  zv P (Builtin.append_ #[t,t] ty #[.slice (some ⟨b,o,none⟩) n c,.slice X m d]) .slc K w:=by
 obtain⟨ht,hi,hz⟩:=hE;obtain⟨i,hi,hii⟩:=Option.map_eq_some_iff.1 hi;simp only [Prod.mk.injEq]at hii;obtain⟨hz0,hz1,hz2⟩:=hii;have hl:=hx.len;obtain⟨hst,hbl,hg⟩:=zi2 hb (o:=o+n) (vs:=ys) (by omega) hys;rw[hl]at hbl;cases X with
 |none=>
  obtain rfl:m=0:=by
   rcases Nat.eq_zero_or_pos m with h|h
   ·exact h
   ·obtain⟨a,h1,_⟩:=hx.2.2 h;cases h1
  obtain rfl:ys=[]:=eq_nil_of_length_eq_zero hl;refine⟨(some ⟨b,o,none⟩,n,c),w,?_,hK w (by simpa using hb) (xL _ _)⟩;simp[Builtin.append_,run_underlying ht,sizeOf,typeInfo,hi,Builtin.lenOf,Builtin.firstCells,show n<=c by omega,storeCells];rfl
 |some a=>
  have hcells:∀ j u,ys[j]?=some u->w.cell? (a.add j)=some u:=(fun j u hj=>by
    rcases Nat.eq_zero_or_pos m with h|h
    ·have:j<ys.length:=(List.getElem?_eq_some_iff.1 hj).1
     omega
    ·obtain⟨a',h1,h2⟩:=hx.2.2 h
     cases h1
     exact h2 j u hj)
  have hload:=run_loadCells_list (P:=P) w a ys hcells;have hstore:=vx (P:=P) hst;refine⟨(some ⟨b,o,none⟩,n+m,c),_,?_,hK _ hbl hg⟩;rw[hl]at hload;simp[Builtin.append_,run_underlying ht,sizeOf,typeInfo,hi,hz1,Builtin.lenOf,Builtin.firstCells,hn,hload,zx,hstore];rfl
theorem zbY {w:World} {b o n c:Nat} {ty t2:TypeId} {cs ys:List Value} {K:SLC->WP} (hE:Elem P t e z bytes) (hb:Blk w b cs t2) (ho:o+c<=cs.length) (hn:n+ys.length<=c) (hc:c<=9223372036854775807)
  (hys:∀ y∈ys,y.oneCell'=true)
  (hK:∀ w',Blk w' b (cs.take (o+n)++ys++cs.drop (o+n+ys.length)) t2->w.grownBy w' (some b)->K (some ⟨b,o,none⟩,n+ys.length,c) w'):
  (zi (.cells ys.toArray e) fun r=>zv P (Builtin.append_ #[t,t] ty #[.slice (some ⟨b,o,none⟩) n c,.slice (some (aD r)) ys.length ys.length]) .slc K) w:=by
 refine zs fun r w1 hr he _ _=>?_;refine zjA hE (hb.ext he) ho hn (Sl.xX hr rfl (by omega)) hys fun w' hb' hg=>hK w' hb' ?_;exact xn (xZ he _) hg (fun j hj=>.inl hj)
theorem zmR {w:World} {b o n c:Nat} {ty u t2:TypeId} {cs:List Value} {s:ByteArray} {K:Int->WP} (hE:Elem P t e z bytes) (hb:Blk w b cs t2) (ho:o+n<=cs.length)
  (hK:∀ w',Blk w' b (cs.take o++bV ((B s).take n)++cs.drop (o+min (B s).length n)) t2->w.grownBy w' (some b)->K ((min (B s).length n:Nat):Int) w'):
  zv P (Builtin.copy_ #[t,u] ty #[.slice (some ⟨b,o,none⟩) n c,.string s]) (.int .i64) K w:=by
 obtain⟨ht,hi,hz⟩:=hE;obtain⟨i,hi,hii⟩:=Option.map_eq_some_iff.1 hi;simp only [Prod.mk.injEq]at hii;obtain⟨hz0,hz1,hz2⟩:=hii;have hsz:=zP s;have hlen:(bV ((B s).take n)).length=min (B s).length n:=by rw[yZ,length_take,Nat.min_comm]
 obtain⟨hst,hbl,hg⟩:=zi2 hb (o:=o) (vs:=bV ((B s).take n)) (by rw[hlen];omega) (uR _);rw[hlen]at hbl;have hstore:=vx (P:=P) hst;have e1:List.take (if s.size<=n then s.size else n) (List.map (fun b=>Value.int IntKind.u8 (b.toNat:Int)) s.data.toList)=bV ((B s).take n):=by
  rw[<- Nat.min_def,hsz];show List.take _ (bV (B s))=_;rw[jm];congr 1;rcases Nat.le_total (B s).length n with h|h
  ·rw[Nat.min_eq_left h,List.take_length,take_of_length_le h]
  ·rw[Nat.min_eq_right h]
 refine⟨((min (B s).length n:Nat):Int),_,?_,hK _ hbl hg⟩;rw[<- hsz];simp[Builtin.copy_,run_underlying ht,sizeOf,typeInfo,hi,Builtin.lenOf,Builtin.firstCells,hstore,goInt,Nat.min_def,Lf.val];rw[e1,hstore];rfl
end
theorem zeO (pre new:List UInt8) (k:Nat) (h:new.length<=k):(pre++List.replicate k (0:UInt8)).take pre.length++new++(pre++List.replicate k (0:UInt8)).drop (pre.length+new.length)=(pre++new)++List.replicate (k-new.length) 0:=by
 rw[List.take_left,List.drop_append];simp[drop_of_length_le]
end V
/- Geometries,rooms:contracts. -/
namespace V
open Go Go.Proofs Go.RowKit
def zZ (size blocks:Int):Bool:=decide (128<=size/\size<=4096/\Int.tmod size 64=0/\8<=blocks/\blocks<=4096)
theorem qx (w:World) (size blocks:Int):Calls prog 111 #[.agg #[.int .i64 size,.int .i64 blocks]] w (Ret fun v w'=>v=.int .i64 (if zZ size blocks then 0 else 2)/\Ext w w'):=by
 apply zlM;unfold S111;apply yE;have hb:Blk (w.alloc (.cells #[(.int .i64 size),(.int .i64 blocks)] 72)) w.heap.size [(.int .i64 size),(.int .i64 blocks)] 72:=Blk.new w _ _;have he:Ext w (w.alloc (.cells #[(.int .i64 size),(.int .i64 blocks)] 72)):=(Ext.refl w).alloc _;generalize w.alloc (.cells #[(.int .i64 size),(.int .i64 blocks)] 72)=w1 at hb he ⊢;have bad:¬(128<=size/\size<=4096/\Int.tmod size 64=0/\8<=blocks/\blocks<=4096)->(Value.int .i64 2=.int .i64 (if zZ size blocks then 0 else 2)/\Ext w w1):=fun h=>by
  unfold zZ;rw[decide_eq_false h];exact⟨rfl,he⟩
 refine zo hb (by rfl) ?_;refine zg (fun h=>bad (by have:=of_decide_eq_true h;omega)) (fun h1=>?_);refine zo hb (by rfl) ?_;refine zg (fun h=>bad (by have:=of_decide_eq_true h;omega)) (fun h2=>?_);refine zo hb (by rfl) ?_;refine zg (fun h=>bad (by rw[bne_iff_ne]at h;exact fun hh=>h hh.2.2.1)) (fun h3=>?_);refine xj (o:=1) hb (by rfl) ?_;refine zg (fun h=>bad (by have:=of_decide_eq_true h;omega)) (fun h4=>?_);refine xj (o:=1) hb (by rfl) ?_;refine zg (fun h=>bad (by have:=of_decide_eq_true h;omega)) (fun h5=>?_);have h1:=of_decide_eq_false h1;have h2:=of_decide_eq_false h2;have h3:Int.tmod size 64=0:=by simpa using h3
 have h4:=of_decide_eq_false h4;have h5:=of_decide_eq_false h5;unfold zZ;rw[decide_eq_true ⟨by omega,by omega,h3,by omega,by omega⟩];exact⟨rfl,he⟩
def zH (size:Int):Int:=if zZ size 8 then size-16 else 0
theorem jz (w:World) (size:Int):Calls prog 121 #[.int .i64 size] w (Ret fun v w'=>v=.int .i64 (zH size)/\Ext w w'):=by
 apply zlU;unfold S121 zH;refine zb (qx w size 8) ?_;rintro _ w1 ⟨rfl,he⟩;refine⟨_,rfl,?_⟩;cases hok:zZ size 8 with
 |false=>exact zf (by rfl) ⟨rfl,he⟩
 |true=>
  refine zd (by rfl) ⟨?_,he⟩;unfold zZ at hok;have hok:=of_decide_eq_true hok;rw[wrap_i64 (x:=size-12) (by omega) (by omega),wrap_i64 (by omega) (by omega),if_pos rfl];congr 1;omega
end V
/- Iterators:slices.Chunk's and slices.Backward's inner functions,told of any program. -/
namespace V
open Go
def zkG (P:Program) (z:Nat) (x0:Value) (a1:Addr) (a2:Addr) (K:Value->WP):WP:=
 zB (Int×Unit) ((0:Int),()) fun(y2:Int×Unit) (I1:(Int×Unit)->WP)=>
 ldW .slc a1 fun(u3:SLC)=>
 za (decide (y2.1<((u3.2.1:Nat):Int))) (zD<|
 ldW (.int .i64) a2 fun(u4:Int)=>
 ldW .slc a1 fun(u5:SLC)=>
 zc (0<=y2.1/\y2.1<=((u5.2.1:Nat):Int))<|
 ldW .slc a1 fun(u6:SLC)=>
 zc (0<=y2.1/\y2.1<=(wrap .i64 (y2.1+(if (((u5.2.1-(Int.toNat y2.1)):Nat):Int)<u4 then (((u5.2.1-(Int.toNat y2.1)):Nat):Int) else u4)))/\(wrap .i64 (y2.1+(if (((u5.2.1-(Int.toNat y2.1)):Nat):Int)<u4 then (((u5.2.1-(Int.toNat y2.1)):Nat):Int) else u4)))<=(wrap .i64 (y2.1+(if (((u5.2.1-(Int.toNat y2.1)):Nat):Int)<u4 then (((u5.2.1-(Int.toNat y2.1)):Nat):Int) else u4)))/\(wrap .i64 (y2.1+(if (((u5.2.1-(Int.toNat y2.1)):Nat):Int)<u4 then (((u5.2.1-(Int.toNat y2.1)):Nat):Int) else u4)))<=((u6.2.2:Nat):Int))<|
 yJ P x0 [(.slice (zn u6.1 (Int.toNat y2.1) (Int.toNat (wrap .i64 (y2.1+(if (((u5.2.1-(Int.toNat y2.1)):Nat):Int)<u4 then (((u5.2.1-(Int.toNat y2.1)):Nat):Int) else u4)))) z) ((Int.toNat (wrap .i64 (y2.1+(if (((u5.2.1-(Int.toNat y2.1)):Nat):Int)<u4 then (((u5.2.1-(Int.toNat y2.1)):Nat):Int) else u4))))-(Int.toNat y2.1)) ((Int.toNat (wrap .i64 (y2.1+(if (((u5.2.1-(Int.toNat y2.1)):Nat):Int)<u4 then (((u5.2.1-(Int.toNat y2.1)):Nat):Int) else u4))))-(Int.toNat y2.1)))] (.one (.one .bool)) fun(u7:Bool)=>
 za (!u7) (K (.tuple #[]))<|
 ldW (.int .i64) a2 fun(u8:Int)=>I1 ((wrap .i64 (y2.1+u8)),()))<|K (.tuple #[])
def yo (n k:Nat):Nat:=(n+k-1) / k
theorem uW {n k i:Nat} (hk:1<=k):i<yo n k↔i*k<n:=by
 unfold yo;rw[Nat.lt_iff_add_one_le,Nat.le_div_iff_mul_le (by omega),Nat.succ_mul];omega
def qD (z:Nat) (A:Option Addr) (n k:Nat):List (List Value):=(List.range (yo n k)).map fun i=>[.slice (zn A (i*k) (i*k+min k (n-i*k)) z) (min k (n-i*k)) (min k (n-i*k))]
theorem xN (z:Nat) (A:Option Addr) (n k:Nat):(qD z A n k).length=yo n k:=by simp[qD]
theorem zbr {P:Program} {z r1 r2 l n c k:Nat} {A:Option Addr} {t1 t2:TypeId} {J:Nat->WP} {w:World} (hk:1<=k) (hnc:n<=c) (hnk:n+k<=9223372036854775807) (h0:J 0 w)
  (hR:∀ i w',J i w'->Blk w' r1 [.slice A n c] t1/\Blk w' r2 [.int .i64 (k:Int)] t2) (hd:∀ i w',J i w'->J i w'.drew)
  (hY:∀ i w' (h:i<(qD z A n k).length),J i w'->jI P l (qD z A n k)[i] w' fun v w''=>v=.bool true/\J (i+1) w''):
  zkG P z (.func (.yield l) #[] #[]) ⟨r1,0,none⟩ ⟨r2,0,none⟩ (fun _ w'=>J (qD z A n k).length w') w:=by
 unfold zkG;rw[xN];refine zu (fun y w'=>∃ i:Nat,i<=yo n k/\y=(((i*k:Nat):Int),())/\J i w') (fun y=>((n:Int)+k-y.1).toNat) ⟨0,by omega,by simp,h0⟩ ?_;rintro _ w' ⟨i,hi,rfl,hJ⟩;dsimp only;obtain⟨h1,h2⟩:=hR i w' hJ;refine zo (x:=(A,n,c)) h1 (by rfl) ?_;dsimp only
 by_cases hlt:i*k<n
 ·refine zf (decide_eq_true (by omega)) ?_;have hJ':=hd i w' hJ;obtain⟨h1,h2⟩:=hR i _ hJ';show(ldW _ _ _) w'.drew;generalize w'.drew=w1 at hJ' h1 h2 ⊢;refine zo (x:=(k:Int)) h2 (by rfl) ?_;refine zo (x:=(A,n,c)) h1 (by rfl) ?_;dsimp only;refine⟨⟨by omega,by omega⟩,?_⟩;refine zo (x:=(A,n,c)) h1 (by rfl) ?_;dsimp only;have e:wrap .i64 (((i*k:Nat):Int)+(if (((n-Int.toNat ((i*k:Nat):Int)):Nat):Int)<(k:Int) then (((n-Int.toNat ((i*k:Nat):Int)):Nat):Int) else (k:Int)))=((i*k+min k (n-i*k):Nat):Int):=by
   rw[Int.toNat_natCast];generalize i*k=m at hlt ⊢;split<;>rw[wrap_i64 (by omega) (by omega)]<;>omega
  rw[e];refine⟨⟨by omega,by omega,by omega,by omega⟩,?_⟩;rw[Int.toNat_natCast,Int.toNat_natCast,Nat.add_sub_cancel_left];have hlt':i<(qD z A n k).length:=by rw[xN];exact(uW hk).2 hlt
  refine .inr ⟨l,rfl,?_⟩;have hy:=hY i w1 hlt' hJ';have el:(qD z A n k)[i]=[.slice (zn A (i*k) (i*k+min k (n-i*k)) z) (min k (n-i*k)) (min k (n-i*k))]:=by simp[qD]
  rw[el]at hy;obtain⟨fn,tmps,asg,bd,hy1,hy2⟩:=hy;refine⟨fn,tmps,asg,bd,hy1,RoundIn.mono hy2 ?_⟩;rintro(v|x|_) w2 hv
  ·obtain⟨rfl,hJ2⟩:=hv;refine⟨true,rfl,?_⟩;refine zd (by rfl) ?_;obtain⟨h1,h2⟩:=hR _ _ hJ2;refine zo (x:=(k:Int)) h2 (by rfl) ?_;rw[wrap_i64 (by omega) (by omega)];refine⟨⟨i+1,by rw[xN]at hlt';omega,by rw[Nat.succ_mul];rfl,hJ2⟩,?_⟩;generalize i*k=m at hlt ⊢;omega
  ·exact hv
  ·exact hv
 ·refine zd (decide_eq_false (by omega)) ?_;have:i=yo n k:=by
   rcases Nat.lt_or_ge i (yo n k) with h|h
   ·exact absurd ((uW hk).1 h) hlt
   ·omega
  subst this;exact hJ
def znB (P:Program) (x0:Value) (a1:Addr) (K:Value->WP):WP:=
 ldW .slc a1 fun(u1:SLC)=>
 zB (Int×Unit) ((wrap .i64 (((u1.2.1:Nat):Int)-(1:Int))),()) fun(y3:Int×Unit) (I2:(Int×Unit)->WP)=>
 za (decide (y3.1>=(0:Int))) (ldW .slc a1 fun(u4:SLC)=>
 zc (0<=y3.1/\y3.1<((u4.2.1:Nat):Int))<|
 zh u4.1 fun(p5:Addr)=>
 ldW (.int .u8) (p5.add (Int.toNat y3.1*1)) fun(u6:Int)=>
 yJ P x0 [(.int .i64 y3.1),(.int .u8 u6)] (.one (.one .bool)) fun(u7:Bool)=>
 za (!u7) (K (.tuple #[]))<|I2 ((wrap .i64 (y3.1-(1:Int))),()))<|K (.tuple #[])
def vP (bs:List UInt8):List (List Value):=(List.range bs.length).map fun i=>[.int .i64 ((bs.length-1-i:Nat):Int),.int .u8 ((bs.getD (bs.length-1-i) 0).toNat:Int)]
theorem ve (bs:List UInt8):(vP bs).length=bs.length:=by simp[vP]
theorem zkH {P:Program} {r1 l n c:Nat} {A:Option Addr} {bs:List UInt8} {t1:TypeId} {J:Nat->WP} {w:World} (h0:J 0 w)
  (hR:∀ i w',J i w'->Blk w' r1 [.slice A n c] t1/\Sl w' A n (bV bs))
  (hY:∀ i w' (h:i<(vP bs).length),J i w'->jI P l (vP bs)[i] w' fun v w''=>v=.bool true/\J (i+1) w''):
  znB P (.func (.yield l) #[] #[]) ⟨r1,0,none⟩ (fun _ w'=>J (vP bs).length w') w:=by
 unfold znB;rw[ve];obtain⟨h1,h2⟩:=hR 0 w h0;have hl:=h2.blen;have hle:=h2.le;refine zo (x:=(A,n,c)) h1 (by rfl) ?_;dsimp only;rw[wrap_i64 (by omega) (by omega)];refine zu (fun y w'=>∃ i:Nat,i<=n/\y=((n:Int)-1-i,())/\J i w') (fun y=>(y.1+1).toNat) ⟨0,by omega,by simp,h0⟩ ?_;rintro _ w' ⟨i,hi,rfl,hJ⟩;dsimp only
 by_cases hlt:i<n
 ·refine zf (decide_eq_true (by omega)) ?_;obtain⟨h1,h2⟩:=hR i w' hJ;refine zo (x:=(A,n,c)) h1 (by rfl) ?_;dsimp only;refine zgV h2 (by omega) (by omega) ?_;have hlt':i<(vP bs).length:=by rw[ve];omega
  refine .inr ⟨l,rfl,?_⟩;have hy:=hY i w' hlt' hJ;have el:(vP bs)[i]=[.int .i64 ((n:Int)-1-i),.int .u8 ((bs.getD (Int.toNat ((n:Int)-1-i)) 0).toNat:Int)]:=by
   have e1:((bs.length-1-i:Nat):Int)=(n:Int)-1-i:=by omega
   have e2:Int.toNat ((n:Int)-1-i)=bs.length-1-i:=by omega
   rw[e2,<- e1];simp[vP]
  rw[el]at hy;obtain⟨fn,tmps,asg,bd,hy1,hy2⟩:=hy;refine⟨fn,tmps,asg,bd,hy1,RoundIn.mono hy2 ?_⟩;rintro(v|x|_) w2 hv
  ·obtain⟨rfl,hJ2⟩:=hv;refine⟨true,rfl,?_⟩;refine zd (by rfl) ?_;rw[wrap_i64 (by omega) (by omega)];exact⟨⟨i+1,by omega,by congr 1;omega,hJ2⟩,by omega⟩
  ·exact hv
  ·exact hv
 ·refine zd (decide_eq_false (by omega)) ?_;obtain rfl:i=bs.length:=by omega
  exact hJ
end V
/- Contracts of slices.Chunk,slices.Backward,octet.Of,octet.Put. -/
namespace V
open Go Go.Proofs Go.RowKit
def zc2 (r1 r2:Nat) (A:Option Addr) (n c k:Nat):WP:=fun w=>Blk w r1 [.slice A n c] 85/\Blk w r2 [.int .i64 (k:Int)] 3
theorem zg8 {w:World} {A:Option Addr} {n c k:Nat} (hk:1<=k) (hnc:n<=c) (hnk:n+k<=9223372036854775807):Calls prog 222 #[.slice A n c,.int .i64 (k:Int)] w (Ret fun v w'=>Iter prog v (qD 1 A n k) (zc2 w.heap.size (w.heap.size+1) A n c k)/\zc2 w.heap.size (w.heap.size+1) A n c k w'/\w'.heap.size=w.heap.size+2/\Ext w w'):=by
 apply zmN;unfold S222;apply yE;have h1:=Blk.new w #[.slice A n c] 85;have he:=(Ext.refl w).alloc (.cells #[.slice A n c] 85);have hs:(w.alloc (.cells #[.slice A n c] 85)).heap.size=w.heap.size+1:=by simp
 generalize w.alloc (.cells #[.slice A n c] 85)=w1 at h1 he hs ⊢;apply yE;have h2:=Blk.new w1 #[.int .i64 (k:Int)] 3;have h1:=h1.alloc (.cells #[.int .i64 (k:Int)] 3);have he:=he.alloc (.cells #[.int .i64 (k:Int)] 3);have hs2:(w1.alloc (.cells #[.int .i64 (k:Int)] 3)).heap.size=w.heap.size+2:=by simp[hs]
 generalize w1.alloc (.cells #[.int .i64 (k:Int)] 3)=w2 at h1 h2 he hs2 ⊢;rw[hs]at h2 ⊢;refine zo (x:=(k:Int)) h2 (by rfl) ?_;refine zd (decide_eq_false (by omega)) ?_;refine⟨⟨_,_,rfl,by kernel_rfl,fun l J w' hJ hR hd hY=>?_⟩,⟨h1,h2⟩,hs2,he⟩;apply zmP;exact zbr (P:=prog) hk hnc hnk hJ hR hd hY
def zbs (r1 r2:Nat) (A:Option Addr) (n c k:Nat):WP:=fun w=>Blk w r1 [.slice A n c] 191/\Blk w r2 [.int .i64 (k:Int)] 3
theorem zgm {w:World} {A:Option Addr} {n c k:Nat} (hk:1<=k) (hnc:n<=c) (hnk:n+k<=9223372036854775807):Calls prog 181 #[.slice A n c,.int .i64 (k:Int)] w (Ret fun v w'=>Iter prog v (qD 1 A n k) (zbs w.heap.size (w.heap.size+1) A n c k)/\zbs w.heap.size (w.heap.size+1) A n c k w'/\w'.heap.size=w.heap.size+2/\Ext w w'):=by
 apply zmv;unfold S181;apply yE;have h1:=Blk.new w #[.slice A n c] 191;have he:=(Ext.refl w).alloc (.cells #[.slice A n c] 191);have hs:(w.alloc (.cells #[.slice A n c] 191)).heap.size=w.heap.size+1:=by simp
 generalize w.alloc (.cells #[.slice A n c] 191)=w1 at h1 he hs ⊢;apply yE;have h2:=Blk.new w1 #[.int .i64 (k:Int)] 3;have h1:=h1.alloc (.cells #[.int .i64 (k:Int)] 3);have he:=he.alloc (.cells #[.int .i64 (k:Int)] 3);have hs2:(w1.alloc (.cells #[.int .i64 (k:Int)] 3)).heap.size=w.heap.size+2:=by simp[hs]
 generalize w1.alloc (.cells #[.int .i64 (k:Int)] 3)=w2 at h1 h2 he hs2 ⊢;rw[hs]at h2 ⊢;refine zo (x:=(k:Int)) h2 (by rfl) ?_;refine zd (decide_eq_false (by omega)) ?_;refine⟨⟨_,_,rfl,by kernel_rfl,fun l J w' hJ hR hd hY=>?_⟩,⟨h1,h2⟩,hs2,he⟩;apply zmI;exact zbr (P:=prog) hk hnc hnk hJ hR hd hY
def zjB (r1:Nat) (A:Option Addr) (n c:Nat) (bs:List UInt8):WP:=fun w=>Blk w r1 [.slice A n c] 85/\Sl w A n (bV bs)
theorem zjC {w:World} {A:Option Addr} {n c:Nat} {bs:List UInt8} (h:Sl w A n (bV bs)):Calls prog 156 #[.slice A n c] w (Ret fun v w'=>Iter prog v (vP bs) (zjB w.heap.size A n c bs)/\zjB w.heap.size A n c bs w'/\w'.heap.size=w.heap.size+1/\Ext w w'):=by
 apply zmc;unfold S156;apply yE;have he:=(Ext.refl w).alloc (.cells #[.slice A n c] 85);refine⟨⟨_,_,rfl,by kernel_rfl,fun l J w' hJ hR hd hY=>?_⟩,⟨Blk.new w #[.slice A n c] 85,h.ext he⟩,by simp,he⟩;apply zmx;exact zkH (P:=prog) hJ hR hY
theorem xt {w:World} {B:Nat} {A:Option Addr} {n c:Nat} {bs:List UInt8} {v k:Nat} (h:Own 5 w B A n c (bV bs)) (hB:B<=w.heap.size) (hn:n<=140737488355000) (hv:v<18446744073709551616) (hk1:1<=k) (hk:k<=8):
  Calls prog 42 #[.slice A n c,.int .u64 (v:Int),.int .i64 (k:Int)] w (Ret fun r w'=>∃ x:SLC,r=.slice x.1 x.2.1 x.2.2/\Own 5 w' B x.1 x.2.1 x.2.2 (bV (bs++le k v))/\Grew w w' (orow A) (orow x.1)):=by
 apply zi0;unfold S42;refine zd (decide_eq_false (by omega)) ?_;refine zd (decide_eq_false (by omega)) ?_;refine zu (fun x w'=>∃ (A':Option Addr) (c' i:Nat),i<=k/\x=((A',n+i,c'),(i:Int),())/\Own 5 w' B A' (n+i) c' (bV (bs++le i v))/\Grew w w' (orow A) (orow A')) (fun x=>(k-x.2.1).toNat)
  ⟨A,c,0,by omega,rfl,by simpa [le] using h,Grew.refl _ _⟩ ?_
 rintro _ w' ⟨A',c',i,hi,rfl,ho,hg⟩;dsimp only;have hB':B<=w'.heap.size:=Nat.le_trans hB hg.grown.size
 by_cases hlt:i<k
 ·refine zf (decide_eq_true (by omega)) ?_;have e1:wrap .i64 ((8:Int)*(i:Int))=((8*i:Nat):Int):=by
   rw[wrap_i64 (by omega) (by omega)];omega
  rw[e1];refine⟨by omega,?_⟩;rw[zdR .u64 v (8*i) (by simp[IntKind.bits];omega),yN,Nat.pow_mul,show(2:Nat) ^ 8=256 from rfl];have hone:∀ y∈[Value.int .u8 ((UInt8.ofNat (v / 256 ^ i)).toNat:Int)],y.oneCell'=true:=by
   intro y hy;simp only [mem_singleton]at hy;subst hy;rfl
  refine zbm (ys:=[Value.int .u8 ((UInt8.ofNat (v / 256 ^ i)).toNat:Int)]) xE ho hB' hone (by simp;omega) (by omega) ?_;intro A2 c2 w2 ho2 hg2;refine⟨⟨A2,c2,i+1,by omega,?_,?_,?_⟩,?_⟩
  ·rw[wrap_i64 (by omega) (by omega)];rfl
  ·have e2:bV (bs++le (i+1) v)=bV (bs++le i v)++[Value.int .u8 ((UInt8.ofNat (v / 256 ^ i)).toNat:Int)]:=by
    rw[le_succ,<- append_assoc,xi (bs++le i v)];rfl
   rw[e2];exact ho2
  ·exact hg.step hg2
  ·rw[wrap_i64 (by omega) (by omega)];omega
 ·obtain rfl:i=k:=by omega
  refine zd (decide_eq_false (by omega)) ?_;exact⟨(A',n+i,c'),rfl,ho,hg⟩
theorem zg9 {bs:List UInt8} {j:Nat} (h:j<bs.length):lev (bs.drop j)=(bs.getD j 0).toNat+256*lev (bs.drop (j+1)):=by
 rw[drop_eq_getElem_cons h];simp[lev,h]
theorem ja {w:World} {A:Option Addr} {n c:Nat} {bs:List UInt8} (h:Sl w A n (bV bs)) (hn:n<=8):Calls prog 107 #[.slice A n c] w (Ret fun v w'=>v=.int .u64 (lev bs:Int)/\Ext w w'):=by
 apply zlI;unfold S107;have hl:=h.blen;apply yE;have hr:=Blk.new w #[.int .u64 (0:Int)] 42;have he:=(Ext.refl w).alloc (.cells #[.int .u64 (0:Int)] 42);generalize w.alloc (.cells #[.int .u64 (0:Int)] 42)=w1 at hr he ⊢;generalize hrr:w.heap.size=r at hr ⊢;refine zd (decide_eq_false (by omega)) ?_;refine zb (zjC (c:=c) (h.ext he)) ?_;rintro v w2 ⟨hit,hRb,hs2,he2⟩;refine⟨v,rfl,?_⟩;have hr2:=hr.ext he2;have hrlt:=hr.lt;have he02:=he.trans he2;have hsl:∀ w',Ext w w'->Sl w' A n (bV bs):=fun w' e=>h.ext e;refine zaX (R:=zjB w1.heap.size A n c bs) (fun i w'=>Ext w w'/\Blk w' w1.heap.size [.slice A n c] 85/\Blk w' r [.int .u64 (lev (bs.drop (n-i)):Int)] 42) hit (fun i w' hI=>⟨hI.2.1,hsl _ hI.1⟩) (fun i w' hI=>⟨hI.1.drew,hI.2.1,hI.2.2⟩) ?_ ?_ ?_ ?_
 ·rintro i w' w'' hsb ⟨h1,h2,h3⟩;have hge:w.heap.size<=w2.heap.size:=he02.size;refine⟨?_,?_,?_⟩
  ·exact⟨hsb.1.trans h1.os,hsb.2.1.trans h1.tape,hsb.2.2.1.trans h1.output,by have:=h1.size;have:=hsb.2.2.2.1;omega,fun k hk=>(hsb.2.2.2.2 k (by omega) (by omega)).trans (h1.block k hk)⟩
  ·exact(hsb.2.2.2.2 _ (by omega) (by omega)).trans h2
  ·exact(hsb.2.2.2.2 _ (by omega) (by omega)).trans h3
 ·intro o;refine⟨(he02.alloc _).alloc _,(hRb.1.alloc _).alloc _,?_⟩;have e:bs.drop (n-0)=[]:=drop_of_length_le (by omega);rw[e];exact(hr2.alloc _).alloc _
 ·intro i hi w' N jump hI hsz hN;rw[ve]at hi;refine⟨((bs.length-1-i:Nat),((bs.getD (bs.length-1-i) 0).toNat:Int),()),by simp[vP],?_⟩;obtain⟨h1,h2,h3⟩:=hI;dsimp only;refine zo (x:=(lev (bs.drop (n-i)):Int)) h3 (by rfl) ?_;refine zU h3 (by simp) ?_;have hb:=(bs.getD (bs.length-1-i) 0).toNat_lt;have hlv:=jn (bs.drop (n-i));have hlen:(bs.drop (n-i)).length=i:=by rw[length_drop];omega
  rw[hlen]at hlv;have hpow:256 ^ i*256<=18446744073709551616:=by
   rw[show 256 ^ i*256=256 ^ (i+1) from rfl,show 18446744073709551616=256 ^ 8 from rfl];exact Nat.pow_le_pow_right (by omega) (by omega)
  have e1:ior .u64 (ishl .u64 (lev (bs.drop (n-i)):Int) (8:Int)) (wrap .u64 ((bs.getD (bs.length-1-i) 0).toNat:Int))=(lev (bs.drop (n-(i+1))):Int):=by
   rw[show(8:Int)=((8:Nat):Int) from rfl,zz (by omega),zgZ (k:=.u64) rfl _ 8 (by simp[IntKind.bits])];rw[Nat.mod_eq_of_lt (show lev (bs.drop (n-i))*2 ^ 8<2 ^ IntKind.bits .u64 by show _<18446744073709551616;omega)];rw[zfm (k:=.u64) rfl (show lev (bs.drop (n-i))*2 ^ 8<2 ^ IntKind.bits .u64 by show _<18446744073709551616;omega) (show _<18446744073709551616 by omega)];rw[Nat.mul_comm,<- Nat.two_pow_add_eq_or_of_lt (by omega)];have e2:n-(i+1)=bs.length-1-i:=by omega
   rw[e2,zg9 (j:=bs.length-1-i) (by omega),show bs.length-1-i+1=n-i by omega];congr 1;omega
  rw[e1];have hset:=h3.set 0 (.int .u64 (lev (bs.drop (n-(i+1))):Int));refine hN _ ⟨h1.set (by simp only;omega) _,h2.other (by simp only;omega) _,hset⟩ (by simp) (fun k hk=>?_);exact Below.heap_setCell _ _ _ _ (by simp only;omega)
 ·intro w' hI hsz hd;obtain⟨h1,h2,h3⟩:=hI;rw[ve]at h3;have e:bs.drop (n-bs.length)=bs:=by rw[show n-bs.length=0 by omega];rfl
  rw[e]at h3;show(ldW _ _ _) w';refine zo (x:=(lev bs:Int)) h3 (by rfl) ?_;refine zU h3 (by simp) ?_;have hset:=h3.set 0 (.int .u64 (lev bs:Int));refine jL (by rw[Below.heap_setCell _ _ _ _ (by simp only;omega)];exact hd) ?_;show(ldW _ _ _) _;refine zo (x:=(lev bs:Int)) (show Blk _ r [.int .u64 (lev bs:Int)] 42 from ?_) (by rfl) ?_
  ·exact(zQ (by omega)).trans hset
  ·exact⟨rfl,(h1.set (by simp only;omega) _).yA (by have:=he02.size;omega) _⟩
end V
/- Plain mathematics of checks (chapter 2):no program in sight. -/
namespace Crc
abbrev W32:=BitVec 32
def poly:W32:=0x82f63b78#32
def bstep (v:W32):W32:=(v >>> 1) ^^^ (if v.getLsbD 0 then poly else 0#32)
def bsteps:Nat->W32->W32
 |0,v=>v
 |n+1,v=>bsteps n (bstep v)
def entry (i:Nat):W32:=bsteps 8 (BitVec.ofNat 32 i)
def table:List W32:=(List.range 256).map entry
def step (t:List W32) (s:W32) (b:UInt8):W32:=(s >>> 8) ^^^ t.getD ((s.setWidth 8) ^^^ b.toBitVec).toNat 0#32
def upd (t:List W32) (s:W32) (bs:List UInt8):W32:=bs.foldl (step t) s
def sum (t:List W32) (bs:List UInt8):W32:= ~~~ (upd t (~~~ 0#32) bs)
def crc (bs:List UInt8):W32:=sum table bs
theorem bsteps_add (m n:Nat):∀ v,bsteps (m+n) v=bsteps n (bsteps m v):=by
 induction m with
 |zero=>intro v;simp[bsteps]
 |succ m ih=>intro v;rw[Nat.add_right_comm];simp only [bsteps,ih]
end Crc
/- Bits turned within bytes,and what a check tells of them. It speaks of no program. -/
namespace Crc
open Go.Proofs.YtplgodmmmppmeaaGreat.V (le lev zy uT zkz jn le_succ)
def ob (f:Nat->Bool):BitVec 8:=BitVec.ofNat 8 ((f 0).toNat+2*(f 1).toNat+4*(f 2).toNat+8*(f 3).toNat+16*(f 4).toNat+32*(f 5).toNat+64*(f 6).toNat+128*(f 7).toNat)
attribute [irreducible] ob
end Crc
/- Contracts of the package crc. -/
namespace V
open Go Go.Proofs Crc
def xO (T:List W32):List Value:=T.map fun t=>.int .u32 (t.toNat:Int)
theorem vQ (T:List W32):(xO T).length=T.length:=by simp[xO]
theorem zmS {T:List W32} {i:Nat} (h:i<T.length):(xO T)[i]?=some (.int .u32 ((T.getD i 0).toNat:Int)):=by
 simp[xO,h]
theorem zha {w:World} {T:List W32} {s:W32} {A:Option Addr} {n c:Nat} {bs:List UInt8} (hT:T.length=256) (h:Sl w A n (bV bs)):
  Calls prog 216 #[.agg (xO T).toArray,.int .u32 (s.toNat:Int),.slice A n c] w (Ret fun v w'=>v=.int .u32 ((upd T s bs).toNat:Int)/\Ext w w'):=by
 apply zmJ;unfold S216;apply yE;have hb0:Blk (w.alloc (.cells (xO T).toArray 287)) w.heap.size (xO T) 287:=by simpa using Blk.new w (xO T).toArray _
 have he0:Ext w (w.alloc (.cells (xO T).toArray 287)):=(Ext.refl w).alloc _;have hl:=h.blen;have hn:=h.le;generalize w.alloc (.cells (xO T).toArray 287)=w1 at hb0 he0 ⊢;refine zu (fun x w'=>w'=w1/\∃ i:Nat,i<=n/\x=(((upd T s (bs.take i)).toNat:Int),(i:Int),())) (fun x=>(n-x.2.1).toNat) ⟨rfl,0,by omega,by simp[upd]⟩ ?_;rintro _ w' ⟨rfl,i,hi,rfl⟩;dsimp only;have h1:=h.ext he0
 by_cases hlt:i<n
 ·refine zf (decide_eq_true (by omega)) ?_;refine zgV h1 (by omega) (by omega) ?_;have hidx:ixor .u8 (wrap .u8 ((upd T s (bs.take i)).toNat:Int)) ((bs.getD (Int.toNat (i:Int)) 0).toNat:Int)=((((upd T s (bs.take i)).setWidth 8) ^^^ (bs.getD i 0).toBitVec).toNat:Int):=by
   rw[zgW,zig,zqf];rfl
  rw[hidx];have hx:(((upd T s (bs.take i)).setWidth 8) ^^^ (bs.getD i 0).toBitVec).toNat<256:=(((upd T s (bs.take i)).setWidth 8) ^^^ (bs.getD i 0).toBitVec).isLt;refine⟨⟨by omega,by omega⟩,?_⟩;rw[Int.toNat_natCast,Nat.mul_one,zx,Nat.zero_add];refine zo hb0 (zmS (by omega)) ?_;rw[uP (by omega) (by omega)];refine⟨⟨rfl,i+1,by omega,?_⟩,by omega⟩;rw[show ishr .u32 ((upd T s (bs.take i)).toNat:Int) (8:Int)=((upd T s (bs.take i) >>> 8).toNat:Int) from zky _ 8 (by omega),zkx];have e:upd T s (bs.take (i+1))=Crc.step T (upd T s (bs.take i)) (bs.getD i 0):=by
   rw[take_succ_eq_append_getElem (by omega)];simp only [upd,List.foldl_append,foldl_cons,List.foldl_nil];rw[getD_eq_getElem?_getD,List.getElem?_eq_getElem (by omega)];rfl
  rw[e];rfl
 ·obtain rfl:i=n:=by omega
  refine zd (decide_eq_false (by omega)) ?_;rw[take_of_length_le (by omega)];exact⟨rfl,he0⟩
theorem zim (w:World):Calls prog 201 #[] w (Ret fun v w'=>v=.agg (xO table).toArray/\Ext w w'):=by
 apply zmz;unfold S201;apply yE;have hz:(zeo prog 287).toList=List.replicate 256 (.int .u32 0):=by kernel_rfl
 have hb0:Blk (w.alloc (.cells (zeo prog 287) 287)) w.heap.size (List.replicate 256 (.int .u32 0)) 287:=by rw[<- hz];exact Blk.new w _ _
 have he0:Ext w (w.alloc (.cells (zeo prog 287) 287)):=(Ext.refl w).alloc _;generalize w.alloc (.cells (zeo prog 287) 287)=w1 at hb0 he0 ⊢;refine zu (fun x w'=>Ext w w'/\∃ i:Nat,i<=256/\x=((i:Int),())/\Blk w' w.heap.size (xO (table.take i)++List.replicate (256-i) (.int .u32 0)) 287) (fun x=>(256-x.1).toNat) ⟨he0,0,by omega,rfl,hb0⟩ ?_;rintro _ w' ⟨he,i,hi,rfl,hb⟩;dsimp only
 by_cases hlt:i<256
 ·refine zf (decide_eq_true (by omega)) ?_;have e0:wrap .u32 (i:Int)=((BitVec.ofNat 32 i).toNat:Int):=by
   rw[wrap_u32,BitVec.toNat_ofNat];simp only [Nat.reducePow];omega
  rw[e0];refine zu (fun x w''=>w''=w'/\∃ k:Nat,k<=8/\x=(((bsteps k (BitVec.ofNat 32 i)).toNat:Int),(k:Int),())) (fun x=>(8-x.2.1).toNat) ⟨rfl,0,by omega,rfl⟩ ?_;rintro _ _ ⟨rfl,k,hk,rfl⟩;dsimp only
  by_cases hk8:k<8
  ·refine zf (decide_eq_true (by omega)) ?_;rw[uP (by omega) (by omega)];refine⟨⟨rfl,k+1,by omega,?_⟩,by omega⟩;generalize hv:bsteps k (BitVec.ofNat 32 i)=v;have e1:bsteps (k+1) (BitVec.ofNat 32 i)=bstep v:=by rw[bsteps_add,hv];rfl
   rw[e1];have e2:(v&&& 1#32)=if v.getLsbD 0 then 1#32 else 0#32:=by
    have:v.getLsbD 0=v.toNat.testBit 0:=rfl;apply BitVec.eq_of_toNat_eq;rw[BitVec.toNat_and,this,Nat.testBit_zero];simp only [BitVec.toNat_ofNat,Nat.reducePow,Nat.reduceMod,Nat.and_one_is_mod]
    by_cases h:v.toNat % 2=1
    ·simp[h]
    ·simp[show v.toNat % 2=0 by omega]
   have e3:wrap .u32 ((2197175160:Int)*(iand .u32 (v.toNat:Int) (1:Int)))=((if v.getLsbD 0 then poly else 0#32).toNat:Int):=by
    rw[show iand .u32 (v.toNat:Int) (1:Int)=((v&&& 1#32).toNat:Int) from zpM v 1#32,e2];cases v.getLsbD 0<;>decide
   rw[e3,show ishr .u32 (v.toNat:Int) (1:Int)=((v >>> 1).toNat:Int) from zky v 1 (by omega),zkx];rfl
  ·obtain rfl:k=8:=by omega
   refine zd (decide_eq_false (by omega)) ?_;refine⟨⟨by omega,by omega⟩,?_⟩;rw[Int.toNat_natCast,Nat.mul_one,zx,Nat.zero_add];refine zU hb (by simp[vQ,table];omega) ?_;rw[uP (by omega) (by omega)];refine⟨⟨he.set (by simp) _,i+1,by omega,rfl,?_⟩,by omega⟩;have h2:=hb.set i (.int .u32 ((bsteps 8 (BitVec.ofNat 32 i)).toNat:Int));have e3:(xO (table.take i)++List.replicate (256-i) (Value.int .u32 0)).set i (.int .u32 ((bsteps 8 (BitVec.ofNat 32 i)).toNat:Int))=xO (table.take (i+1))++List.replicate (256-(i+1)) (Value.int .u32 0):=by
    have ht:(xO (table.take i)).length=i:=by simp[vQ,table];omega
    rw[List.set_append_right _ _ (by omega),ht,Nat.sub_self,show 256-i=(256-(i+1))+1 by omega,List.replicate_succ,List.set_cons_zero];rw[take_add_one,show table[i]?=some (entry i) by simp[table,hlt]];simp[xO,entry]
   rw[e3]at h2;exact h2
 ·obtain rfl:i=256:=by omega
  refine zd (decide_eq_false (by omega)) ?_;have hb2:Blk w' w.heap.size (xO table) 287:=by
   have:table.take 256=table:=take_of_length_le (by simp[table]);rw[this]at hb
   simpa using hb
  have hlen:(xO table).length=256:=by simp[vQ,table]
  have hone:∀ v∈xO table,v.oneCell'=true:=by
   intro v hv;obtain⟨t,_,rfl⟩:=mem_map.1 hv;rfl
  generalize xO table=TT at hb2 hlen hone ⊢;refine⟨TT.toArray,by simpa using hlen,hb2.jK,by simpa using hlen,?_,?_⟩
  ·exact hb2.qL TT 0 (by omega) hone
  ·have hb3:=hb2.setCells TT rfl;exact⟨TT.toArray,by simpa using hlen,hb3.jK,rfl,he.setCells (by simp) _ _ _⟩
theorem zkI {w:World} {T:List W32} {A:Option Addr} {n c:Nat} {bs:List UInt8} (hT:T.length=256) (h:Sl w A n (bV bs)):
  Calls prog 200 #[.agg (xO T).toArray,.slice A n c] w (Ret fun v w'=>v=.int .u32 ((sum T bs).toNat:Int)/\Ext w w'):=by
 apply zmy;unfold S200;apply yE;have hb0:Blk (w.alloc (.cells (xO T).toArray 287)) w.heap.size (xO T) 287:=by simpa using Blk.new w (xO T).toArray _
 have he0:Ext w (w.alloc (.cells (xO T).toArray 287)):=(Ext.refl w).alloc _;have hlen:(xO T).length=256:=by rw[vQ,hT]
 generalize w.alloc (.cells (xO T).toArray 287)=w1 at hb0 he0 ⊢;refine znW (cs:=(xO T).toArray) hb0 (by simpa using hlen) ?_;have hc:=zha (w:=w1) (T:=T) (s:=4294967295#32) (c:=c) hT (h.ext he0);refine zb hc ?_;rintro _ w2 ⟨rfl,he⟩;refine⟨_,rfl,?_⟩;rw[zpN];exact⟨rfl,he0.trans he⟩
theorem zfX {w:World} {A:Option Addr} {n c:Nat} {bs:List UInt8} (h:Sl w A n (bV bs)):Calls prog 165 #[.slice A n c] w (Ret fun v w'=>v=.int .u32 ((crc bs).toNat:Int)/\Ext w w'):=by
 apply zmi;unfold S165;refine zb (zim w) ?_;rintro _ w1 ⟨rfl,he⟩;refine⟨(xO table).toArray,rfl,?_⟩;refine zb (zkI (by simp[table]) (h.ext he)) ?_;rintro _ w2 ⟨rfl,he2⟩;exact⟨_,rfl,rfl,he.trans he2⟩
end V
/- Frames:plain,and the contracts of the package frame. -/
namespace V
open Go Go.Proofs Go.RowKit Crc
abbrev Fra:=UInt8×Nat×ByteArray
def ui:Fra:=(0,0,ByteArray.empty)
def fT (f:Fra):Int×Int×ByteArray×Unit:=((f.1.toNat:Int),(f.2.1:Int),f.2.2,())
def fV (f:Fra):List Value:=[.int .u8 (f.1.toNat:Int),.int .u64 (f.2.1:Int),.string f.2.2]
theorem zkJ (f:Fra):∀ v∈fV f,v.oneCell'=true:=by
 intro v hv;simp only [fV,mem_cons,not_mem_nil,or_false]at hv;rcases hv with rfl|rfl|rfl<;>rfl
def kH (f:Fra):List UInt8:=[f.1,0]++le 2 (B f.2.2).length++le 8 f.2.1
def xW (size:Nat) (f:Fra):List UInt8:=kH f++B f.2.2++List.replicate (size-16-(B f.2.2).length) 0
def yB (size:Nat) (f:Fra):List UInt8:=xW size f++le 4 (crc (xW size f)).toNat
def xy (size:Int) (f:Fra):List UInt8×Int:=if zH size=0 then ([],2) else if ((B f.2.2).length:Int)>zH size then ([],3) else (yB size.toNat f,0)
def xu (bs:List UInt8):Fra:=(bs.getD 0 0,lev ((bs.drop 4).take 8),⟨((bs.drop 12).take (lev ((bs.drop 2).take 2))).toArray⟩)
def yk (bs:List UInt8):Fra×Int:=
 if zH bs.length=0 then (ui,2)
 else if (crc (bs.take (bs.length-4))).toNat≠lev (bs.drop (bs.length-4)) then (ui,10)
 else if (lev ((bs.drop 2).take 2):Int)>zH bs.length then (ui,4)
 else if xy bs.length (xu bs)=(bs,0) then (xu bs,0) else (ui,4)
def zaq (bs:List UInt8) (tag:UInt8):Fra×Int:=if (yk bs).2=0/\(yk bs).1.1≠tag then (ui,11) else yk bs
theorem uX (f:Fra):(kH f).length=12:=by simp[kH,zy]
theorem uY {size:Nat} {f:Fra} (h:(B f.2.2).length+16<=size):(xW size f).length=size-4:=by
 simp only [xW,length_append,uX,length_replicate];omega
theorem kB {size:Nat} {f:Fra} (h:(B f.2.2).length+16<=size):(yB size f).length=size:=by
 simp only [yB,length_append,uY h,zy];omega
theorem uZ (size:Int):zH size=0\/(zH size=size-16/\128<=size/\size<=4096/\zZ size 8=true):=by
 unfold zH;cases h:zZ size 8 with
 |false=>left;rfl
 |true=>
  right;have h2:=h;unfold zZ at h2;have h2:=of_decide_eq_true h2;exact⟨rfl,by omega,by omega,rfl⟩
theorem zfo {size:Int} {f:Fra} (h:(xy size f).2=0):zH size=size-16/\128<=size/\size<=4096/\(B f.2.2).length+16<=size.toNat/\(xy size f).1=yB size.toNat f:=by
 unfold xy at h ⊢;rcases uZ size with h0|⟨h0,h1,h2,_⟩
 ·rw[if_pos h0]at h;cases h
 ·rw[if_neg (by omega)]at h ⊢;split at h
  ·cases h
  ·rename_i hr;rw[if_neg hr];exact⟨h0,h1,h2,by omega,rfl⟩
theorem zi3 {n:Nat} (h:n<65536):lev (le 2 n)=n:=by rw[uT];omega
theorem zi4 {n:Nat} (h:n<18446744073709551616):lev (le 8 n)=n:=by rw[uT];omega
theorem zfY {size:Nat} {f:Fra} (hr:zH size=(size:Int)-16) (h1:128<=size) (h2:size<=4096) (hd:(B f.2.2).length+16<=size) (hg:f.2.1<18446744073709551616):yk (yB size f)=(f,0):=by
 have hlen:=kB hd;have hbl:=uY hd;have hlt:=(crc (xW size f)).isLt;have e1:(yB size f).take (size-4)=xW size f:=by unfold yB;rw[take_left' hbl]
 have e2:(yB size f).drop (size-4)=le 4 (crc (xW size f)).toNat:=by unfold yB;rw[drop_left' hbl]
 have e3:lev (le 4 (crc (xW size f)).toNat)=(crc (xW size f)).toNat:=by rw[uT];omega
 have epre:yB size f=[f.1,0]++(le 2 (B f.2.2).length++(le 8 f.2.1++(B f.2.2++(List.replicate (size-16-(B f.2.2).length) 0++le 4 (crc (xW size f)).toNat)))):=by
  simp[yB,xW,kH]
 have e4:((yB size f).drop 2).take 2=le 2 (B f.2.2).length:=by
  rw[epre,drop_left' (i:=2) (l₁:=[f.1,0]) (show [f.1,0].length=2 from rfl),take_left' (zy _ _)]
 have e5:((yB size f).drop 4).take 8=le 8 f.2.1:=by
  rw[epre,<- append_assoc,drop_left' (by simp[zy]),take_left' (zy _ _)]
 have e6:((yB size f).drop 12).take (B f.2.2).length=B f.2.2:=by
  rw[epre,<- append_assoc,<- append_assoc,drop_left' (by simp[zy]),take_left' rfl]
 have e7:(yB size f).getD 0 0=f.1:=by rw[epre];rfl
 have e8:lev (((yB size f).drop 2).take 2)=(B f.2.2).length:=by rw[e4];exact zi3 (by omega)
 have ef:xu (yB size f)=f:=by
  unfold xu;rw[e8,e6,e7,e5,zi4 hg];rfl
 unfold yk;rw[hlen,e1,e2,e3,e8,ef,if_neg (by omega),if_neg (by simp),if_neg (by omega)];have:xy size f=(yB size f,0):=by
  unfold xy;rw[if_neg (by omega),if_neg (by omega),Int.toNat_natCast]
 rw[if_pos this]
theorem uE {bs:List UInt8} (h:(yk bs).2=0):(yk bs).1=xu bs/\xy bs.length (xu bs)=(bs,0):=by
 unfold yk at h ⊢;split at h
 ·cases h
 ·split at h
  ·cases h
  ·split at h
   ·cases h
   ·split at h
    ·rename_i h1 h2 h3 h4;rw[if_neg h1,if_neg h2,if_neg h3,if_pos h4];exact⟨rfl,h4⟩
    ·cases h
theorem zmT {bs:List UInt8} (h:(yk bs).2≠0):(yk bs).1=ui:=by
 unfold yk at h ⊢;split
 ·rfl
 ·split
  ·rfl
  ·split
   ·rfl
   ·split
    ·rename_i h1 h2 h3 h4;rw[if_neg h1,if_neg h2,if_neg h3,if_pos h4]at h;exact absurd rfl h
    ·rfl
theorem zeP (bs:List UInt8):(xu bs).2.1<18446744073709551616:=by
 have h:=jn ((bs.drop 4).take 8);have h2:((bs.drop 4).take 8).length<=8:=by simp;omega
 have:256 ^ ((bs.drop 4).take 8).length<=256 ^ 8:=Nat.pow_le_pow_right (by omega) h2;unfold xu;dsimp only;omega
theorem zmU (bs:List UInt8):(yk bs).1.2.1<18446744073709551616:=by
 by_cases h:(yk bs).2=0
 ·rw[(uE h).1];exact zeP bs
 ·rw[zmT h];decide
theorem zaa {w:World} {b o n c v k:Nat} {cs:List Value} {t:TypeId} (hb:Blk w b cs t) (ho:o+c<=cs.length) (hn:n+k<=c) (hc:c<=9223372036854775000) (hv:v<18446744073709551616) (hk1:1<=k) (hk:k<=8):
  Calls prog 42 #[.slice (some ⟨b,o,none⟩) n c,.int .u64 (v:Int),.int .i64 (k:Int)] w (Ret fun r w'=>r=.slice (some ⟨b,o,none⟩) (n+k) c/\Blk w' b (cs.take (o+n)++bV (le k v)++cs.drop (o+n+k)) t/\w.grownBy w' (some b)):=by
 apply zi0;unfold S42;refine zd (decide_eq_false (by omega)) ?_;refine zd (decide_eq_false (by omega)) ?_;refine zu (fun x w'=>∃ i:Nat,i<=k/\x=((some ⟨b,o,none⟩,n+i,c),(i:Int),())/\Blk w' b (cs.take (o+n)++bV (le i v)++cs.drop (o+n+i)) t/\w.grownBy w' (some b)) (fun x=>(k-x.2.1).toNat)
  ⟨0,by omega,rfl,by simpa [le,bV] using hb,xL _ _⟩ ?_
 rintro _ w' ⟨i,hi,rfl,hbi,hg⟩;dsimp only;have hlen:(cs.take (o+n)++bV (le i v)++cs.drop (o+n+i)).length=cs.length:=by
  simp only [length_append,length_take,length_drop,yZ,zy];omega
 by_cases hlt:i<k
 ·refine zf (decide_eq_true (by omega)) ?_;have e1:wrap .i64 ((8:Int)*(i:Int))=((8*i:Nat):Int):=by
   rw[wrap_i64 (by omega) (by omega)];omega
  rw[e1];refine⟨by omega,?_⟩;rw[zdR .u64 v (8*i) (by simp[IntKind.bits];omega),yN,Nat.pow_mul,show(2:Nat) ^ 8=256 from rfl];refine zbY (ys:=bV [UInt8.ofNat (v / 256 ^ i)]) xE hbi (by omega) (by simp[bV];omega) (by omega) (uR _) ?_;intro w2 hb2 hg2;refine⟨⟨i+1,by omega,?_,?_,xn hg hg2 (fun j hj=>.inl hj)⟩,?_⟩
  ·rw[wrap_i64 (by omega) (by omega)];rfl
  ·have hpl:(cs.take (o+n)++bV (le i v)).length=o+(n+i):=by
    simp only [length_append,length_take,yZ,zy];omega
   have e2:(cs.take (o+n)++bV (le i v)++cs.drop (o+n+i)).take (o+(n+i))=cs.take (o+n)++bV (le i v):=take_left' hpl;have e3:(cs.take (o+n)++bV (le i v)++cs.drop (o+n+i)).drop (o+(n+i)+(bV [UInt8.ofNat (v / 256 ^ i)]).length)=cs.drop (o+n+(i+1)):=by
    rw[<- drop_drop,drop_left' hpl,drop_drop];rfl
   rw[e2,e3]at hb2;rw[le_succ,xi,<- append_assoc];exact hb2
  ·rw[wrap_i64 (by omega) (by omega)];omega
 ·obtain rfl:i=k:=by omega
  refine zd (decide_eq_false (by omega)) ?_;exact⟨rfl,hbi,hg⟩
theorem zbt (w:World) (size:Int) {f:Fra} (hg:f.2.1<18446744073709551616):Calls prog 123 #[.int .i64 size,.agg (fV f).toArray] w (Ret fun v w'=>v=.tuple #[.string ⟨(xy size f).1.toArray⟩,.int .i64 (xy size f).2]/\Ext w w'):=by
 apply zlV;unfold S123 xy;refine zs fun r1 w1 hb1 he1 hr1 _=>?_;refine zb (jz w1 size) ?_;rintro _ w2 ⟨rfl,he2⟩;refine⟨_,rfl,?_⟩;have he2:=he1.trans he2;have hb1:=hb1.ext (by assumption);have hds:=zP f.2.2;rcases uZ size with h0|⟨h0,h1,h2,hgeo⟩
 ·rw[h0,if_pos rfl];exact zf (by rfl) ⟨rfl,he2⟩
 rw[if_neg (by omega)];refine zd (by rw[beq_eq_false_iff_ne];omega) ?_;refine zk 2 f.2.2 hb1 (by rfl) ?_;refine zg (fun hlong=>?_) (fun hfit=>?_)
 ·have hlong:=of_decide_eq_true hlong;rw[if_pos (by omega)];exact⟨rfl,he2⟩
 have hfit:=of_decide_eq_false hfit;rw[if_neg (by omega)];obtain⟨sz,rfl⟩:∃ sz:Nat,size=sz:=⟨size.toNat,by omega⟩;rw[Int.toNat_natCast];generalize hd:(B f.2.2).length=d at *;refine uQ (B:=w2.heap.size) xE rfl (Nat.le_refl _) (by omega) (by omega) ?_;intro w3 ho3 hg3;have hrow:Blk w3 w2.heap.size (List.replicate sz (.int .u8 0)) 5:=zdV ho3;have he3:Ext w w3:=he2.none hg3;have h23:Ext w2 w3:=(Ext.refl w2).none hg3;have hb1:=hb1.ext h23;have hsz:=he2.size;have hr1lt:=he1.size;have hw1:r1<w2.heap.size:=by have:=(hb1).lt;have:=he2.size;have hh:w1.heap.size<=w2.heap.size:=(by assumption:Ext w1 w2).size;omega
 generalize hbb:w2.heap.size=b at *;have ez:(List.replicate sz (Value.int .u8 0))=bV (List.replicate sz 0):=by simp[bV]
 rw[ez]at hrow;refine zK fun w4 he4 _ _=>?_;have hrow:=hrow.ext he4;have hb1:=hb1.ext he4;have he4:=he3.trans he4;refine zE ⟨by omega,by omega,by dsimp only;omega⟩ ?_;refine zC (f.1.toNat:Int) hb1 (by rfl) ?_;have hcut:zn (some (aD b)) 0 (Int.toNat 12) 1=some ⟨b,0,none⟩:=rfl;dsimp only;rw[hcut,show Int.toNat 0=0 from rfl,show Int.toNat 12=12 from rfl];have e0:#[Value.int .u8 (f.1.toNat:Int),Value.int .u8 0]=(bV [f.1,0]).toArray:=rfl;rw[e0];have grow:∀ {w' w'':World},Ext w w'->w'.grownBy w'' (some b)->Ext w w'':=fun he hg=>he.grown hg (fun j hj=>by injection hj with hj;omega);have keep:∀ {w' w'':World} {cs:List Value} {t:TypeId},Blk w' r1 cs t->w'.grownBy w'' (some b)->Blk w'' r1 cs t:=fun h hg=>h.grown hg (by simp;omega);have hrl:∀ k:Nat,(bV (List.replicate k (0:UInt8))).length=k:=fun k=>by rw[yZ,length_replicate]
 refine zbY (ys:=bV [f.1,0]) (n:=0) (c:=12) xE hrow (by rw[hrl];omega) (by simp[bV]) (by omega) (uR _) ?_;intro w5 hrow5 hg5;have he5:=grow he4 hg5;have hb1:=keep hb1 hg5;have s5:(bV (List.replicate sz (0:UInt8))).take (0+0)++bV [f.1,0]++(bV (List.replicate sz (0:UInt8))).drop (0+0+(bV [f.1,0]).length)=bV ([f.1,0]++List.replicate (sz-2) 0):=by
  rw[xi];simp[bV]
 rw[s5]at hrow5;dsimp only;refine zk 2 f.2.2 hb1 (by rfl) ?_;rw[hds,zz (by omega)];refine zb (zaa (o:=0) (n:=0+(bV [f.1,0]).length) (c:=12) (k:=2) hrow5 (by rw[yZ];simp;omega) (by simp[bV]) (by omega) (by omega) (by omega) (by omega)) ?_;rintro _ w6 ⟨rfl,hrow6,hg6⟩;refine⟨(some ⟨b,0,none⟩,0+(bV [f.1,0]).length+2,12),rfl,?_⟩;have he6:=grow he5 hg6;have hb1:=keep hb1 hg6;have s6:(bV ([f.1,0]++List.replicate (sz-2) 0)).take (0+(0+(bV [f.1,0]).length))++bV (le 2 d)++(bV ([f.1,0]++List.replicate (sz-2) 0)).drop (0+(0+(bV [f.1,0]).length)+2)=bV (([f.1,0]++le 2 d)++List.replicate (sz-2-2) 0):=by
  have:=zeO [f.1,0] (le 2 d) (sz-2) (by rw[zy];omega);rw[zy]at this;rw[jm,vC,<- xi,<- xi];exact congrArg bV this
 rw[s6]at hrow6;dsimp only;refine zk 1 (f.2.1:Int) hb1 (by rfl) ?_;refine zb (zaa (o:=0) (c:=12) (k:=8) hrow6 (by rw[yZ];simp[zy];omega) (by simp[bV]) (by omega) hg (by omega) (by omega)) ?_;rintro _ w7 ⟨rfl,hrow7,hg7⟩;refine⟨(some ⟨b,0,none⟩,0+(bV [f.1,0]).length+2+8,12),rfl,?_⟩;have he7:=grow he6 hg7;have hb1:=keep hb1 hg7;have s7:(bV (([f.1,0]++le 2 d)++List.replicate (sz-2-2) 0)).take (0+(0+(bV [f.1,0]).length+2))++bV (le 8 f.2.1)++(bV (([f.1,0]++le 2 d)++List.replicate (sz-2-2) 0)).drop (0+(0+(bV [f.1,0]).length+2)+8)=bV (kH f++List.replicate (sz-12) 0):=by
  have:=zeO ([f.1,0]++le 2 d) (le 8 f.2.1) (sz-2-2) (by rw[zy];omega);rw[zy]at this;have hh:kH f=[f.1,0]++le 2 d++le 8 f.2.1:=by unfold kH;rw[hd]
  have hl4:([f.1,0]++le 2 d).length=4:=by simp[zy]
  rw[hl4]at this;rw[hh,show sz-12=sz-2-2-8 by omega,<- this,jm,vC,<- xi,<- xi];rfl
 rw[s7]at hrow7;refine zK fun w8 he8 _ _=>?_;have hrow8:=hrow7.ext he8;have hb1:=hb1.ext he8;have he8:=he7.trans he8;refine zE ⟨by omega,by omega⟩ ?_;refine zk 2 f.2.2 hb1 (by rfl) ?_;have hcut2:zn (some (aD b)) 12 sz 1=some ⟨b,12,none⟩:=by
  unfold zn;rw[if_neg (by show ¬sz=12;omega)];show some ((aD b).add 12)=_;rw[zx,Nat.zero_add]
 rw[hcut2];refine zmR xE hrow8 (by rw[yZ,length_append,uX,length_replicate];omega) ?_;intro w9 hrow9 hg9;have he9:=grow he8 hg9;have s9:(bV (kH f++List.replicate (sz-12) 0)).take 12++bV ((B f.2.2).take (sz-12))++(bV (kH f++List.replicate (sz-12) 0)).drop (12+min (B f.2.2).length (sz-12))=bV (xW sz f++List.replicate 4 0):=by
  have:=zeO (kH f) (B f.2.2) (sz-12) (by omega);rw[uX]at this;rw[take_of_length_le (show(B f.2.2).length<=sz-12 by omega),Nat.min_eq_left (by omega),jm,vC,<- xi,<- xi,this];congr 1;unfold xW;rw[append_assoc (kH f++B f.2.2),hd,List.replicate_append_replicate];congr 2;omega
 rw[s9]at hrow9;have hbody:(xW sz f).length=sz-4:=uY (by omega);refine zK fun w10 he10 _ _=>?_;have hrow10:=hrow9.ext he10;have he10:=he9.trans he10;rw[wrap_i64 (x:=(sz:Int)-4) (by omega) (by omega),show Int.toNat ((sz:Int)-4)=sz-4 by omega];refine zE ⟨by omega,by omega,by omega,by omega⟩ (zE ⟨by omega,by omega⟩ ?_);have hsl:Sl w10 (zn (some ⟨b,0,none⟩) 0 sz 1) (sz-4) (bV (xW sz f)):=by
  have:=(Sl.xX hrow10 (n:=sz) (by rw[yZ,length_append,hbody,length_replicate];omega) (by omega)).zfl (k:=sz-4) (m:=sz) (by omega) (by omega);rw[jm,take_left' hbody]at this;exact this
 refine zb (zfX hsl) ?_;rintro _ w11 ⟨rfl,he11⟩;refine⟨_,rfl,?_⟩;have hrow11:=hrow10.ext he11;have he11:=he10.trans he11;have hclt:=(crc (xW sz f)).isLt;rw[zz (by omega)];have hcut3:zn (some (aD b)) (sz-4) sz 1=some ⟨b,sz-4,none⟩:=by
  unfold zn;rw[if_neg (by omega)];show some ((aD b).add ((sz-4)*1))=_;rw[zx,Nat.zero_add,Nat.mul_one]
 rw[hcut3,Nat.sub_self,show sz-(sz-4)=4 by omega];refine zb (zaa (o:=sz-4) (n:=0) (c:=4) (k:=4) hrow11 (by rw[yZ,length_append,hbody,length_replicate];omega) (by omega) (by omega) (by omega) (by omega) (by omega)) ?_;rintro _ w12 ⟨rfl,hrow12,hg12⟩;refine⟨(some ⟨b,sz-4,none⟩,0+4,4),rfl,?_⟩;have he12:=grow he11 hg12;have s12:(bV (xW sz f++List.replicate 4 0)).take (sz-4+0)++bV (le 4 (crc (xW sz f)).toNat)++(bV (xW sz f++List.replicate 4 0)).drop (sz-4+0+4)=bV (yB sz f):=by
  have:=zeO (xW sz f) (le 4 (crc (xW sz f)).toNat) 4 (by rw[zy];omega);rw[hbody,zy]at this;rw[jm,vC,<- xi,<- xi,Nat.add_zero,this];simp[yB]
 rw[s12]at hrow12;refine qa (e:=5) (by kernel_rfl) (by kernel_rfl) (by kernel_rfl) (Sl.xX hrow12 (by rw[yZ,kB (by omega)]) (by omega)) ?_;exact⟨rfl,he12⟩
end V
end Go.Proofs.YtplgodmmmppmeaaGreat
