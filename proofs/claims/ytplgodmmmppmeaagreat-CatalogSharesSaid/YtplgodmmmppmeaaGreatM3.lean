/- Texts of mine, merged (wip/tool/mergep.py): S, KKit, KSchema, DecSchema, KSchema2, SchP, HP, KGeo, HI, KIter, Crc, Crc2, KCrc, KFrame, HH. -/
import Derived.Test.YtplgodmmmppmeaaGreatM1
import Derived.Test.YtplgodmmmppmeaaGreatChecked
import Derived.Test.YtplgodmmmppmeaaGreatM2
import Derived.Lib.AppendZerosOnto
import Derived.RangeFuncRecord
import Derived.Laws.CopyRow
open Go.IntKind (wrap)
open Go.Proofs.Tryz (prog)
open List (mem_cons_self mem_cons_of_mem mem_cons length_cons map_map mem_append mem_append_left drop_drop mem_range mem_of_getElem? getElem_mem mem_iff_getElem map_cons mem_map append_assoc nodup_cons foldl_cons length_nil append_nil length_map length_set eq_nil_of_length_eq_zero range_succ map_congr_left length_append drop_of_length_le take_of_length_le getD_eq_getElem?_getD drop_eq_getElem_cons mem_singleton not_mem_nil take_succ_eq_append_getElem all_eq_true flatMap_cons length_take length_drop take_add_one length_replicate take_left' drop_left' length_singleton map_append length_range getElem_range flatMap_append count_cons count_eq_zero)
set_option linter.unusedVariables false
set_option linter.unusedSimpArgs false
namespace Go.Proofs.YtplgodmmmppmeaaGreat
/- The shallow forms of the functions,by a program of mine (wip/tool/gen.py). -/
set_option maxRecDepth 100000
namespace V
open Go Go.Proofs
theorem zpx (a0:Option Addr) (n0 c0:Nat) (a1:Option Addr) (n1 c1:Nat) {K:Value->WP} {w:World} (h:S92 a0 n0 c0 a1 n1 c1 K w):Calls prog 92 #[(.slice a0 n0 c0),(.slice a1 n1 c1)] w (Ret K):=cF an92 false Tryz.func92 h
def an93:Ann:=(AN (AR (AN (AQ AO AP)) (AR (AN (.block (.loop [(2,.sh (.one .slc)),(12,.sh (.one (.int .i64)))] [10,11,1000000] (AN (AR (AQ AP AP) (AR (.block AO) AP)))))) AO)))
def S93 (x0:Option Addr) (K:Value->WP):WP:=
 za (Option.isNone x0) (K (.slice none 0 0))<|
 zh x0 fun(p1:Addr)=>
 ldW .slc (p1.add 2) fun(u2:SLC)=>
 zz (SLC×Int×Unit) ((none,0,0),(0:Int),()) fun(y4:SLC×Int×Unit) (I3:(SLC×Int×Unit)->WP)=>
 za (decide (y4.2.1<((u2.2.1:Nat):Int))) (zc (0<=y4.2.1/\y4.2.1<((u2.2.1:Nat):Int))<|
 zh u2.1 fun(p5:Addr)=>
 ldW (.int .u16) (p5.add (Int.toNat y4.2.1*1)) fun(u6:Int)=>
 zi (.cells #[(.int .i64 (wrap .i64 u6))] 3) fun(r7:Nat)=>
 zy prog (Builtin.append_ #[150,150] 150 #[(.slice y4.1.1 y4.1.2.1 y4.1.2.2),(.slice (some (aD r7)) 1 1)]) .slc fun(u8:SLC)=>I3 ((u8.1,u8.2.1,u8.2.2),(wrap .i64 (y4.2.1+(1:Int))),()))<|K (.slice y4.1.1 y4.1.2.1 y4.1.2.2)
theorem zpy (x0:Option Addr) {K:Value->WP} {w:World} (h:S93 x0 K w):Calls prog 93 #[(.pointer x0)] w (Ret K):=cF an93 false Tryz.func93 h
def an95:Ann:=(AN (AR (AN (.block (.loop [(19,.sh (.one (.int .i64)))] [0,3,6,17,18,1000000] (AN (AR (AQ AP AP) (AR (.block (AN (AN (AN (AQ AO AP))))) AP)))))) (AR (AN (AN (AQ AO AP))) (AN (AR (AN (AQ AO AP)) (AR (AN (AN (AQ AO AP))) AO))))))
def S95 (x0:Option Addr) (x1:Option Addr) (AC:Int) (AD:Int) (AE:Int) (AI:Int) (AJ:Option Addr) (AK AL:Nat) (x3:Int) (K:Value->WP):WP:=
 zi (.cells #[(.int .u64 AC),(.int .i64 AD),(.int .i64 AE),(.int .u32 AI),(.slice AJ AK AL)] 79) fun(r1:Nat)=>
 ze prog 141 [(.pointer x1)] (.one (.one .slc)) fun(u2:SLC)=>
 zz (Int×Unit) ((0:Int),()) fun(y4:Int×Unit) (I3:(Int×Unit)->WP)=>
 za (decide (y4.1<((u2.2.1:Nat):Int))) (zc (0<=y4.1/\y4.1<((u2.2.1:Nat):Int))<|
 zh u2.1 fun(p5:Addr)=>
 ldW .str (p5.add (Int.toNat y4.1*1)) fun(u6:ByteArray)=>
 zB<|
 ldW .slc ((aD r1).add 4) fun(u7:SLC)=>
 zc (0<=y4.1/\y4.1<((u7.2.1:Nat):Int))<|
 zh u7.1 fun(p8:Addr)=>
 ldW (.int .u32) (p8.add (Int.toNat y4.1*1)) fun(u9:Int)=>
 ldW (.int .u64) (aD r1) fun(u10:Int)=>
 ze prog 78 [(.pointer x0),(.int .u32 u9),(.agg #[(.int .u8 (2:Int)),(.int .u64 u10),(.string u6)])] (.one (.one (.int .i64))) fun(u11:Int)=>
 za (u11 !=(0:Int)) (K (.int .i64 u11))<|I3 ((wrap .i64 (y4.1+(1:Int))),()))<|
 ze prog 142 [(.pointer x0)] (.one (.one (.int .i64))) fun(u12:Int)=>
 za (u12 !=(0:Int)) (K (.int .i64 u12))<|
 zk [(.int .u64),(.int .i64),(.int .i64),(.int .u32),.slc] (aD r1) fun(u13:(Int×Int×Int×Int×SLC×Unit))=>
 ze prog 143 [(.agg #[(.int .u64 u13.1),(.int .i64 u13.2.1),(.int .i64 u13.2.2.1),(.int .u32 u13.2.2.2.1),(.slice u13.2.2.2.2.1.1 u13.2.2.2.2.1.2.1 u13.2.2.2.2.1.2.2)])] (.many [(.one .str),(.one (.int .i64))]) fun(u14:ByteArray×Int×Unit)=>
 za (u14.2.1 !=(0:Int)) (K (.int .i64 u14.2.1))<|
 ze prog 118 [(.pointer x0),(.int .i64 x3),(.string u14.1)] (.one (.one (.int .i64))) fun(u15:Int)=>
 za (u15 !=(0:Int)) (K (.int .i64 u15))<|
 ze prog 142 [(.pointer x0)] (.one (.one (.int .i64))) fun(u16:Int)=>K (.int .i64 u16)
theorem zpz (x0:Option Addr) (x1:Option Addr) (AC:Int) (AD:Int) (AE:Int) (AI:Int) (AJ:Option Addr) (AK AL:Nat) (x3:Int) {K:Value->WP} {w:World} (h:S95 x0 x1 AC AD AE AI AJ AK AL x3 K w):Calls prog 95 #[(.pointer x0),(.pointer x1),(.agg #[(.int .u64 AC),(.int .i64 AD),(.int .i64 AE),(.int .u32 AI),(.slice AJ AK AL)]),(.int .i64 x3)] w (Ret K):=cF an95 false Tryz.func95 h
def an96:Ann:=(AN (AR (AN (AQ AO AP)) AO))
def S96 (x0:Option Addr) (K:Value->WP):WP:=
 za (Option.isNone x0) (K (.pointer none))<|
 zB<|
 zh x0 fun(p1:Addr)=>
 zk [(.int .i64),(.int .i64)] p1 fun(u2:(Int×Int×Unit))=>
 zh x0 fun(p3:Addr)=>
 ldW .slc (p3.add 2) fun(u4:SLC)=>
 ze prog 144 [(.slice u4.1 u4.2.1 u4.2.2)] (.one (.one .slc)) fun(u5:SLC)=>
 zt [[(p1.add 0,(.int .i64 u2.1)),(p1.add 1,(.int .i64 u2.2.1))]]<|
 zi (.cells #[(.int .i64 u2.1),(.int .i64 u2.2.1),(.slice u5.1 u5.2.1 u5.2.2)] 193) fun(r6:Nat)=>K (.pointer (some (aD r6)))
theorem zpA (x0:Option Addr) {K:Value->WP} {w:World} (h:S96 x0 K w):Calls prog 96 #[(.pointer x0)] w (Ret K):=cF an96 false Tryz.func96 h
def an106:Ann:=(AN (AR (AN (AQ AO AP)) (AR (AN (.block (.loop [(16,.sh (.one (.int .i64)))] [0,14,15,1000000] (AN (AR (AQ AP AP) (AR (.block (AN (AR (AN (AN (AQ AO AP))) (AN (AQ AO AP))))) AP)))))) AO)))
def S106 (a0:Option Addr) (n0 c0:Nat) (K:Value->WP):WP:=
 za (decide (((n0:Nat):Int)<(1:Int))) (K (.int .i64 (171:Int)))<|
 za (decide (((n0:Nat):Int)>(16:Int))) (K (.int .i64 (171:Int)))<|
 zz (Int×Unit) ((0:Int),()) fun(y2:Int×Unit) (I1:(Int×Unit)->WP)=>
 za (decide (y2.1<((n0:Nat):Int))) (zc (0<=y2.1/\y2.1<((n0:Nat):Int))<|
 zh a0 fun(p3:Addr)=>
 zk [.str,(.int .i64),.bool] (p3.add (Int.toNat y2.1*3)) fun(u4:(ByteArray×Int×Bool×Unit))=>
 zi (.cells #[(.string ByteArray.empty),(.int .i64 (0:Int)),(.bool false)] 62) fun(r5:Nat)=>
 zc ((#[(.string u4.1),(.int .i64 u4.2.1),(.bool u4.2.2.1)]:Array Value).size=3)<|
 zu (aD r5) [(.string u4.1),(.int .i64 u4.2.1),(.bool u4.2.2.1)]<|
 ldW .str (aD r5) fun(u6:ByteArray)=>
 ze prog 110 [(.string u6)] (.one (.one (.int .i64))) fun(u7:Int)=>
 za (u7 !=(0:Int)) (K (.int .i64 u7))<|
 ldW (.int .i64) ((aD r5).add 1) fun(u8:Int)=>
 za (decide (u8<(1:Int))) (K (.int .i64 (171:Int)))<|
 ldW (.int .i64) ((aD r5).add 1) fun(u9:Int)=>
 za (decide (u9>(3:Int))) (K (.int .i64 (171:Int)))<|
 zc (0<=y2.1/\y2.1<=((c0:Nat):Int))<|
 ze prog 154 [(.slice (zo a0 0 c0 3) (Int.toNat y2.1) c0),(.func (.func 155) #[] #[(.pointer (some (aD r5)))])] (.one (.one .bool)) fun(u10:Bool)=>
 za u10 (K (.int .i64 (171:Int)))<|I1 ((wrap .i64 (y2.1+(1:Int))),()))<|K (.int .i64 (0:Int))
theorem zmb (a0:Option Addr) (n0 c0:Nat) {K:Value->WP} {w:World} (h:S106 a0 n0 c0 K w):Calls prog 106 #[(.slice a0 n0 c0)] w (Ret K):=cF an106 false Tryz.func106 h
def an107:Ann:=(AN (AR (AN (AQ AO AP)) (AR (AN (.block (.loop [(10,.sh (.one (.int .i64))),(11,.sh (.one (.int .u8)))] [] (AN (.block AP))))) AO)))
def S107 (a0:Option Addr) (n0 c0:Nat) (K:Value->WP):WP:=
 zi (.cells #[(.int .u64 (0:Int))] 42) fun(r1:Nat)=>
 za (decide (((n0:Nat):Int)>(8:Int))) (stW (aD r1) (.int .u64 (0:Int))<|
 zO prog []<|
 ldW (.int .u64) (aD r1) fun(u2:Int)=>K (.int .u64 u2))<|
 ze prog 156 [(.slice a0 n0 c0)] (.one (.one .any)) fun(u3:Value)=>
 jc prog u3 (Int×Int×Unit) (fun(t4:Int×Int×Unit)=>[(.int .i64 t4.1),(.int .u8 t4.2.1)]) (fun(t4:Int×Int×Unit) (B5:WP->WP) (N6:WP) (Q7:Code->WP)=>B5 (ldW (.int .u64) (aD r1) fun(u10:Int)=>
 stW (aD r1) (.int .u64 (ior .u64 (ishl .u64 u10 (8:Int)) (wrap .u64 t4.2.1)))<|N6)) fun(r8:Nat) (p9:Option Code)=>
 qG (ldW (.int .u64) (aD r1) fun(u11:Int)=>
 stW (aD r1) (.int .u64 u11)<|
 zO prog (⟨.collected r8,#[]⟩::[])<|
 ldW (.int .u64) (aD r1) fun(u12:Int)=>K (.int .u64 u12)) (zO prog (⟨.collected r8,#[]⟩::[])<|
 ldW (.int .u64) (aD r1) fun(u13:Int)=>K (.int .u64 u13)) [] p9
theorem zmc (a0:Option Addr) (n0 c0:Nat) {K:Value->WP} {w:World} (h:S107 a0 n0 c0 K w):Calls prog 107 #[(.slice a0 n0 c0)] w (Ret K):=cF an107 true Tryz.func107 h
def an108:Ann:=(AN (.join [] [0,1,1000000] (AN (AQ AP AP)) (AR (AN (AQ AO AP)) (AN (AN AO)))))
def S108 (x0:Option Addr) (x1:Int) (K:Value->WP):WP:=
 yQ (Unit) (fun(J1:(Unit)->WP)=>
 zh x0 fun(p3:Addr)=>
 ldW (.int .i64) (p3.add 1) fun(u4:Int)=>
 za (u4==(0:Int)) (zh x0 fun(p5:Addr)=>
 ldW .str p5 fun(u6:ByteArray)=>
 za (decide (x1>((u6.size:Nat):Int))) (zh x0 fun(p7:Addr)=>
 stW (p7.add 1) (.int .i64 (240:Int))<|J1 ())<|J1 ())<|J1 ()) fun(y2:Unit)=>
 zh x0 fun(p8:Addr)=>
 ldW (.int .i64) (p8.add 1) fun(u9:Int)=>
 za (u9 !=(0:Int)) (K (.string (ByteArray.mk #[])))<|
 zh x0 fun(p10:Addr)=>
 ldW .str p10 fun(u11:ByteArray)=>
 zc (0<=x1/\x1<=((u11.size:Nat):Int))<|
 zh x0 fun(p12:Addr)=>
 ldW .str p12 fun(u13:ByteArray)=>
 zc (0<=x1/\x1<=((u13.size:Nat):Int))<|
 zh x0 fun(p14:Addr)=>
 stW p14 (.string (ByteArray.extract u13 (Int.toNat x1) u13.size))<|K (.string (ByteArray.extract u11 0 (Int.toNat x1)))
theorem zmd (x0:Option Addr) (x1:Int) {K:Value->WP} {w:World} (h:S108 x0 x1 K w):Calls prog 108 #[(.pointer x0),(.int .i64 x1)] w (Ret K):=cF an108 false Tryz.func108 h
def an109:Ann:=(AN (AR (AN (AQ AO AP)) (AN (AR (AN (.block (.loop [(2,.sh (.one .slc)),(3,.sh (.one .str)),(17,.sh (.one (.int .i64)))] [16,1000000] (AN (AR (AQ AP AP) (AR (.block (AN (AR (AN (AQ AO AP)) AP))) AP)))))) (AR (AN (AQ AO AP)) AO)))))
def S109 (x0:ByteArray) (K:Value->WP):WP:=
 za (x0.toList==(ByteArray.mk #[]).toList) (K (.tuple #[(.slice none 0 0),(.string (ByteArray.mk #[])),(.int .i64 (171:Int))]))<|
 zB<|
 zc (0<=(0:Int)/\(0:Int)<((x0.size:Nat):Int))<|
 zc (0<=(1:Int)/\(1:Int)<=((x0.size:Nat):Int))<|
 zz (SLC×ByteArray×Int×Unit) ((none,0,0),(ByteArray.extract x0 (Int.toNat (1:Int)) x0.size),(0:Int),()) fun(y2:SLC×ByteArray×Int×Unit) (I1:(SLC×ByteArray×Int×Unit)->WP)=>
 za (decide (y2.2.2.1<(wrap .i64 (bt x0 (0:Int))))) (ze prog 157 [(.string y2.2.1)] (.many [(.agg [.str,(.int .i64),.bool]),(.one .str),(.one .bool)]) fun(u3:(ByteArray×Int×Bool×Unit)×ByteArray×Bool×Unit)=>
 zi (.cells #[(.string ByteArray.empty),(.int .i64 (0:Int)),(.bool false)] 62) fun(r4:Nat)=>
 zc ((#[(.string u3.1.1),(.int .i64 u3.1.2.1),(.bool u3.1.2.2.1)]:Array Value).size=3)<|
 zu (aD r4) [(.string u3.1.1),(.int .i64 u3.1.2.1),(.bool u3.1.2.2.1)]<|
 za (!u3.2.2.1) (K (.tuple #[(.slice none 0 0),(.string (ByteArray.mk #[])),(.int .i64 (171:Int))]))<|
 zk [.str,(.int .i64),.bool] (aD r4) fun(u5:(ByteArray×Int×Bool×Unit))=>
 zi (.cells #[(.string u5.1),(.int .i64 u5.2.1),(.bool u5.2.2.1)] 62) fun(r6:Nat)=>
 zy prog (Builtin.append_ #[40,40] 40 #[(.slice y2.1.1 y2.1.2.1 y2.1.2.2),(.slice (some (aD r6)) 1 1)]) .slc fun(u7:SLC)=>I1 ((u7.1,u7.2.1,u7.2.2),u3.2.1,(wrap .i64 (y2.2.2.1+(1:Int))),()))<|
 ze prog 106 [(.slice y2.1.1 y2.1.2.1 y2.1.2.2)] (.one (.one (.int .i64))) fun(u8:Int)=>
 za (u8 !=(0:Int)) (K (.tuple #[(.slice none 0 0),(.string (ByteArray.mk #[])),(.int .i64 (171:Int))]))<|K (.tuple #[(.slice y2.1.1 y2.1.2.1 y2.1.2.2),(.string y2.2.1),(.int .i64 (0:Int))])
theorem zme (x0:ByteArray) {K:Value->WP} {w:World} (h:S109 x0 K w):Calls prog 109 #[(.string x0)] w (Ret K):=cF an109 false Tryz.func109 h
def an110:Ann:=(AN (AR (AN (AQ AO AP)) (AN (AR (AN (.block (.loop [] [14,1000000] (AN (AR (AQ AP AP) (.block (AN (.join [] [1000000] (.block (.join [(19,.sh (.one .bool))] [3,4,14,1000000] (AN (AQ AP (AN (AQ AP AP)))) (AQ AP (AN (AQ AP AP))))) AO)))))))) AO))))
def S110 (x0:ByteArray) (K:Value->WP):WP:=
 za (decide (((x0.size:Nat):Int)<(1:Int))) (K (.int .i64 (170:Int)))<|
 za (decide (((x0.size:Nat):Int)>(32:Int))) (K (.int .i64 (170:Int)))<|
 zi (.stringIter x0 0) fun(r1:Nat)=>
 zz (Unit) () fun(y3:Unit) (I2:(Unit)->WP)=>
 zoa r1 (fun(i4 c5:Int)=>
 za true (yQ (Unit) (fun(J6:(Unit)->WP)=>
 yQ (Bool×Unit) (fun(J8:(Bool×Unit)->WP)=>
 za (decide (c5>=(97:Int))) (za (decide (c5<=(122:Int))) (J8 ((decide (c5<=(122:Int))),()))<|
 za (decide (c5>=(65:Int))) (za (decide (c5<=(90:Int))) (J8 ((decide (c5<=(90:Int))),()))<|J8 ((c5==(95:Int)),()))<|J8 ((c5==(95:Int)),()))<|
 za (decide (c5>=(65:Int))) (za (decide (c5<=(90:Int))) (J8 ((decide (c5<=(90:Int))),()))<|J8 ((c5==(95:Int)),()))<|J8 ((c5==(95:Int)),())) fun(y9:Bool×Unit)=>
 za y9.1 (I2 ())<|
 za (decide (i4>(0:Int))) (za (decide (c5>=(48:Int))) (za (decide (c5<=(57:Int))) (I2 ())<|J6 ())<|J6 ())<|J6 ()) fun(y7:Unit)=>K (.int .i64 (170:Int)))<|K (.int .i64 (0:Int)))<|
 za false (zn)<|K (.int .i64 (0:Int))
theorem zmf (x0:ByteArray) {K:Value->WP} {w:World} (h:S110 x0 K w):Calls prog 110 #[(.string x0)] w (Ret K):=cF an110 false Tryz.func110 h
def an111:Ann:=(AN (AR (AN (AQ AO AP)) AO))
def S111 (Aa:Int) (Af:Int) (K:Value->WP):WP:=
 zi (.cells #[(.int .i64 Aa),(.int .i64 Af)] 72) fun(r1:Nat)=>
 ldW (.int .i64) (aD r1) fun(u2:Int)=>
 za (decide (u2<(128:Int))) (K (.int .i64 (2:Int)))<|
 ldW (.int .i64) (aD r1) fun(u3:Int)=>
 za (decide (u3>(4096:Int))) (K (.int .i64 (2:Int)))<|
 ldW (.int .i64) (aD r1) fun(u4:Int)=>
 za ((Int.tmod u4 (64:Int)) !=(0:Int)) (K (.int .i64 (2:Int)))<|
 ldW (.int .i64) ((aD r1).add 1) fun(u5:Int)=>
 za (decide (u5<(8:Int))) (K (.int .i64 (2:Int)))<|
 ldW (.int .i64) ((aD r1).add 1) fun(u6:Int)=>
 za (decide (u6>(4096:Int))) (K (.int .i64 (2:Int)))<|K (.int .i64 (0:Int))
theorem zmg (Aa:Int) (Af:Int) {K:Value->WP} {w:World} (h:S111 Aa Af K w):Calls prog 111 #[(.agg #[(.int .i64 Aa),(.int .i64 Af)])] w (Ret K):=cF an111 false Tryz.func111 h
def an112:Ann:=(AN (.join [] [0,1,1000000] (AN (AQ AP AP)) (AN (.join [] [0,6,1000000] (AN (AQ AP AP)) (AN (AN (AR (.block (.loop [(8,.sh (.one (.int .i64)))] [7,1000000] (AR (AN (AQ AP AP)) (.block AP)))) AO)))))))
def S112 (a0:Option Addr) (n0 c0:Nat) (x1:Int) (K:Value->WP):WP:=
 yQ (Unit) (fun(J1:(Unit)->WP)=>
 za (decide (x1<(0:Int))) (zn)<|J1 ()) fun(y2:Unit)=>
 ze prog 158 [(.int .u64 (wrap .u64 ((n0:Nat):Int))),(.int .u64 (wrap .u64 x1))] (.many [(.one (.int .u64)),(.one (.int .u64))]) fun(u3:Int×Int×Unit)=>
 yQ (Unit) (fun(J4:(Unit)->WP)=>
 za (decide (u3.1>(0:Int))) (zn)<|
 za (decide (u3.2.1>(9223372036854775807:Int))) (zn)<|J4 ()) fun(y5:Unit)=>
 zy prog (Instr.makeSlice 158 (.int .i64 (wrap .i64 u3.2.1)) (.int .i64 (wrap .i64 u3.2.1))) .slc fun(u6:SLC)=>
 zy prog (Builtin.copy_ #[158,158] 3 #[(.slice u6.1 u6.2.1 u6.2.2),(.slice a0 n0 c0)]) (.int .i64) fun(u7:Int)=>
 zz (Int×Unit) (u7,()) fun(y9:Int×Unit) (I8:(Int×Unit)->WP)=>
 za (decide (y9.1<((u6.2.1:Nat):Int))) (zB<|
 zc (0<=y9.1/\y9.1<=((u6.2.1:Nat):Int))<|
 zc (0<=y9.1/\y9.1<=((u6.2.2:Nat):Int))<|
 zy prog (Builtin.copy_ #[158,158] 3 #[(.slice (zo u6.1 (Int.toNat y9.1) u6.2.2 1) (u6.2.1-(Int.toNat y9.1)) (u6.2.2-(Int.toNat y9.1))),(.slice (zo u6.1 0 u6.2.2 1) (Int.toNat y9.1) u6.2.2)]) (.int .i64) fun(u10:Int)=>I8 ((wrap .i64 (y9.1+u10)),()))<|K (.slice u6.1 u6.2.1 u6.2.2)
theorem zmh (a0:Option Addr) (n0 c0:Nat) (x1:Int) {K:Value->WP} {w:World} (h:S112 a0 n0 c0 x1 K w):Calls prog 112 #[(.slice a0 n0 c0),(.int .i64 x1)] w (Ret K):=cF an112 false Tryz.func112 h
def an114:Ann:=(AN (AR (AN (AQ AO AP)) (AN (AN AO))))
def S114 (Aa:Int) (Af:Int) (K:Value->WP):WP:=
 zi (.cells #[(.int .i64 Aa),(.int .i64 Af)] 72) fun(r1:Nat)=>
 zk [(.int .i64),(.int .i64)] (aD r1) fun(u2:(Int×Int×Unit))=>
 ze prog 111 [(.agg #[(.int .i64 u2.1),(.int .i64 u2.2.1)])] (.one (.one (.int .i64))) fun(u3:Int)=>
 za (u3 !=(0:Int)) (K (.tuple #[(.pointer none),(.int .i64 (2:Int))]))<|
 zB<|
 zk [(.int .i64),(.int .i64)] (aD r1) fun(u4:(Int×Int×Unit))=>
 ldW (.int .i64) ((aD r1).add 1) fun(u5:Int)=>
 zy prog (Instr.makeSlice 191 (.int .i64 u5) (.int .i64 u5)) .slc fun(u6:SLC)=>
 zt [[((aD r1).add 0,(.int .i64 u4.1)),((aD r1).add 1,(.int .i64 u4.2.1))]]<|
 zi (.cells #[(.int .i64 u4.1),(.int .i64 u4.2.1),(.slice u6.1 u6.2.1 u6.2.2)] 193) fun(r7:Nat)=>
 zB<|
 zh (some (aD r7)) fun(p8:Addr)=>
 ldW .slc (p8.add 2) fun(u9:SLC)=>
 zh (some (aD r7)) fun(p10:Addr)=>
 ldW .slc (p10.add 2) fun(u11:SLC)=>
 zc (0<=(0:Int)/\(0:Int)<((u9.2.1:Nat):Int))<|
 zh u9.1 fun(p12:Addr)=>
 stW (p12.add (Int.toNat (0:Int)*1)) (.int .u16 (1:Int))<|
 zc (0<=(1:Int)/\(1:Int)<((u11.2.1:Nat):Int))<|
 zh u11.1 fun(p13:Addr)=>
 stW (p13.add (Int.toNat (1:Int)*1)) (.int .u16 (1:Int))<|K (.tuple #[(.pointer (some (aD r7))),(.int .i64 (0:Int))])
theorem zmi (Aa:Int) (Af:Int) {K:Value->WP} {w:World} (h:S114 Aa Af K w):Calls prog 114 #[(.agg #[(.int .i64 Aa),(.int .i64 Af)])] w (Ret K):=cF an114 false Tryz.func114 h
def an115:Ann:=(AN (AR (AN (AQ AO AP)) (AN AO)))
def S115 (Aa:Int) (Af:Int) (K:Value->WP):WP:=
 zi (.cells #[(.int .i64 Aa),(.int .i64 Af)] 72) fun(r1:Nat)=>
 zk [(.int .i64),(.int .i64)] (aD r1) fun(u2:(Int×Int×Unit))=>
 ze prog 111 [(.agg #[(.int .i64 u2.1),(.int .i64 u2.2.1)])] (.one (.one (.int .i64))) fun(u3:Int)=>
 za (u3 !=(0:Int)) (K (.int .i64 (0:Int)))<|
 ldW (.int .i64) (aD r1) fun(u4:Int)=>
 ze prog 121 [(.int .i64 u4)] (.one (.one (.int .i64))) fun(u5:Int)=>
 ldW (.int .i64) ((aD r1).add 1) fun(u6:Int)=>
 zc (u5≠0)<|K (.int .i64 (wrap .i64 (Int.tdiv (wrap .i64 ((wrap .i64 ((wrap .i64 ((2:Int)*u6))+u5))-(1:Int))) u5)))
theorem zhb (Aa:Int) (Af:Int) {K:Value->WP} {w:World} (h:S115 Aa Af K w):Calls prog 115 #[(.agg #[(.int .i64 Aa),(.int .i64 Af)])] w (Ret K):=cF an115 false Tryz.func115 h
def an116:Ann:=(AN (.join [] [0,1,1000000] (.block (AN (AQ AO (AN (AQ AO AP))))) (AR (AN (.block (.loop [(30,.sh (.one (.int .i64)))] [0,1,28,29,1000000] (AN (AR (AQ AP AP) (AR (.block (AN (AN (AQ (AN AO) AP)))) AP)))))) AO)))
def S116 (x0:Option Addr) (x1:Option Addr) (K:Value->WP):WP:=
 yQ (Unit) (fun(J1:(Unit)->WP)=>
 za (Option.isNone x0) (K (.tuple #[(.int .u32 (0:Int)),(.int .i64 (1:Int))]))<|
 zB<|
 za (!(Option.isNone x1)) (zh x1 fun(p3:Addr)=>
 zk [(.int .i64),(.int .i64)] p3 fun(u4:(Int×Int×Unit))=>
 zh x0 fun(p5:Addr)=>
 zk [(.int .i64),(.int .i64)] p5 fun(u6:(Int×Int×Unit))=>
 eqW prog (eqS .neq 72 (.tmp 18) (.tmp 22) (.agg #[(.int .i64 u4.1),(.int .i64 u4.2.1)]) (.agg #[(.int .i64 u6.1),(.int .i64 u6.2.1)])) fun(b7:Bool)=>
 za b7 (K (.tuple #[(.int .u32 (0:Int)),(.int .i64 (2:Int))]))<|J1 ())<|J1 ()) fun(y2:Unit)=>
 zh x0 fun(p8:Addr)=>
 ldW .slc (p8.add 2) fun(u9:SLC)=>
 zz (Int×Unit) ((0:Int),()) fun(y11:Int×Unit) (I10:(Int×Unit)->WP)=>
 za (decide (y11.1<((u9.2.1:Nat):Int))) (zc (0<=y11.1/\y11.1<((u9.2.1:Nat):Int))<|
 zh u9.1 fun(p12:Addr)=>
 ldW (.int .u16) (p12.add (Int.toNat y11.1*1)) fun(u13:Int)=>
 za (u13==(0:Int)) (ze prog 75 [(.pointer x1),(.int .u32 (wrap .u32 y11.1))] (.one (.one (.int .i64))) fun(u14:Int)=>
 za (u14==(0:Int)) (zh x0 fun(p15:Addr)=>
 ldW .slc (p15.add 2) fun(u16:SLC)=>
 zc (0<=y11.1/\y11.1<((u16.2.1:Nat):Int))<|
 zh u16.1 fun(p17:Addr)=>
 stW (p17.add (Int.toNat y11.1*1)) (.int .u16 (1:Int))<|K (.tuple #[(.int .u32 (wrap .u32 y11.1)),(.int .i64 (0:Int))]))<|I10 ((wrap .i64 (y11.1+(1:Int))),()))<|I10 ((wrap .i64 (y11.1+(1:Int))),()))<|K (.tuple #[(.int .u32 (0:Int)),(.int .i64 (9:Int))])
theorem zmj (x0:Option Addr) (x1:Option Addr) {K:Value->WP} {w:World} (h:S116 x0 x1 K w):Calls prog 116 #[(.pointer x0),(.pointer x1)] w (Ret K):=cF an116 false Tryz.func116 h
def an117:Ann:=(AN (AN (.join [] [1,3,1000000] (AN (AQ AO AP)) (AR (AN (.block (.loop [(40,.sh (.one (.int .i64)))] [1,3,38,39,1000000] (AN (AR (AQ AP AP) (AR (.block (AN (AN (AQ AO AP)))) AP)))))) (AR (AN (AQ AO AP)) AO)))))
def S117 (Aa:Int) (Af:Int) (Aq:Int) (Ay:Int) (AF:Option Addr) (AG AH:Nat) (K:Value->WP):WP:=
 zi (.cells #[(.int .u64 Aa),(.int .i64 Af),(.int .i64 Aq),(.int .u32 Ay),(.slice AF AG AH)] 79) fun(r1:Nat)=>
 yQ (Unit) (fun(J2:(Unit)->WP)=>
 zB<|
 zk [(.int .i64),(.int .i64)] ((aD r1).add 1) fun(u4:(Int×Int×Unit))=>
 ze prog 111 [(.agg #[(.int .i64 u4.1),(.int .i64 u4.2.1)])] (.one (.one (.int .i64))) fun(u5:Int)=>
 za (u5 !=(0:Int)) (K (.int .i64 (2:Int)))<|
 ldW (.int .u64) (aD r1) fun(u6:Int)=>
 za (u6==(0:Int)) (K (.int .i64 (2:Int)))<|
 ldW (.int .u32) ((aD r1).add 3) fun(u7:Int)=>
 za (u7 !=(0:Int)) (ldW (.int .u32) ((aD r1).add 3) fun(u8:Int)=>
 yw prog (.func (.func 161) #[] #[(.pointer (some (aD r1)))]) [(.int .u32 u8)] (.one (.one .bool)) fun(u9:Bool)=>
 za (!u9) (K (.int .i64 (2:Int)))<|
 ldW .slc ((aD r1).add 4) fun(u10:SLC)=>
 zk [(.int .i64),(.int .i64)] ((aD r1).add 1) fun(u11:(Int×Int×Unit))=>
 ze prog 115 [(.agg #[(.int .i64 u11.1),(.int .i64 u11.2.1)])] (.one (.one (.int .i64))) fun(u12:Int)=>
 zt [[(((aD r1).add 4),(.slice u10.1 u10.2.1 u10.2.2))]]<|
 za (((u10.2.1:Nat):Int) !=u12) (K (.int .i64 (2:Int)))<|J2 ())<|
 ldW .slc ((aD r1).add 4) fun(u13:SLC)=>
 zk [(.int .i64),(.int .i64)] ((aD r1).add 1) fun(u14:(Int×Int×Unit))=>
 ze prog 115 [(.agg #[(.int .i64 u14.1),(.int .i64 u14.2.1)])] (.one (.one (.int .i64))) fun(u15:Int)=>
 zt [[(((aD r1).add 4),(.slice u13.1 u13.2.1 u13.2.2))]]<|
 za (((u13.2.1:Nat):Int) !=u15) (K (.int .i64 (2:Int)))<|J2 ()) fun(y3:Unit)=>
 ldW .slc ((aD r1).add 4) fun(u16:SLC)=>
 zz (Int×Unit) ((0:Int),()) fun(y18:Int×Unit) (I17:(Int×Unit)->WP)=>
 za (decide (y18.1<((u16.2.1:Nat):Int))) (zc (0<=y18.1/\y18.1<((u16.2.1:Nat):Int))<|
 zh u16.1 fun(p19:Addr)=>
 ldW (.int .u32) (p19.add (Int.toNat y18.1*1)) fun(u20:Int)=>
 yw prog (.func (.func 161) #[] #[(.pointer (some (aD r1)))]) [(.int .u32 u20)] (.one (.one .bool)) fun(u21:Bool)=>
 za (!u21) (K (.int .i64 (2:Int)))<|
 ldW (.int .u32) ((aD r1).add 3) fun(u22:Int)=>
 za (u20==u22) (K (.int .i64 (2:Int)))<|
 ldW .slc ((aD r1).add 4) fun(u23:SLC)=>
 zc (0<=y18.1/\y18.1<=((u23.2.2:Nat):Int))<|
 ze prog 120 [(.slice (zo u23.1 0 u23.2.2 1) (Int.toNat y18.1) u23.2.2),(.int .u32 u20)] (.one (.one .bool)) fun(u24:Bool)=>
 za u24 (K (.int .i64 (2:Int)))<|I17 ((wrap .i64 (y18.1+(1:Int))),()))<|
 zB<|
 ldW .slc ((aD r1).add 4) fun(u25:SLC)=>
 ldW (.int .i64) ((aD r1).add 1) fun(u26:Int)=>
 ze prog 121 [(.int .i64 u26)] (.one (.one (.int .i64))) fun(u27:Int)=>
 zt [[(((aD r1).add 4),(.slice u25.1 u25.2.1 u25.2.2))]]<|
 za (decide ((wrap .i64 ((14:Int)+(wrap .i64 ((4:Int)*((u25.2.1:Nat):Int)))))>u27)) (K (.int .i64 (3:Int)))<|K (.int .i64 (0:Int))
theorem zmk (Aa:Int) (Af:Int) (Aq:Int) (Ay:Int) (AF:Option Addr) (AG AH:Nat) {K:Value->WP} {w:World} (h:S117 Aa Af Aq Ay AF AG AH K w):Calls prog 117 #[(.agg #[(.int .u64 Aa),(.int .i64 Af),(.int .i64 Aq),(.int .u32 Ay),(.slice AF AG AH)])] w (Ret K):=cF an117 false Tryz.func117 h
def an118:Ann:=(AN (AR (.block (AN (AQ AO (AN (AQ AO (AN (AQ AO AP))))))) (AN AO)))
def S118 (x0:Option Addr) (x1:Int) (x2:ByteArray) (K:Value->WP):WP:=
 za (Option.isNone x0) (K (.int .i64 (1:Int)))<|
 ze prog 162 [(.pointer x0),(.int .i64 x1)] (.one (.one .bool)) fun(u1:Bool)=>
 za (!u1) (K (.int .i64 (2:Int)))<|
 zh x0 fun(p2:Addr)=>
 ldW (.int .i64) p2 fun(u3:Int)=>
 za (((x2.size:Nat):Int) !=u3) (K (.int .i64 (2:Int)))<|
 ze prog 163 [(.pointer x0)] (.one (.one .bool)) fun(u4:Bool)=>
 za (!u4) (K (.int .i64 (8:Int)))<|
 zh x0 fun(p5:Addr)=>
 ldW .slc (p5.add 3) fun(u6:SLC)=>
 zi (.cells #[(.int .i64 x1),(.string x2)] 230) fun(r7:Nat)=>
 zy prog (Builtin.append_ #[159,159] 159 #[(.slice u6.1 u6.2.1 u6.2.2),(.slice (some (aD r7)) 1 1)]) .slc fun(u8:SLC)=>
 zh x0 fun(p9:Addr)=>
 stW (p9.add 3) (.slice u8.1 u8.2.1 u8.2.2)<|K (.int .i64 (0:Int))
theorem zml (x0:Option Addr) (x1:Int) (x2:ByteArray) {K:Value->WP} {w:World} (h:S118 x0 x1 x2 K w):Calls prog 118 #[(.pointer x0),(.int .i64 x1),(.string x2)] w (Ret K):=cF an118 false Tryz.func118 h
def an119:Ann:=(AN (AR (AN (.block (.loop [(8,.sh (.one (.int .i64)))] [0,1,7,1000000] (AN (AR (AQ AP AP) (AR (.block (AN (AN (AQ AO AP)))) AP)))))) AO))
def S119 (a0:Option Addr) (n0 c0:Nat) (x1:Value) (K:Value->WP):WP:=
 zz (Int×Unit) ((0:Int),()) fun(y2:Int×Unit) (I1:(Int×Unit)->WP)=>
 za (decide (y2.1<((n0:Nat):Int))) (zc (0<=y2.1/\y2.1<((n0:Nat):Int))<|
 zh a0 fun(p3:Addr)=>
 ldW (.int .u32) (p3.add (Int.toNat y2.1*1)) fun(u4:Int)=>
 yw prog x1 [(.int .u32 u4)] (.one (.one .bool)) fun(u5:Bool)=>
 za u5 (K (.int .i64 y2.1))<|I1 ((wrap .i64 (y2.1+(1:Int))),()))<|K (.int .i64 (-1:Int))
theorem zmm (a0:Option Addr) (n0 c0:Nat) (x1:Value) {K:Value->WP} {w:World} (h:S119 a0 n0 c0 x1 K w):Calls prog 119 #[(.slice a0 n0 c0),x1] w (Ret K):=cF an119 false Tryz.func119 h
def an120:Ann:=(AN AO)
def S120 (a0:Option Addr) (n0 c0:Nat) (x1:Int) (K:Value->WP):WP:=
 ze prog 164 [(.slice a0 n0 c0),(.int .u32 x1)] (.one (.one (.int .i64))) fun(u1:Int)=>K (.bool (decide (u1>=(0:Int))))
theorem zmn (a0:Option Addr) (n0 c0:Nat) (x1:Int) {K:Value->WP} {w:World} (h:S120 a0 n0 c0 x1 K w):Calls prog 120 #[(.slice a0 n0 c0),(.int .u32 x1)] w (Ret K):=cF an120 false Tryz.func120 h
def an121:Ann:=(AN (AR (AN (AQ AO AP)) AO))
def S121 (x0:Int) (K:Value->WP):WP:=
 ze prog 111 [(.agg #[(.int .i64 x0),(.int .i64 (8:Int))])] (.one (.one (.int .i64))) fun(u1:Int)=>
 za (u1 !=(0:Int)) (K (.int .i64 (0:Int)))<|K (.int .i64 (wrap .i64 ((wrap .i64 (x0-(12:Int)))-(4:Int))))
theorem zmo (x0:Int) {K:Value->WP} {w:World} (h:S121 x0 K w):Calls prog 121 #[(.int .i64 x0)] w (Ret K):=cF an121 false Tryz.func121 h
def an122:Ann:=(AN (.block (.loop [(6,.sh (.one (.int .i64)))] [1,4,5,1000000] (AN (AR (AQ AP AP) (AR (.block AO) AP))))))
def S122 (a0:Addr) (a1:Addr) (K:Value->WP):WP:=
 ldW .slc a0 fun(u1:SLC)=>
 zz (Int×Unit) ((0:Int),()) fun(y3:Int×Unit) (I2:(Int×Unit)->WP)=>
 za (decide (y3.1<((u1.2.1:Nat):Int))) (zc (0<=y3.1/\y3.1<((u1.2.1:Nat):Int))<|
 zh u1.1 fun(p4:Addr)=>
 ldW (.int .u32) (p4.add (Int.toNat y3.1*1)) fun(u5:Int)=>
 ldW .ptr a1 fun(u6:Option Addr)=>
 zh u6 fun(p7:Addr)=>
 ldW .ptr (p7.add 8) fun(u8:Option Addr)=>
 ze prog 87 [(.pointer u8),(.int .u32 u5)] (.many [(.one (.int .i64)),(.one (.int .i64))]) fun(u9:Int×Int×Unit)=>I2 ((wrap .i64 (y3.1+(1:Int))),()))<|K (.tuple #[])
theorem zqJ (a0:Addr) (a1:Addr) (K:Value->WP):zaj prog Tryz.f122 an122 false [(.pointer (some a0)),(.pointer (some a1))] K=S122 a0 a1 K:=by kernel_rfl
theorem zkS (a0:Addr) (a1:Addr) {K:Value->WP} {w:World} (h:S122 a0 a1 K w):uJ prog 122 [(.pointer (some a0)),(.pointer (some a1))] w K:=zam mixed Tryz.func122 (of_decide_eq_true (by kernel_rfl)) (by rw[zqJ];exact h)
def an123:Ann:=(AN (AN (AR (.block (AN (AQ AO (AN (AQ AO AP))))) (AN (AN (AN (AN (AN (AN (AN AO))))))))))
def S123 (x0:Int) (Az:Int) (AM:Int) (AA:ByteArray) (K:Value->WP):WP:=
 zi (.cells #[(.int .u8 Az),(.int .u64 AM),(.string AA)] 127) fun(r1:Nat)=>
 ze prog 121 [(.int .i64 x0)] (.one (.one (.int .i64))) fun(u2:Int)=>
 za (u2==(0:Int)) (K (.tuple #[(.string (ByteArray.mk #[])),(.int .i64 (2:Int))]))<|
 ldW .str ((aD r1).add 2) fun(u3:ByteArray)=>
 za (decide (((u3.size:Nat):Int)>u2)) (K (.tuple #[(.string (ByteArray.mk #[])),(.int .i64 (3:Int))]))<|
 zy prog (Instr.makeSlice 85 (.int .i64 x0) (.int .i64 x0)) .slc fun(u4:SLC)=>
 zB<|
 zc (0<=(0:Int)/\(0:Int)<=(12:Int)/\(12:Int)<=((u4.2.2:Nat):Int))<|
 ldW (.int .u8) (aD r1) fun(u5:Int)=>
 zi (.cells #[(.int .u8 u5),(.int .u8 (0:Int))] 5) fun(r6:Nat)=>
 zy prog (Builtin.append_ #[85,85] 85 #[(.slice (zo u4.1 0 (Int.toNat (12:Int)) 1) (Int.toNat (0:Int)) (Int.toNat (12:Int))),(.slice (some (aD r6)) 2 2)]) .slc fun(u7:SLC)=>
 ldW .str ((aD r1).add 2) fun(u8:ByteArray)=>
 ze prog 42 [(.slice u7.1 u7.2.1 u7.2.2),(.int .u64 (wrap .u64 ((u8.size:Nat):Int))),(.int .i64 (2:Int))] (.one (.one .slc)) fun(u9:SLC)=>
 ldW (.int .u64) ((aD r1).add 1) fun(u10:Int)=>
 ze prog 42 [(.slice u9.1 u9.2.1 u9.2.2),(.int .u64 u10),(.int .i64 (8:Int))] (.one (.one .slc)) fun(u11:SLC)=>
 zB<|
 zc (0<=(12:Int)/\(12:Int)<=((u4.2.1:Nat):Int))<|
 ldW .str ((aD r1).add 2) fun(u12:ByteArray)=>
 zy prog (Builtin.copy_ #[85,9] 3 #[(.slice (zo u4.1 (Int.toNat (12:Int)) u4.2.2 1) (u4.2.1-(Int.toNat (12:Int))) (u4.2.2-(Int.toNat (12:Int)))),(.string u12)]) (.int .i64) fun(u13:Int)=>
 zB<|
 zc (0<=(wrap .i64 (x0-(4:Int)))/\(wrap .i64 (x0-(4:Int)))<=(wrap .i64 (x0-(4:Int)))/\(wrap .i64 (x0-(4:Int)))<=x0/\x0<=((u4.2.2:Nat):Int))<|
 zc (0<=(wrap .i64 (x0-(4:Int)))/\(wrap .i64 (x0-(4:Int)))<=((u4.2.2:Nat):Int))<|
 ze prog 165 [(.slice (zo u4.1 0 u4.2.2 1) (Int.toNat (wrap .i64 (x0-(4:Int)))) u4.2.2)] (.one (.one (.int .u32))) fun(u14:Int)=>
 ze prog 42 [(.slice (zo u4.1 (Int.toNat (wrap .i64 (x0-(4:Int)))) (Int.toNat x0) 1) ((Int.toNat (wrap .i64 (x0-(4:Int))))-(Int.toNat (wrap .i64 (x0-(4:Int))))) ((Int.toNat x0)-(Int.toNat (wrap .i64 (x0-(4:Int)))))),(.int .u64 (wrap .u64 u14)),(.int .i64 (4:Int))] (.one (.one .slc)) fun(u15:SLC)=>
 zy prog (Go.convert 85 9 (.slice u4.1 u4.2.1 u4.2.2)) .str fun(u16:ByteArray)=>K (.tuple #[(.string u16),(.int .i64 (0:Int))])
theorem zmp (x0:Int) (Az:Int) (AM:Int) (AA:ByteArray) {K:Value->WP} {w:World} (h:S123 x0 Az AM AA K w):Calls prog 123 #[(.int .i64 x0),(.agg #[(.int .u8 Az),(.int .u64 AM),(.string AA)])] w (Ret K):=cF an123 false Tryz.func123 h
def an124:Ann:=(AN (AN (AR (.block (AN (AQ AO (AN (AQ AO (AN (AQ AO AP))))))) (AR (AN (.block (.loop [(56,.sh (.one (.int .i64)))] [0,2,3,8,10,54,55,1000000] (AN (AR (AQ AP AP) (.join [] [0,2,3,8,10,54,55,56,1000000] (.block (AN (AN (AR (AN (AQ AO AP)) (.join [(15,.sh (.one .bool))] [0,2,3,8,10,11,13,54,55,56,1000000] AP (.join [] [0,2,3,8,10,11,13,54,55,56,1000000] (AN (AQ AO AP)) (.join [] [0,2,3,8,10,13,54,55,56,1000000] (AN (AQ AP AP)) AP))))))) AP)))))) AO))))
def S124 (x0:Option Addr) (x1:Int) (x2:Int) (x3:Bool) (K:Value->WP):WP:=
 zi (.cells #[(.int .i64 (0:Int)),(.int .u64 (0:Int)),(.int .u64 (0:Int)),(.int .u8 (0:Int)),(.int .i64 (0:Int))] 197) fun(r1:Nat)=>
 ze prog 166 [(.pointer x0),(.int .u32 x1)] (.many [(.agg [(.int .u8),.slc,.slc,.slc]),(.one (.int .i64))]) fun(u2:(Int×SLC×SLC×SLC×Unit)×Int×Unit)=>
 zi (.cells #[(.int .u8 (0:Int)),(.slice none 0 0),(.slice none 0 0),(.slice none 0 0)] 215) fun(r3:Nat)=>
 zc ((#[(.int .u8 u2.1.1),(.slice u2.1.2.1.1 u2.1.2.1.2.1 u2.1.2.1.2.2),(.slice u2.1.2.2.1.1 u2.1.2.2.1.2.1 u2.1.2.2.1.2.2),(.slice u2.1.2.2.2.1.1 u2.1.2.2.2.1.2.1 u2.1.2.2.2.1.2.2)]:Array Value).size=4)<|
 zu (aD r3) [(.int .u8 u2.1.1),(.slice u2.1.2.1.1 u2.1.2.1.2.1 u2.1.2.1.2.2),(.slice u2.1.2.2.1.1 u2.1.2.2.1.2.1 u2.1.2.2.1.2.2),(.slice u2.1.2.2.2.1.1 u2.1.2.2.2.1.2.1 u2.1.2.2.2.1.2.2)]<|
 za (u2.2.1 !=(0:Int)) (zk [(.int .i64),(.int .u64),(.int .u64),(.int .u8),(.int .i64)] (aD r1) fun(u4:(Int×Int×Int×Int×Int×Unit))=>
 zc ((#[(.int .i64 u4.1),(.int .u64 u4.2.1),(.int .u64 u4.2.2.1),(.int .u8 u4.2.2.2.1),(.int .i64 u4.2.2.2.2.1)]:Array Value).size=5)<|
 zu (aD r1) [(.int .i64 u4.1),(.int .u64 u4.2.1),(.int .u64 u4.2.2.1),(.int .u8 u4.2.2.2.1),(.int .i64 u4.2.2.2.2.1)]<|
 zk [(.int .i64),(.int .u64),(.int .u64),(.int .u8),(.int .i64)] (aD r1) fun(u5:(Int×Int×Int×Int×Int×Unit))=>K (.tuple #[(.agg #[(.int .i64 u5.1),(.int .u64 u5.2.1),(.int .u64 u5.2.2.1),(.int .u8 u5.2.2.2.1),(.int .i64 u5.2.2.2.2.1)]),(.int .i64 u2.2.1)]))<|
 za (decide (x2>(16:Int))) (zk [(.int .i64),(.int .u64),(.int .u64),(.int .u8),(.int .i64)] (aD r1) fun(u6:(Int×Int×Int×Int×Int×Unit))=>
 zc ((#[(.int .i64 u6.1),(.int .u64 u6.2.1),(.int .u64 u6.2.2.1),(.int .u8 u6.2.2.2.1),(.int .i64 u6.2.2.2.2.1)]:Array Value).size=5)<|
 zu (aD r1) [(.int .i64 u6.1),(.int .u64 u6.2.1),(.int .u64 u6.2.2.1),(.int .u8 u6.2.2.2.1),(.int .i64 u6.2.2.2.2.1)]<|
 zk [(.int .i64),(.int .u64),(.int .u64),(.int .u8),(.int .i64)] (aD r1) fun(u7:(Int×Int×Int×Int×Int×Unit))=>K (.tuple #[(.agg #[(.int .i64 u7.1),(.int .u64 u7.2.1),(.int .u64 u7.2.2.1),(.int .u8 u7.2.2.2.1),(.int .i64 u7.2.2.2.2.1)]),(.int .i64 (10:Int))]))<|
 zk [(.int .u8),.slc,.slc,.slc] (aD r3) fun(u8:(Int×SLC×SLC×SLC×Unit))=>
 ze prog 167 [(.agg #[(.int .u8 u8.1),(.slice u8.2.1.1 u8.2.1.2.1 u8.2.1.2.2),(.slice u8.2.2.1.1 u8.2.2.1.2.1 u8.2.2.1.2.2),(.slice u8.2.2.2.1.1 u8.2.2.2.1.2.1 u8.2.2.2.1.2.2)])] (.one (.one .bool)) fun(u9:Bool)=>
 za (!u9) (zB<|
 ldW .slc ((aD r3).add 1) fun(u10:SLC)=>
 ldW .slc ((aD r3).add 1) fun(u11:SLC)=>
 zc (0<=(0:Int)/\(0:Int)<((u11.2.1:Nat):Int))<|
 zh u11.1 fun(p12:Addr)=>
 ldW (.int .u64) (p12.add (Int.toNat (0:Int)*1)) fun(u13:Int)=>
 ldW .slc ((aD r3).add 1) fun(u14:SLC)=>
 ldW .slc ((aD r3).add 1) fun(u15:SLC)=>
 zc (0<=(wrap .i64 (((u15.2.1:Nat):Int)-(1:Int)))/\(wrap .i64 (((u15.2.1:Nat):Int)-(1:Int)))<((u14.2.1:Nat):Int))<|
 zh u14.1 fun(p16:Addr)=>
 ldW (.int .u64) (p16.add (Int.toNat (wrap .i64 (((u15.2.1:Nat):Int)-(1:Int)))*1)) fun(u17:Int)=>
 ldW (.int .u8) (aD r3) fun(u18:Int)=>
 zc ((#[(.int .i64 ((u10.2.1:Nat):Int)),(.int .u64 u13),(.int .u64 u17),(.int .u8 u18),(.int .i64 (1:Int))]:Array Value).size=5)<|
 zu (aD r1) [(.int .i64 ((u10.2.1:Nat):Int)),(.int .u64 u13),(.int .u64 u17),(.int .u8 u18),(.int .i64 (1:Int))]<|
 zk [(.int .i64),(.int .u64),(.int .u64),(.int .u8),(.int .i64)] (aD r1) fun(u19:(Int×Int×Int×Int×Int×Unit))=>K (.tuple #[(.agg #[(.int .i64 u19.1),(.int .u64 u19.2.1),(.int .u64 u19.2.2.1),(.int .u8 u19.2.2.2.1),(.int .i64 u19.2.2.2.2.1)]),(.int .i64 (0:Int))]))<|
 ldW .slc ((aD r3).add 3) fun(u20:SLC)=>
 zz (Int×Unit) ((0:Int),()) fun(y22:Int×Unit) (I21:(Int×Unit)->WP)=>
 za (decide (y22.1<((u20.2.1:Nat):Int))) (yQ (Unit) (fun(J23:(Unit)->WP)=>
 zc (0<=y22.1/\y22.1<((u20.2.1:Nat):Int))<|
 zh u20.1 fun(p25:Addr)=>
 ldW (.int .u32) (p25.add (Int.toNat y22.1*1)) fun(u26:Int)=>
 ze prog 124 [(.pointer x0),(.int .u32 u26),(.int .i64 (wrap .i64 (x2+(1:Int)))),(.bool x3)] (.many [(.agg [(.int .i64),(.int .u64),(.int .u64),(.int .u8),(.int .i64)]),(.one (.int .i64))]) fun(u27:(Int×Int×Int×Int×Int×Unit)×Int×Unit)=>
 zi (.cells #[(.int .i64 (0:Int)),(.int .u64 (0:Int)),(.int .u64 (0:Int)),(.int .u8 (0:Int)),(.int .i64 (0:Int))] 197) fun(r28:Nat)=>
 zc ((#[(.int .i64 u27.1.1),(.int .u64 u27.1.2.1),(.int .u64 u27.1.2.2.1),(.int .u8 u27.1.2.2.2.1),(.int .i64 u27.1.2.2.2.2.1)]:Array Value).size=5)<|
 zu (aD r28) [(.int .i64 u27.1.1),(.int .u64 u27.1.2.1),(.int .u64 u27.1.2.2.1),(.int .u8 u27.1.2.2.2.1),(.int .i64 u27.1.2.2.2.2.1)]<|
 za (u27.2.1 !=(0:Int)) (zk [(.int .i64),(.int .u64),(.int .u64),(.int .u8),(.int .i64)] (aD r1) fun(u29:(Int×Int×Int×Int×Int×Unit))=>
 zc ((#[(.int .i64 u29.1),(.int .u64 u29.2.1),(.int .u64 u29.2.2.1),(.int .u8 u29.2.2.2.1),(.int .i64 u29.2.2.2.2.1)]:Array Value).size=5)<|
 zu (aD r1) [(.int .i64 u29.1),(.int .u64 u29.2.1),(.int .u64 u29.2.2.1),(.int .u8 u29.2.2.2.1),(.int .i64 u29.2.2.2.2.1)]<|
 zk [(.int .i64),(.int .u64),(.int .u64),(.int .u8),(.int .i64)] (aD r1) fun(u30:(Int×Int×Int×Int×Int×Unit))=>K (.tuple #[(.agg #[(.int .i64 u30.1),(.int .u64 u30.2.1),(.int .u64 u30.2.2.1),(.int .u8 u30.2.2.2.1),(.int .i64 u30.2.2.2.2.1)]),(.int .i64 u27.2.1)]))<|
 yQ (Bool×Unit) (fun(J31:(Bool×Unit)->WP)=>
 zB<|
 ldW (.int .u64) ((aD r28).add 1) fun(u33:Int)=>
 ldW .slc ((aD r3).add 1) fun(u34:SLC)=>
 zc (0<=y22.1/\y22.1<((u34.2.1:Nat):Int))<|
 zh u34.1 fun(p35:Addr)=>
 ldW (.int .u64) (p35.add (Int.toNat y22.1*1)) fun(u36:Int)=>
 za (u33 !=u36) (J31 (true,()))<|
 za (decide (y22.1>(0:Int))) (ldW (.int .u64) ((aD r1).add 2) fun(u37:Int)=>
 ldW (.int .u64) ((aD r28).add 1) fun(u38:Int)=>
 za (decide (u37>=u38)) (J31 (true,()))<|
 ldW (.int .u8) ((aD r1).add 3) fun(u39:Int)=>
 ldW (.int .u8) ((aD r28).add 3) fun(u40:Int)=>
 za (u39 !=u40) (J31 (true,()))<|
 ldW (.int .i64) ((aD r1).add 4) fun(u41:Int)=>
 ldW (.int .i64) ((aD r28).add 4) fun(u42:Int)=>J31 ((u41 !=(wrap .i64 (u42+(1:Int)))),()))<|J31 (false,())) fun(y32:Bool×Unit)=>
 yQ (Unit) (fun(J43:(Unit)->WP)=>
 za x3 (za y32.1 (zk [(.int .i64),(.int .u64),(.int .u64),(.int .u8),(.int .i64)] (aD r1) fun(u45:(Int×Int×Int×Int×Int×Unit))=>
 zc ((#[(.int .i64 u45.1),(.int .u64 u45.2.1),(.int .u64 u45.2.2.1),(.int .u8 u45.2.2.2.1),(.int .i64 u45.2.2.2.2.1)]:Array Value).size=5)<|
 zu (aD r1) [(.int .i64 u45.1),(.int .u64 u45.2.1),(.int .u64 u45.2.2.1),(.int .u8 u45.2.2.2.1),(.int .i64 u45.2.2.2.2.1)]<|
 zk [(.int .i64),(.int .u64),(.int .u64),(.int .u8),(.int .i64)] (aD r1) fun(u46:(Int×Int×Int×Int×Int×Unit))=>K (.tuple #[(.agg #[(.int .i64 u46.1),(.int .u64 u46.2.1),(.int .u64 u46.2.2.1),(.int .u8 u46.2.2.2.1),(.int .i64 u46.2.2.2.2.1)]),(.int .i64 (10:Int))]))<|J43 ())<|J43 ()) fun(y44:Unit)=>
 yQ (Unit) (fun(J47:(Unit)->WP)=>
 za (y22.1==(0:Int)) (ldW (.int .u64) ((aD r28).add 1) fun(u49:Int)=>
 stW ((aD r1).add 1) (.int .u64 u49)<|J47 ())<|J47 ()) fun(y48:Unit)=>
 ldW (.int .i64) (aD r1) fun(u50:Int)=>
 ldW (.int .i64) (aD r28) fun(u51:Int)=>
 ldW (.int .u64) ((aD r1).add 1) fun(u52:Int)=>
 ldW (.int .u64) ((aD r28).add 2) fun(u53:Int)=>
 ldW (.int .u8) ((aD r28).add 3) fun(u54:Int)=>
 ldW (.int .i64) ((aD r28).add 4) fun(u55:Int)=>
 zc ((#[(.int .i64 (wrap .i64 (u50+u51))),(.int .u64 u52),(.int .u64 u53),(.int .u8 u54),(.int .i64 (wrap .i64 (u55+(1:Int))))]:Array Value).size=5)<|
 zu (aD r1) [(.int .i64 (wrap .i64 (u50+u51))),(.int .u64 u52),(.int .u64 u53),(.int .u8 u54),(.int .i64 (wrap .i64 (u55+(1:Int))))]<|J23 ()) fun(y24:Unit)=>I21 ((wrap .i64 (y22.1+(1:Int))),()))<|
 zk [(.int .i64),(.int .u64),(.int .u64),(.int .u8),(.int .i64)] (aD r1) fun(u56:(Int×Int×Int×Int×Int×Unit))=>
 zc ((#[(.int .i64 u56.1),(.int .u64 u56.2.1),(.int .u64 u56.2.2.1),(.int .u8 u56.2.2.2.1),(.int .i64 u56.2.2.2.2.1)]:Array Value).size=5)<|
 zu (aD r1) [(.int .i64 u56.1),(.int .u64 u56.2.1),(.int .u64 u56.2.2.1),(.int .u8 u56.2.2.2.1),(.int .i64 u56.2.2.2.2.1)]<|
 zk [(.int .i64),(.int .u64),(.int .u64),(.int .u8),(.int .i64)] (aD r1) fun(u57:(Int×Int×Int×Int×Int×Unit))=>K (.tuple #[(.agg #[(.int .i64 u57.1),(.int .u64 u57.2.1),(.int .u64 u57.2.2.1),(.int .u8 u57.2.2.2.1),(.int .i64 u57.2.2.2.2.1)]),(.int .i64 (0:Int))])
theorem zhc (x0:Option Addr) (x1:Int) (x2:Int) (x3:Bool) {K:Value->WP} {w:World} (h:S124 x0 x1 x2 x3 K w):Calls prog 124 #[(.pointer x0),(.int .u32 x1),(.int .i64 x2),(.bool x3)] w (Ret K):=cF an124 false Tryz.func124 h
def an125:Ann:=(AN (AQ AP AP))
def S125 (x0:Value) (a1:Addr) (a2:Addr) (a3:Addr) (K:Value->WP):WP:=
 ldW .ptr a1 fun(u1:Option Addr)=>
 za (!(Option.isNone u1)) (ldW (.int .u32) a2 fun(u2:Int)=>
 za (u2 !=(0:Int)) (ldW .ptr a1 fun(u3:Option Addr)=>
 ldW (.int .u32) a2 fun(u4:Int)=>
 ldW (.int .u64) a3 fun(u5:Int)=>
 ze prog 126 [(.pointer u3),(.int .u32 u4),(.int .u64 u5),(.int .i64 (1:Int)),x0] (.one (.one .bool)) fun(u6:Bool)=>K (.tuple #[]))<|K (.tuple #[]))<|K (.tuple #[])
theorem zmq (x0:Value) (a1:Addr) (a2:Addr) (a3:Addr) {K:Value->WP} {w:World} (h:S125 x0 a1 a2 a3 K w):Calls prog 125 #[x0,(.pointer (some a1)),(.pointer (some a2)),(.pointer (some a3))] w (Ret K):=cF an125 false Tryz.func125 h
def an126:Ann:=(AN (AN (AR (AN (AQ AO AP)) (AR (AN (.block (.loop [(29,.sh (.one (.int .i64)))] [0,2,3,4,11,28,1000000] (AN (AR (AQ AP AP) (AR (.block (AN (AR (AN (AQ (AR (AN (AQ AO AP)) AP) AP)) (AR (AN (AQ AP AP)) (AN (AQ AO AP)))))) AP)))))) AO))))
def S126 (x0:Option Addr) (x1:Int) (x2:Int) (x3:Int) (x4:Value) (K:Value->WP):WP:=
 ze prog 166 [(.pointer x0),(.int .u32 x1)] (.many [(.agg [(.int .u8),.slc,.slc,.slc]),(.one (.int .i64))]) fun(u1:(Int×SLC×SLC×SLC×Unit)×Int×Unit)=>
 zi (.cells #[(.int .u8 (0:Int)),(.slice none 0 0),(.slice none 0 0),(.slice none 0 0)] 215) fun(r2:Nat)=>
 zc ((#[(.int .u8 u1.1.1),(.slice u1.1.2.1.1 u1.1.2.1.2.1 u1.1.2.1.2.2),(.slice u1.1.2.2.1.1 u1.1.2.2.1.2.1 u1.1.2.2.1.2.2),(.slice u1.1.2.2.2.1.1 u1.1.2.2.2.1.2.1 u1.1.2.2.2.1.2.2)]:Array Value).size=4)<|
 zu (aD r2) [(.int .u8 u1.1.1),(.slice u1.1.2.1.1 u1.1.2.1.2.1 u1.1.2.1.2.2),(.slice u1.1.2.2.1.1 u1.1.2.2.1.2.1 u1.1.2.2.1.2.2),(.slice u1.1.2.2.2.1.1 u1.1.2.2.2.1.2.1 u1.1.2.2.2.1.2.2)]<|
 za (u1.2.1 !=(0:Int)) (K (.bool false))<|
 za (decide (x3>(16:Int))) (K (.bool false))<|
 ldW .slc ((aD r2).add 1) fun(u3:SLC)=>
 zz (Int×Unit) ((0:Int),()) fun(y5:Int×Unit) (I4:(Int×Unit)->WP)=>
 za (decide (y5.1<((u3.2.1:Nat):Int))) (zk [(.int .u8),.slc,.slc,.slc] (aD r2) fun(u6:(Int×SLC×SLC×SLC×Unit))=>
 ze prog 167 [(.agg #[(.int .u8 u6.1),(.slice u6.2.1.1 u6.2.1.2.1 u6.2.1.2.2),(.slice u6.2.2.1.1 u6.2.2.1.2.1 u6.2.2.1.2.2),(.slice u6.2.2.2.1.1 u6.2.2.2.1.2.1 u6.2.2.2.1.2.2)])] (.one (.one .bool)) fun(u7:Bool)=>
 za (!u7) (zB<|
 ldW .slc ((aD r2).add 1) fun(u8:SLC)=>
 zc (0<=y5.1/\y5.1<((u8.2.1:Nat):Int))<|
 zh u8.1 fun(p9:Addr)=>
 ldW (.int .u64) (p9.add (Int.toNat y5.1*1)) fun(u10:Int)=>
 za (decide (u10>=x2)) (ldW .slc ((aD r2).add 1) fun(u11:SLC)=>
 zc (0<=y5.1/\y5.1<((u11.2.1:Nat):Int))<|
 zh u11.1 fun(p12:Addr)=>
 ldW (.int .u64) (p12.add (Int.toNat y5.1*1)) fun(u13:Int)=>
 zk [(.int .u8),.slc,.slc,.slc] (aD r2) fun(u14:(Int×SLC×SLC×SLC×Unit))=>
 ze prog 168 [(.agg #[(.int .u8 u14.1),(.slice u14.2.1.1 u14.2.1.2.1 u14.2.1.2.2),(.slice u14.2.2.1.1 u14.2.2.1.2.1 u14.2.2.1.2.2),(.slice u14.2.2.2.1.1 u14.2.2.2.1.2.1 u14.2.2.2.1.2.2)]),(.int .i64 y5.1)] (.one (.one (.int .u64))) fun(u15:Int)=>
 zt [[((p12.add (Int.toNat y5.1*1)),(.int .u64 u13))],[(((aD r2).add 1),(.slice u11.1 u11.2.1 u11.2.2))]]<|
 yw prog x4 [(.int .u64 u13),(.int .u64 u15)] (.one (.one .bool)) fun(u16:Bool)=>
 za (!u16) (K (.bool false))<|I4 ((wrap .i64 (y5.1+(1:Int))),()))<|I4 ((wrap .i64 (y5.1+(1:Int))),()))<|
 ldW .slc ((aD r2).add 1) fun(u17:SLC)=>
 za (decide ((wrap .i64 (y5.1+(1:Int)))<((u17.2.1:Nat):Int))) (ldW .slc ((aD r2).add 1) fun(u18:SLC)=>
 zc (0<=(wrap .i64 (y5.1+(1:Int)))/\(wrap .i64 (y5.1+(1:Int)))<((u18.2.1:Nat):Int))<|
 zh u18.1 fun(p19:Addr)=>
 ldW (.int .u64) (p19.add (Int.toNat (wrap .i64 (y5.1+(1:Int)))*1)) fun(u20:Int)=>
 za (decide (u20<=x2)) (I4 ((wrap .i64 (y5.1+(1:Int))),()))<|
 ldW .slc ((aD r2).add 3) fun(u21:SLC)=>
 zc (0<=y5.1/\y5.1<((u21.2.1:Nat):Int))<|
 zh u21.1 fun(p22:Addr)=>
 ldW (.int .u32) (p22.add (Int.toNat y5.1*1)) fun(u23:Int)=>
 ze prog 126 [(.pointer x0),(.int .u32 u23),(.int .u64 x2),(.int .i64 (wrap .i64 (x3+(1:Int)))),x4] (.one (.one .bool)) fun(u24:Bool)=>
 za (!u24) (K (.bool false))<|I4 ((wrap .i64 (y5.1+(1:Int))),()))<|
 ldW .slc ((aD r2).add 3) fun(u25:SLC)=>
 zc (0<=y5.1/\y5.1<((u25.2.1:Nat):Int))<|
 zh u25.1 fun(p26:Addr)=>
 ldW (.int .u32) (p26.add (Int.toNat y5.1*1)) fun(u27:Int)=>
 ze prog 126 [(.pointer x0),(.int .u32 u27),(.int .u64 x2),(.int .i64 (wrap .i64 (x3+(1:Int)))),x4] (.one (.one .bool)) fun(u28:Bool)=>
 za (!u28) (K (.bool false))<|I4 ((wrap .i64 (y5.1+(1:Int))),()))<|K (.bool true)
theorem zhd (x0:Option Addr) (x1:Int) (x2:Int) (x3:Int) (x4:Value) {K:Value->WP} {w:World} (h:S126 x0 x1 x2 x3 x4 K w):Calls prog 126 #[(.pointer x0),(.int .u32 x1),(.int .u64 x2),(.int .i64 x3),x4] w (Ret K):=cF an126 false Tryz.func126 h
def an127:Ann:=(AN AO)
def S127 (x0:Option Addr) (x1:Int) (K:Value->WP):WP:=
 zi (.cells #[(.pointer x0)] 48) fun(r1:Nat)=>
 zi (.cells #[(.int .u32 x1)] 41) fun(r2:Nat)=>K (.func (.func 169) #[] #[(.pointer (some (aD r1))),(.pointer (some (aD r2)))])
theorem zmr (x0:Option Addr) (x1:Int) {K:Value->WP} {w:World} (h:S127 x0 x1 K w):Calls prog 127 #[(.pointer x0),(.int .u32 x1)] w (Ret K):=cF an127 false Tryz.func127 h
def an130:Ann:=(AN (.block (.loop [(3,.sh (.one (.int .u32)))] [0,1,1000000] (AR (AN (AQ AP AP)) (AR (.block (AN (AQ AP AP))) AP)))))
def S130 (x0:Value) (a1:Addr) (K:Value->WP):WP:=
 zz (Int×Unit) ((2:Int),()) fun(y2:Int×Unit) (I1:(Int×Unit)->WP)=>
 ldW .ptr a1 fun(u3:Option Addr)=>
 zh u3 fun(p4:Addr)=>
 ldW (.int .i64) (((p4.add 1).add 1).add 1) fun(u5:Int)=>
 za (decide ((wrap .i64 y2.1)<u5)) (zB<|
 ldW .ptr a1 fun(u6:Option Addr)=>
 zh u6 fun(p7:Addr)=>
 ldW .ptr (p7.add 8) fun(u8:Option Addr)=>
 ldW .ptr a1 fun(u9:Option Addr)=>
 zh u9 fun(p10:Addr)=>
 ldW .ptr (p10.add 7) fun(u11:Option Addr)=>
 ldW .ptr a1 fun(u12:Option Addr)=>
 zh u12 fun(p13:Addr)=>
 ldW .ptr (p13.add 9) fun(u14:Option Addr)=>
 ze prog 75 [(.pointer u8),(.int .u32 y2.1)] (.one (.one (.int .i64))) fun(u15:Int)=>
 zt [[((p13.add 9),(.pointer u14))],[(a1,(.pointer u12))],[((p10.add 7),(.pointer u11))],[(a1,(.pointer u9))]]<|
 ze prog 75 [(.pointer u11),(.int .u32 y2.1)] (.one (.one (.int .i64))) fun(u16:Int)=>
 zt [[((p13.add 9),(.pointer u14))],[(a1,(.pointer u12))]]<|
 ze prog 75 [(.pointer u14),(.int .u32 y2.1)] (.one (.one (.int .i64))) fun(u17:Int)=>
 za ((wrap .i64 ((wrap .i64 (u15+u16))+u17))==(0:Int)) (yw prog x0 [(.int .u32 y2.1)] (.one (.one .bool)) fun(u18:Bool)=>
 za (!u18) (K (.tuple #[]))<|I1 ((wrap .u32 (y2.1+(1:Int))),()))<|I1 ((wrap .u32 (y2.1+(1:Int))),()))<|K (.tuple #[])
theorem zms (x0:Value) (a1:Addr) {K:Value->WP} {w:World} (h:S130 x0 a1 K w):Calls prog 130 #[x0,(.pointer (some a1))] w (Ret K):=cF an130 false Tryz.func130 h
def an131:Ann:=(AN (AN AO))
def S131 (x0:Option Addr) (K:Value->WP):WP:=
 ze prog 76 [(.pointer x0),(.int .i64 (0:Int))] (.one (.one (.int .i64))) fun(u1:Int)=>K (.int .i64 (if (if (wrap .i64 ((wrap .i64 (Int.tdiv (wrap .i64 (u1-(4:Int))) (4:Int)))*u1))<(65536:Int) then (wrap .i64 ((wrap .i64 (Int.tdiv (wrap .i64 (u1-(4:Int))) (4:Int)))*u1)) else (65536:Int))>(0:Int) then (if (wrap .i64 ((wrap .i64 (Int.tdiv (wrap .i64 (u1-(4:Int))) (4:Int)))*u1))<(65536:Int) then (wrap .i64 ((wrap .i64 (Int.tdiv (wrap .i64 (u1-(4:Int))) (4:Int)))*u1)) else (65536:Int)) else (0:Int)))
theorem zmt (x0:Option Addr) {K:Value->WP} {w:World} (h:S131 x0 K w):Calls prog 131 #[(.pointer x0)] w (Ret K):=cF an131 false Tryz.func131 h
def an132:Ann:=(AN (AQ (AN (.block (.loop [(9,.sh (.one (.int .i64)))] [2,7,8,1000000] (AN (AR (AQ AP AP) (AR (.block AO) AP)))))) AP))
def S132 (a0:Addr) (a1:Addr) (a2:Addr) (K:Value->WP):WP:=
 ldW (.int .i64) a0 fun(u1:Int)=>
 za (u1 !=(0:Int)) (ldW .slc a1 fun(u2:SLC)=>
 zz (Int×Unit) ((0:Int),()) fun(y4:Int×Unit) (I3:(Int×Unit)->WP)=>
 za (decide (y4.1<((u2.2.1:Nat):Int))) (zc (0<=y4.1/\y4.1<((u2.2.1:Nat):Int))<|
 zh u2.1 fun(p5:Addr)=>
 ldW (.int .u32) (p5.add (Int.toNat y4.1*1)) fun(u6:Int)=>
 ldW .ptr a2 fun(u7:Option Addr)=>
 ze prog 28 [(.pointer u7),(.int .u32 u6)] (.one (.one (.int .i64))) fun(u8:Int)=>I3 ((wrap .i64 (y4.1+(1:Int))),()))<|K (.tuple #[]))<|K (.tuple #[])
theorem zqK (a0:Addr) (a1:Addr) (a2:Addr) (K:Value->WP):zaj prog Tryz.f132 an132 false [(.pointer (some a0)),(.pointer (some a1)),(.pointer (some a2))] K=S132 a0 a1 a2 K:=by kernel_rfl
theorem zkT (a0:Addr) (a1:Addr) (a2:Addr) {K:Value->WP} {w:World} (h:S132 a0 a1 a2 K w):uJ prog 132 [(.pointer (some a0)),(.pointer (some a1)),(.pointer (some a2))] w K:=zam mixed Tryz.func132 (of_decide_eq_true (by kernel_rfl)) (by rw[zqK];exact h)
def an133:Ann:=(AN (AR (AN (AQ AO AP)) AO))
def S133 (x0:Bool) (K:Value->WP):WP:=
 za x0 (K (.int .u8 (5:Int)))<|K (.int .u8 (4:Int))
theorem zmu (x0:Bool) {K:Value->WP} {w:World} (h:S133 x0 K w):Calls prog 133 #[(.bool x0)] w (Ret K):=cF an133 false Tryz.func133 h
def an134:Ann:=(AN (AR (AN (AQ AO AP)) (AR (AN (.block (AN (AQ AO (AN (AQ AO AP)))))) AO)))
def S134 (x0:Option Addr) (x1:Int) (K:Value->WP):WP:=
 za (decide (x1>(4294967295:Int))) (K (.bool false))<|
 ze prog 90 [(.pointer x0),(.int .u32 (wrap .u32 x1))] (.one (.one (.int .i64))) fun(u1:Int)=>
 za (u1==(0:Int)) (ze prog 28 [(.pointer x0),(.int .u32 (wrap .u32 x1))] (.one (.one (.int .i64))) fun(u2:Int)=>K (.bool (u2==(0:Int))))<|
 za (u1==(12:Int)) (K (.bool true))<|K (.bool false)
theorem zmv (x0:Option Addr) (x1:Int) {K:Value->WP} {w:World} (h:S134 x0 x1 K w):Calls prog 134 #[(.pointer x0),(.int .u64 x1)] w (Ret K):=cF an134 false Tryz.func134 h
def an135:Ann:=(AN (.join [] [1,2,3,1000000] (.block (AN (AQ AO (AN (AQ AO (AN (AQ AO AP))))))) (AN (AR (AN (AQ AO AP)) AO))))
def S135 (Aa:Int) (Ab:Option Addr) (Ac Ae:Nat) (Aj:Option Addr) (Ak Al:Nat) (Am:Option Addr) (An Ao:Nat) (x1:Option Addr) (x2:Int) (K:Value->WP):WP:=
 zi (.cells #[(.int .u8 Aa),(.slice Ab Ac Ae),(.slice Aj Ak Al),(.slice Am An Ao)] 215) fun(r1:Nat)=>
 yQ (Unit) (fun(J2:(Unit)->WP)=>
 ldW .slc ((aD r1).add 1) fun(u4:SLC)=>
 za (((u4.2.1:Nat):Int)==(0:Int)) (K (.tuple #[(.int .u32 (0:Int)),(.int .i64 (0:Int))]))<|
 zk [(.int .u8),.slc,.slc,.slc] (aD r1) fun(u5:(Int×SLC×SLC×SLC×Unit))=>
 ze prog 167 [(.agg #[(.int .u8 u5.1),(.slice u5.2.1.1 u5.2.1.2.1 u5.2.1.2.2),(.slice u5.2.2.1.1 u5.2.2.1.2.1 u5.2.2.1.2.2),(.slice u5.2.2.2.1.1 u5.2.2.2.1.2.1 u5.2.2.2.1.2.2)])] (.one (.one .bool)) fun(u6:Bool)=>
 za u6 (ldW .slc ((aD r1).add 3) fun(u7:SLC)=>
 za (((u7.2.1:Nat):Int)==(1:Int)) (ldW .slc ((aD r1).add 3) fun(u8:SLC)=>
 zc (0<=(0:Int)/\(0:Int)<((u8.2.1:Nat):Int))<|
 zh u8.1 fun(p9:Addr)=>
 ldW (.int .u32) (p9.add (Int.toNat (0:Int)*1)) fun(u10:Int)=>K (.tuple #[(.int .u32 u10),(.int .i64 (0:Int))]))<|
 za (decide (x2>(16:Int))) (K (.tuple #[(.int .u32 (0:Int)),(.int .i64 (12:Int))]))<|J2 ())<|
 za (decide (x2>(16:Int))) (K (.tuple #[(.int .u32 (0:Int)),(.int .i64 (12:Int))]))<|J2 ()) fun(y3:Unit)=>
 zk [(.int .u8),.slc,.slc,.slc] (aD r1) fun(u11:(Int×SLC×SLC×SLC×Unit))=>
 ze prog 172 [(.agg #[(.int .u8 u11.1),(.slice u11.2.1.1 u11.2.1.2.1 u11.2.1.2.2),(.slice u11.2.2.1.1 u11.2.2.1.2.1 u11.2.2.1.2.2),(.slice u11.2.2.2.1.1 u11.2.2.2.1.2.1 u11.2.2.2.1.2.2)]),(.pointer x1)] (.many [(.one .slc),(.one .slc),(.one (.int .i64))]) fun(u12:SLC×SLC×Int×Unit)=>
 za (u12.2.2.1 !=(0:Int)) (K (.tuple #[(.int .u32 (0:Int)),(.int .i64 u12.2.2.1)]))<|
 ze prog 135 [(.agg #[(.int .u8 (3:Int)),(.slice u12.1.1 u12.1.2.1 u12.1.2.2),(.slice none 0 0),(.slice u12.2.1.1 u12.2.1.2.1 u12.2.1.2.2)]),(.pointer x1),(.int .i64 (wrap .i64 (x2+(1:Int))))] (.many [(.one (.int .u32)),(.one (.int .i64))]) fun(u13:Int×Int×Unit)=>K (.tuple #[(.int .u32 u13.1),(.int .i64 u13.2.1)])
theorem zd3 (Aa:Int) (Ab:Option Addr) (Ac Ae:Nat) (Aj:Option Addr) (Ak Al:Nat) (Am:Option Addr) (An Ao:Nat) (x1:Option Addr) (x2:Int) {K:Value->WP} {w:World} (h:S135 Aa Ab Ac Ae Aj Ak Al Am An Ao x1 x2 K w):Calls prog 135 #[(.agg #[(.int .u8 Aa),(.slice Ab Ac Ae),(.slice Aj Ak Al),(.slice Am An Ao)]),(.pointer x1),(.int .i64 x2)] w (Ret K):=cF an135 false Tryz.func135 h
def an136:Ann:=(AN (AR (.block (AN (AQ AO (AN (AQ AO (AN (AQ AO AP))))))) AO))
def S136 (x0:Option Addr) (x1:Int) (K:Value->WP):WP:=
 za (Option.isNone x0) (K (.tuple #[(.pointer none),(.int .i64 (1:Int))]))<|
 za (decide (x1<(2:Int))) (K (.tuple #[(.pointer none),(.int .i64 (2:Int))]))<|
 zh x0 fun(p1:Addr)=>
 ldW .slc (p1.add 2) fun(u2:SLC)=>
 za (decide ((wrap .u64 x1)>=(wrap .u64 ((u2.2.1:Nat):Int)))) (K (.tuple #[(.pointer none),(.int .i64 (2:Int))]))<|
 zh x0 fun(p3:Addr)=>
 ldW .slc (p3.add 2) fun(u4:SLC)=>
 zc (0<=x1/\x1<((u4.2.1:Nat):Int))<|
 zh u4.1 fun(p5:Addr)=>
 ldW (.int .u16) (p5.add (Int.toNat x1*1)) fun(u6:Int)=>
 za (u6==(0:Int)) (K (.tuple #[(.pointer none),(.int .i64 (8:Int))]))<|
 zh x0 fun(p7:Addr)=>
 ldW .slc (p7.add 2) fun(u8:SLC)=>
 zc (0<=x1/\x1<((u8.2.1:Nat):Int))<|
 zh u8.1 fun(p9:Addr)=>K (.tuple #[(.pointer (some (p9.add (Int.toNat x1*1)))),(.int .i64 (0:Int))])
theorem zmw (x0:Option Addr) (x1:Int) {K:Value->WP} {w:World} (h:S136 x0 x1 K w):Calls prog 136 #[(.pointer x0),(.int .u32 x1)] w (Ret K):=cF an136 false Tryz.func136 h
def an137:Ann:=(AN (AR (.block (AN (AQ AO (AN (AQ AO AP))))) (AR (AN (.block (.loop [(18,.sh (.one (.int .i64))),(19,.sh (.agg [(.int .i64),.str]))] [] (AN (.block (AN (AQ AO AP))))))) AO)))
def S137 (x0:Option Addr) (x1:Int) (K:Value->WP):WP:=
 zi (.cells #[(.int .i64 x1)] 3) fun(r1:Nat)=>
 zi (.cells #[(.string ByteArray.empty)] 9) fun(r2:Nat)=>
 zi (.cells #[(.int .i64 (0:Int))] 28) fun(r3:Nat)=>
 za (Option.isNone x0) (stW (aD r2) (.string (ByteArray.mk #[]))<|
 stW (aD r3) (.int .i64 (1:Int))<|
 zO prog []<|
 ldW .str (aD r2) fun(u4:ByteArray)=>
 ldW (.int .i64) (aD r3) fun(u5:Int)=>K (.tuple #[(.string u4),(.int .i64 u5)]))<|
 ldW (.int .i64) (aD r1) fun(u6:Int)=>
 ze prog 162 [(.pointer x0),(.int .i64 u6)] (.one (.one .bool)) fun(u7:Bool)=>
 za (!u7) (stW (aD r2) (.string (ByteArray.mk #[]))<|
 stW (aD r3) (.int .i64 (2:Int))<|
 zO prog []<|
 ldW .str (aD r2) fun(u8:ByteArray)=>
 ldW (.int .i64) (aD r3) fun(u9:Int)=>K (.tuple #[(.string u8),(.int .i64 u9)]))<|
 ze prog 173 [(.pointer x0)] (.one (.one .any)) fun(u10:Value)=>
 jc prog u10 (Int×(Int×ByteArray×Unit)×Unit) (fun(t11:Int×(Int×ByteArray×Unit)×Unit)=>[(.int .i64 t11.1),(.agg #[(.int .i64 t11.2.1.1),(.string t11.2.1.2.1)])]) (fun(t11:Int×(Int×ByteArray×Unit)×Unit) (B12:WP->WP) (N13:WP) (Q14:Code->WP)=>
 zi (.cells #[(.int .i64 (0:Int)),(.string ByteArray.empty)] 230) fun(r17:Nat)=>
 zc ((#[(.int .i64 t11.2.1.1),(.string t11.2.1.2.1)]:Array Value).size=2)<|
 zu (aD r17) [(.int .i64 t11.2.1.1),(.string t11.2.1.2.1)]<|B12 (ldW (.int .i64) (aD r17) fun(u18:Int)=>
 ldW (.int .i64) (aD r1) fun(u19:Int)=>
 za (u18==u19) (ldW .str ((aD r17).add 1) fun(u20:ByteArray)=>
 stW (aD r2) (.string u20)<|
 stW (aD r3) (.int .i64 (0:Int))<|Q14 .ret)<|N13)) fun(r15:Nat) (p16:Option Code)=>
 qG (zB<|
 zh x0 fun(p21:Addr)=>
 ldW .slc (p21.add 2) fun(u22:SLC)=>
 ldW (.int .i64) (aD r1) fun(u23:Int)=>
 zc (0<=u23/\u23<((u22.2.1:Nat):Int))<|
 zh u22.1 fun(p24:Addr)=>
 ldW .str (p24.add (Int.toNat u23*1)) fun(u25:ByteArray)=>
 stW (aD r2) (.string u25)<|
 stW (aD r3) (.int .i64 (0:Int))<|
 zO prog (⟨.collected r15,#[]⟩::[])<|
 ldW .str (aD r2) fun(u26:ByteArray)=>
 ldW (.int .i64) (aD r3) fun(u27:Int)=>K (.tuple #[(.string u26),(.int .i64 u27)])) (zO prog (⟨.collected r15,#[]⟩::[])<|
 ldW .str (aD r2) fun(u28:ByteArray)=>
 ldW (.int .i64) (aD r3) fun(u29:Int)=>K (.tuple #[(.string u28),(.int .i64 u29)])) [] p16
theorem zmx (x0:Option Addr) (x1:Int) {K:Value->WP} {w:World} (h:S137 x0 x1 K w):Calls prog 137 #[(.pointer x0),(.int .i64 x1)] w (Ret K):=cF an137 true Tryz.func137 h
def an138:Ann:=(AN (AN (AR (AN (AQ AO AP)) (AN (AN (AR (AN (AQ AO AP)) (AN (AR (AN (.block (.loop [(41,.sh (.one (.int .u64)))] [0,4,7,40,1000000] (AN (AR (AQ AP AP) (AR (.block (AN (AR (AN (AQ AO AP)) AP))) AP)))))) (AN (AN AO))))))))))
def S138 (x0:Option Addr) (x1:ByteArray) (K:Value->WP):WP:=
 zi (.cells #[(.int .u8 (0:Int)),(.slice none 0 0),(.string ByteArray.empty)] 56) fun(r1:Nat)=>
 ze prog 174 [(.string x1)] (.many [(.agg [(.int .u8),(.int .u64),.str]),(.one (.int .i64))]) fun(u2:(Int×Int×ByteArray×Unit)×Int×Unit)=>
 zi (.cells #[(.int .u8 (0:Int)),(.int .u64 (0:Int)),(.string ByteArray.empty)] 127) fun(r3:Nat)=>
 zc ((#[(.int .u8 u2.1.1),(.int .u64 u2.1.2.1),(.string u2.1.2.2.1)]:Array Value).size=3)<|
 zu (aD r3) [(.int .u8 u2.1.1),(.int .u64 u2.1.2.1),(.string u2.1.2.2.1)]<|
 za (u2.2.1 !=(0:Int)) (zk [(.int .u8),.slc,.str] (aD r1) fun(u4:(Int×SLC×ByteArray×Unit))=>
 zc ((#[(.int .u8 u4.1),(.slice u4.2.1.1 u4.2.1.2.1 u4.2.1.2.2),(.string u4.2.2.1)]:Array Value).size=3)<|
 zu (aD r1) [(.int .u8 u4.1),(.slice u4.2.1.1 u4.2.1.2.1 u4.2.1.2.2),(.string u4.2.2.1)]<|
 zk [(.int .u8),.slc,.str] (aD r1) fun(u5:(Int×SLC×ByteArray×Unit))=>K (.tuple #[(.agg #[(.int .u8 u5.1),(.slice u5.2.1.1 u5.2.1.2.1 u5.2.1.2.2),(.string u5.2.2.1)]),(.int .i64 (10:Int))]))<|
 ldW (.int .u8) (aD r3) fun(u6:Int)=>
 za (decide (u6<(3:Int))) (zk [(.int .u8),.slc,.str] (aD r1) fun(u7:(Int×SLC×ByteArray×Unit))=>
 zc ((#[(.int .u8 u7.1),(.slice u7.2.1.1 u7.2.1.2.1 u7.2.1.2.2),(.string u7.2.2.1)]:Array Value).size=3)<|
 zu (aD r1) [(.int .u8 u7.1),(.slice u7.2.1.1 u7.2.1.2.1 u7.2.1.2.2),(.string u7.2.2.1)]<|
 zk [(.int .u8),.slc,.str] (aD r1) fun(u8:(Int×SLC×ByteArray×Unit))=>K (.tuple #[(.agg #[(.int .u8 u8.1),(.slice u8.2.1.1 u8.2.1.2.1 u8.2.1.2.2),(.string u8.2.2.1)]),(.int .i64 (10:Int))]))<|
 ldW .str ((aD r3).add 2) fun(u9:ByteArray)=>
 zy prog (Go.convert 9 85 (.string u9)) .slc fun(u10:SLC)=>
 ze prog 175 [(.slice u10.1 u10.2.1 u10.2.2)] (.one (.one .ptr)) fun(u11:Option Addr)=>
 ze prog 176 [(.pointer u11),(.int .i64 (2:Int))] (.many [(.one (.int .u64)),(.one (.int .i64))]) fun(u12:Int×Int×Unit)=>
 za (u12.2.1 !=(0:Int)) (zk [(.int .u8),.slc,.str] (aD r1) fun(u13:(Int×SLC×ByteArray×Unit))=>
 zc ((#[(.int .u8 u13.1),(.slice u13.2.1.1 u13.2.1.2.1 u13.2.1.2.2),(.string u13.2.2.1)]:Array Value).size=3)<|
 zu (aD r1) [(.int .u8 u13.1),(.slice u13.2.1.1 u13.2.1.2.1 u13.2.1.2.2),(.string u13.2.2.1)]<|
 zk [(.int .u8),.slc,.str] (aD r1) fun(u14:(Int×SLC×ByteArray×Unit))=>K (.tuple #[(.agg #[(.int .u8 u14.1),(.slice u14.2.1.1 u14.2.1.2.1 u14.2.1.2.2),(.string u14.2.2.1)]),(.int .i64 (10:Int))]))<|
 ldW (.int .u8) (aD r3) fun(u15:Int)=>
 stW (aD r1) (.int .u8 u15)<|
 zz (Int×Unit) ((0:Int),()) fun(y17:Int×Unit) (I16:(Int×Unit)->WP)=>
 za (decide (y17.1<u12.1)) (ze prog 176 [(.pointer u11),(.int .i64 (4:Int))] (.many [(.one (.int .u64)),(.one (.int .i64))]) fun(u18:Int×Int×Unit)=>
 za (u18.2.1 !=(0:Int)) (zc ((#[(.int .u8 (0:Int)),(.slice none 0 0),(.string ByteArray.empty)]:Array Value).size=3)<|
 zu (aD r1) [(.int .u8 (0:Int)),(.slice none 0 0),(.string ByteArray.empty)]<|
 zk [(.int .u8),.slc,.str] (aD r1) fun(u19:(Int×SLC×ByteArray×Unit))=>K (.tuple #[(.agg #[(.int .u8 u19.1),(.slice u19.2.1.1 u19.2.1.2.1 u19.2.1.2.2),(.string u19.2.2.1)]),(.int .i64 (10:Int))]))<|
 za (decide (u18.1<(2:Int))) (zc ((#[(.int .u8 (0:Int)),(.slice none 0 0),(.string ByteArray.empty)]:Array Value).size=3)<|
 zu (aD r1) [(.int .u8 (0:Int)),(.slice none 0 0),(.string ByteArray.empty)]<|
 zk [(.int .u8),.slc,.str] (aD r1) fun(u20:(Int×SLC×ByteArray×Unit))=>K (.tuple #[(.agg #[(.int .u8 u20.1),(.slice u20.2.1.1 u20.2.1.2.1 u20.2.1.2.2),(.string u20.2.2.1)]),(.int .i64 (10:Int))]))<|
 zh x0 fun(p21:Addr)=>
 ldW (.int .i64) (((p21.add 1).add 1).add 1) fun(u22:Int)=>
 za (decide (u18.1>=(wrap .u64 u22))) (zc ((#[(.int .u8 (0:Int)),(.slice none 0 0),(.string ByteArray.empty)]:Array Value).size=3)<|
 zu (aD r1) [(.int .u8 (0:Int)),(.slice none 0 0),(.string ByteArray.empty)]<|
 zk [(.int .u8),.slc,.str] (aD r1) fun(u23:(Int×SLC×ByteArray×Unit))=>K (.tuple #[(.agg #[(.int .u8 u23.1),(.slice u23.2.1.1 u23.2.1.2.1 u23.2.1.2.2),(.string u23.2.2.1)]),(.int .i64 (10:Int))]))<|
 ldW .slc ((aD r1).add 1) fun(u24:SLC)=>
 zi (.cells #[(.int .u32 (wrap .u32 u18.1))] 41) fun(r25:Nat)=>
 zy prog (Builtin.append_ #[54,54] 54 #[(.slice u24.1 u24.2.1 u24.2.2),(.slice (some (aD r25)) 1 1)]) .slc fun(u26:SLC)=>
 stW ((aD r1).add 1) (.slice u26.1 u26.2.1 u26.2.2)<|I16 ((wrap .u64 (y17.1+(1:Int))),()))<|
 ze prog 178 [(.pointer u11)] (.one (.one (.int .i64))) fun(u27:Int)=>
 ze prog 177 [(.pointer u11),(.int .i64 u27)] (.many [(.one .slc),(.one (.int .i64))]) fun(u28:SLC×Int×Unit)=>
 zy prog (Go.convert 85 9 (.slice u28.1.1 u28.1.2.1 u28.1.2.2)) .str fun(u29:ByteArray)=>
 stW ((aD r1).add 2) (.string u29)<|
 zk [(.int .u8),.slc,.str] (aD r1) fun(u30:(Int×SLC×ByteArray×Unit))=>
 zc ((#[(.int .u8 u30.1),(.slice u30.2.1.1 u30.2.1.2.1 u30.2.1.2.2),(.string u30.2.2.1)]:Array Value).size=3)<|
 zu (aD r1) [(.int .u8 u30.1),(.slice u30.2.1.1 u30.2.1.2.1 u30.2.1.2.2),(.string u30.2.2.1)]<|
 zk [(.int .u8),.slc,.str] (aD r1) fun(u31:(Int×SLC×ByteArray×Unit))=>K (.tuple #[(.agg #[(.int .u8 u31.1),(.slice u31.2.1.1 u31.2.1.2.1 u31.2.1.2.2),(.string u31.2.2.1)]),(.int .i64 u28.2.1)])
theorem zmy (x0:Option Addr) (x1:ByteArray) {K:Value->WP} {w:World} (h:S138 x0 x1 K w):Calls prog 138 #[(.pointer x0),(.string x1)] w (Ret K):=cF an138 false Tryz.func138 h
def an139:Ann:=(AN (AN (AR (AN (AQ AO AP)) (AR (AN (AQ AO AP)) (AN AO)))))
def S139 (x0:Option Addr) (x1:Int) (K:Value->WP):WP:=
 ze prog 136 [(.pointer x0),(.int .u32 x1)] (.many [(.one .ptr),(.one (.int .i64))]) fun(u1:Option Addr×Int×Unit)=>
 za (u1.2.1 !=(0:Int)) (K (.int .i64 u1.2.1))<|
 zh u1.1 fun(p2:Addr)=>
 ldW (.int .u16) p2 fun(u3:Int)=>
 za (u3==(65535:Int)) (K (.int .i64 (12:Int)))<|
 zh u1.1 fun(p4:Addr)=>
 ldW (.int .u16) p4 fun(u5:Int)=>
 zh u1.1 fun(p6:Addr)=>
 stW p6 (.int .u16 (wrap .u16 (u5+(1:Int))))<|K (.int .i64 (0:Int))
theorem zmz (x0:Option Addr) (x1:Int) {K:Value->WP} {w:World} (h:S139 x0 x1 K w):Calls prog 139 #[(.pointer x0),(.int .u32 x1)] w (Ret K):=cF an139 false Tryz.func139 h
def an140:Ann:=(AN (AN (AN (AN AO))))
def S140 (x0:Option Addr) (a1:Option Addr) (n1 c1:Nat) (x2:Option Addr) (K:Value->WP):WP:=
 zi (.cells #[(.pointer x0)] 48) fun(r1:Nat)=>
 zi (.cells #[(.slice a1 n1 c1)] 54) fun(r2:Nat)=>
 zi (.cells #[(.pointer x2)] 223) fun(r3:Nat)=>
 ldW .ptr (aD r1) fun(u4:Option Addr)=>
 zh u4 fun(p5:Addr)=>
 ldW (.int .i64) (((p5.add 1).add 1).add 1) fun(u6:Int)=>
 zy prog (Instr.makeSlice 271 (.int .i64 u6) (.int .i64 u6)) .slc fun(u7:SLC)=>
 zi (.cells #[(.slice none 0 0)] 271) fun(r8:Nat)=>
 stW (aD r8) (.slice u7.1 u7.2.1 u7.2.2)<|
 zi (.cells (zbo prog 272) 272) fun(r9:Nat)=>
 stW (aD r9) (.func (.func 179) #[] #[(.pointer (some (aD r1))),(.pointer (some (aD r3))),(.pointer (some (aD r8))),(.pointer (some (aD r9)))])<|K (.func (.func 180) #[] #[(.pointer (some (aD r9))),(.pointer (some (aD r2)))])
theorem zmA (x0:Option Addr) (a1:Option Addr) (n1 c1:Nat) (x2:Option Addr) {K:Value->WP} {w:World} (h:S140 x0 a1 n1 c1 x2 K w):Calls prog 140 #[(.pointer x0),(.slice a1 n1 c1),(.pointer x2)] w (Ret K):=cF an140 false Tryz.func140 h
def an141:Ann:=(AN (AR (AN (AQ AO AP)) (AR (AN (.block (.loop [(21,.sh (.one .slc))] [] (AN (.block (AN (AR (AN (.block (.loop [(4,.sh (.one .slc)),(24,.sh (.one (.int .i64)))] [2,22,23,1000000] (AN (AR (AQ AP AP) (AR (.block AO) AP)))))) AP))))))) AO)))
def S141 (x0:Option Addr) (K:Value->WP):WP:=
 zi (.cells #[(.slice none 0 0)] 158) fun(r1:Nat)=>
 za (Option.isNone x0) (stW (aD r1) (.slice none 0 0)<|
 zO prog []<|
 ldW .slc (aD r1) fun(u2:SLC)=>K (.slice u2.1 u2.2.1 u2.2.2))<|
 zB<|
 zh x0 fun(p3:Addr)=>
 ldW .slc (p3.add 2) fun(u4:SLC)=>
 zh x0 fun(p5:Addr)=>
 ldW (.int .i64) p5 fun(u6:Int)=>
 ze prog 121 [(.int .i64 u6)] (.one (.one (.int .i64))) fun(u7:Int)=>
 zt [[((p3.add 2),(.slice u4.1 u4.2.1 u4.2.2))]]<|
 ze prog 181 [(.slice u4.1 u4.2.1 u4.2.2),(.int .i64 (wrap .i64 (Int.tdiv u7 (2:Int))))] (.one (.one .any)) fun(u8:Value)=>
 jc prog u8 (SLC×Unit) (fun(t9:SLC×Unit)=>[(.slice t9.1.1 t9.1.2.1 t9.1.2.2)]) (fun(t9:SLC×Unit) (B10:WP->WP) (N11:WP) (Q12:Code->WP)=>B10 (zz (SLC×Int×Unit) ((none,0,0),(0:Int),()) fun(y16:SLC×Int×Unit) (I15:(SLC×Int×Unit)->WP)=>
 za (decide (y16.2.1<((t9.1.2.1:Nat):Int))) (zc (0<=y16.2.1/\y16.2.1<((t9.1.2.1:Nat):Int))<|
 zh t9.1.1 fun(p17:Addr)=>
 ldW (.int .u16) (p17.add (Int.toNat y16.2.1*1)) fun(u18:Int)=>
 ze prog 42 [(.slice y16.1.1 y16.1.2.1 y16.1.2.2),(.int .u64 (wrap .u64 u18)),(.int .i64 (2:Int))] (.one (.one .slc)) fun(u19:SLC)=>I15 ((u19.1,u19.2.1,u19.2.2),(wrap .i64 (y16.2.1+(1:Int))),()))<|
 ldW .slc (aD r1) fun(u20:SLC)=>
 zy prog (Go.convert 85 9 (.slice y16.1.1 y16.1.2.1 y16.1.2.2)) .str fun(u21:ByteArray)=>
 zi (.cells #[(.string u21)] 9) fun(r22:Nat)=>
 zy prog (Builtin.append_ #[158,158] 158 #[(.slice u20.1 u20.2.1 u20.2.2),(.slice (some (aD r22)) 1 1)]) .slc fun(u23:SLC)=>
 stW (aD r1) (.slice u23.1 u23.2.1 u23.2.2)<|N11)) fun(r13:Nat) (p14:Option Code)=>
 qG (ldW .slc (aD r1) fun(u24:SLC)=>
 stW (aD r1) (.slice u24.1 u24.2.1 u24.2.2)<|
 zO prog (⟨.collected r13,#[]⟩::[])<|
 ldW .slc (aD r1) fun(u25:SLC)=>K (.slice u25.1 u25.2.1 u25.2.2)) (zO prog (⟨.collected r13,#[]⟩::[])<|
 ldW .slc (aD r1) fun(u26:SLC)=>K (.slice u26.1 u26.2.1 u26.2.2)) [] p14
theorem zmB (x0:Option Addr) {K:Value->WP} {w:World} (h:S141 x0 K w):Calls prog 141 #[(.pointer x0)] w (Ret K):=cF an141 true Tryz.func141 h
def an142:Ann:=(AN (AR (.block (AN (AQ AO (AN (AQ AO AP))))) (AR (AN (.block (.loop [(17,.sh (.one (.int .i64)))] [0,15,16,1000000] (AN (AR (AQ AP AP) (AR (.block AO) AP)))))) (AN AO))))
def S142 (x0:Option Addr) (K:Value->WP):WP:=
 za (Option.isNone x0) (K (.int .i64 (1:Int)))<|
 ze prog 163 [(.pointer x0)] (.one (.one .bool)) fun(u1:Bool)=>
 za (!u1) (K (.int .i64 (8:Int)))<|
 zh x0 fun(p2:Addr)=>
 ldW .slc (p2.add 3) fun(u3:SLC)=>
 zz (Int×Unit) ((0:Int),()) fun(y5:Int×Unit) (I4:(Int×Unit)->WP)=>
 za (decide (y5.1<((u3.2.1:Nat):Int))) (zc (0<=y5.1/\y5.1<((u3.2.1:Nat):Int))<|
 zh u3.1 fun(p6:Addr)=>
 zk [(.int .i64),.str] (p6.add (Int.toNat y5.1*2)) fun(u7:(Int×ByteArray×Unit))=>
 zi (.cells #[(.int .i64 (0:Int)),(.string ByteArray.empty)] 230) fun(r8:Nat)=>
 zc ((#[(.int .i64 u7.1),(.string u7.2.1)]:Array Value).size=2)<|
 zu (aD r8) [(.int .i64 u7.1),(.string u7.2.1)]<|
 zB<|
 zh x0 fun(p9:Addr)=>
 ldW .slc (p9.add 2) fun(u10:SLC)=>
 ldW (.int .i64) (aD r8) fun(u11:Int)=>
 ldW .str ((aD r8).add 1) fun(u12:ByteArray)=>
 zc (0<=u11/\u11<((u10.2.1:Nat):Int))<|
 zh u10.1 fun(p13:Addr)=>
 stW (p13.add (Int.toNat u11*1)) (.string u12)<|I4 ((wrap .i64 (y5.1+(1:Int))),()))<|
 zh x0 fun(p14:Addr)=>
 stW (p14.add 3) (.slice none 0 0)<|K (.int .i64 (0:Int))
theorem zmC (x0:Option Addr) {K:Value->WP} {w:World} (h:S142 x0 K w):Calls prog 142 #[(.pointer x0)] w (Ret K):=cF an142 false Tryz.func142 h
def an143:Ann:=(AN (AR (AN (AN (AQ AO AP))) (AN (AR (AN (.block (.loop [(5,.sh (.one .slc)),(28,.sh (.one (.int .i64)))] [1,26,27,1000000] (AN (AR (AQ AP AP) (AR (.block AO) AP)))))) (AN (AR (AN (.block (.loop [(5,.sh (.one .slc)),(45,.sh (.one (.int .i64)))] [1,43,44,1000000] (AN (AR (AQ AP AP) (AR (.block AO) AP)))))) AO))))))
def S143 (Aa:Int) (Af:Int) (Aq:Int) (Ay:Int) (AF:Option Addr) (AG AH:Nat) (K:Value->WP):WP:=
 zi (.cells #[(.int .u64 Aa),(.int .i64 Af),(.int .i64 Aq),(.int .u32 Ay),(.slice AF AG AH)] 79) fun(r1:Nat)=>
 zk [(.int .u64),(.int .i64),(.int .i64),(.int .u32),.slc] (aD r1) fun(u2:(Int×Int×Int×Int×SLC×Unit))=>
 ze prog 117 [(.agg #[(.int .u64 u2.1),(.int .i64 u2.2.1),(.int .i64 u2.2.2.1),(.int .u32 u2.2.2.2.1),(.slice u2.2.2.2.2.1.1 u2.2.2.2.2.1.2.1 u2.2.2.2.2.1.2.2)])] (.one (.one (.int .i64))) fun(u3:Int)=>
 za (u3 !=(0:Int)) (K (.tuple #[(.string (ByteArray.mk #[])),(.int .i64 u3)]))<|
 ldW (.int .i64) ((aD r1).add 1) fun(u4:Int)=>
 ldW (.int .i64) (((aD r1).add 1).add 1) fun(u5:Int)=>
 ldW (.int .u32) ((aD r1).add 3) fun(u6:Int)=>
 zi (.cells #[(.int .u64 (wrap .u64 u4)),(.int .u64 (wrap .u64 u5)),(.int .u64 (wrap .u64 u6))] 42) fun(r7:Nat)=>
 zz (SLC×Int×Unit) ((none,0,0),(0:Int),()) fun(y9:SLC×Int×Unit) (I8:(SLC×Int×Unit)->WP)=>
 za (decide (y9.2.1<((3:Nat):Int))) (zc (0<=y9.2.1/\y9.2.1<((3:Nat):Int))<|
 zh (some (aD r7)) fun(p10:Addr)=>
 ldW (.int .u64) (p10.add (Int.toNat y9.2.1*1)) fun(u11:Int)=>
 ze prog 42 [(.slice y9.1.1 y9.1.2.1 y9.1.2.2),(.int .u64 u11),(.int .i64 (4:Int))] (.one (.one .slc)) fun(u12:SLC)=>I8 ((u12.1,u12.2.1,u12.2.2),(wrap .i64 (y9.2.1+(1:Int))),()))<|
 ldW .slc ((aD r1).add 4) fun(u13:SLC)=>
 ze prog 42 [(.slice y9.1.1 y9.1.2.1 y9.1.2.2),(.int .u64 (wrap .u64 ((u13.2.1:Nat):Int))),(.int .i64 (2:Int))] (.one (.one .slc)) fun(u14:SLC)=>
 ldW .slc ((aD r1).add 4) fun(u15:SLC)=>
 zz (SLC×Int×Unit) ((u14.1,u14.2.1,u14.2.2),(0:Int),()) fun(y17:SLC×Int×Unit) (I16:(SLC×Int×Unit)->WP)=>
 za (decide (y17.2.1<((u15.2.1:Nat):Int))) (zc (0<=y17.2.1/\y17.2.1<((u15.2.1:Nat):Int))<|
 zh u15.1 fun(p18:Addr)=>
 ldW (.int .u32) (p18.add (Int.toNat y17.2.1*1)) fun(u19:Int)=>
 ze prog 42 [(.slice y17.1.1 y17.1.2.1 y17.1.2.2),(.int .u64 (wrap .u64 u19)),(.int .i64 (4:Int))] (.one (.one .slc)) fun(u20:SLC)=>I16 ((u20.1,u20.2.1,u20.2.2),(wrap .i64 (y17.2.1+(1:Int))),()))<|
 ldW (.int .i64) ((aD r1).add 1) fun(u21:Int)=>
 ldW (.int .u64) (aD r1) fun(u22:Int)=>
 zy prog (Go.convert 85 9 (.slice y17.1.1 y17.1.2.1 y17.1.2.2)) .str fun(u23:ByteArray)=>
 ze prog 123 [(.int .i64 u21),(.agg #[(.int .u8 (1:Int)),(.int .u64 u22),(.string u23)])] (.many [(.one .str),(.one (.int .i64))]) fun(u24:ByteArray×Int×Unit)=>K (.tuple #[(.string u24.1),(.int .i64 u24.2.1)])
theorem zmD (Aa:Int) (Af:Int) (Aq:Int) (Ay:Int) (AF:Option Addr) (AG AH:Nat) {K:Value->WP} {w:World} (h:S143 Aa Af Aq Ay AF AG AH K w):Calls prog 143 #[(.agg #[(.int .u64 Aa),(.int .i64 Af),(.int .i64 Aq),(.int .u32 Ay),(.slice AF AG AH)])] w (Ret K):=cF an143 false Tryz.func143 h
def an144:Ann:=(AN (AR (AN (AQ AO AP)) AO))
def S144 (a0:Option Addr) (n0 c0:Nat) (K:Value->WP):WP:=
 za (Option.isNone a0) (K (.slice none 0 0))<|
 zi (.cells #[] 194) fun(r1:Nat)=>
 zy prog (Builtin.append_ #[191,191] 191 #[(.slice (some (aD r1)) 0 0),(.slice a0 n0 c0)]) .slc fun(u2:SLC)=>K (.slice u2.1 u2.2.1 u2.2.2)
theorem zmE (a0:Option Addr) (n0 c0:Nat) {K:Value->WP} {w:World} (h:S144 a0 n0 c0 K w):Calls prog 144 #[(.slice a0 n0 c0)] w (Ret K):=cF an144 false Tryz.func144 h
def an154:Ann:=(AN AO)
def S154 (a0:Option Addr) (n0 c0:Nat) (x1:Value) (K:Value->WP):WP:=
 ze prog 195 [(.slice a0 n0 c0),x1] (.one (.one (.int .i64))) fun(u1:Int)=>K (.bool (decide (u1>=(0:Int))))
theorem zmF (a0:Option Addr) (n0 c0:Nat) (x1:Value) {K:Value->WP} {w:World} (h:S154 a0 n0 c0 x1 K w):Calls prog 154 #[(.slice a0 n0 c0),x1] w (Ret K):=cF an154 false Tryz.func154 h
def an155:Ann:=(AN AO)
def S155 (Aa:ByteArray) (Af:Int) (Aq:Bool) (a1:Addr) (K:Value->WP):WP:=
 zi (.cells #[(.string Aa),(.int .i64 Af),(.bool Aq)] 62) fun(r1:Nat)=>
 ldW .str (aD r1) fun(u2:ByteArray)=>
 ldW .str a1 fun(u3:ByteArray)=>K (.bool (u2.toList==u3.toList))
theorem zmG (Aa:ByteArray) (Af:Int) (Aq:Bool) (a1:Addr) {K:Value->WP} {w:World} (h:S155 Aa Af Aq a1 K w):Calls prog 155 #[(.agg #[(.string Aa),(.int .i64 Af),(.bool Aq)]),(.pointer (some a1))] w (Ret K):=cF an155 false Tryz.func155 h
def an156:Ann:=(AN AO)
def S156 (a0:Option Addr) (n0 c0:Nat) (K:Value->WP):WP:=
 zi (.cells #[(.slice a0 n0 c0)] 85) fun(r1:Nat)=>K (.func (.func 196) #[] #[(.pointer (some (aD r1)))])
theorem zmH (a0:Option Addr) (n0 c0:Nat) {K:Value->WP} {w:World} (h:S156 a0 n0 c0 K w):Calls prog 156 #[(.slice a0 n0 c0)] w (Ret K):=cF an156 false Tryz.func156 h
def an157:Ann:=(AN (AR (AN (AQ AO AP)) (AN AO)))
def S157 (x0:ByteArray) (K:Value->WP):WP:=
 zi (.cells #[(.string ByteArray.empty),(.int .i64 (0:Int)),(.bool false)] 62) fun(r1:Nat)=>
 za (decide (((x0.size:Nat):Int)<(2:Int))) (zc ((#[(.string ByteArray.empty),(.int .i64 (0:Int)),(.bool false)]:Array Value).size=3)<|
 zu (aD r1) [(.string ByteArray.empty),(.int .i64 (0:Int)),(.bool false)]<|
 zk [.str,(.int .i64),.bool] (aD r1) fun(u2:(ByteArray×Int×Bool×Unit))=>K (.tuple #[(.agg #[(.string u2.1),(.int .i64 u2.2.1),(.bool u2.2.2.1)]),(.string (ByteArray.mk #[])),(.bool false)]))<|
 zc (0<=(1:Int)/\(1:Int)<((x0.size:Nat):Int))<|
 za (decide ((wrap .i64 (((x0.size:Nat):Int)-(2:Int)))<(wrap .i64 (bt x0 (1:Int))))) (zc ((#[(.string ByteArray.empty),(.int .i64 (0:Int)),(.bool false)]:Array Value).size=3)<|
 zu (aD r1) [(.string ByteArray.empty),(.int .i64 (0:Int)),(.bool false)]<|
 zk [.str,(.int .i64),.bool] (aD r1) fun(u3:(ByteArray×Int×Bool×Unit))=>K (.tuple #[(.agg #[(.string u3.1),(.int .i64 u3.2.1),(.bool u3.2.2.1)]),(.string (ByteArray.mk #[])),(.bool false)]))<|
 zc (0<=(1:Int)/\(1:Int)<((x0.size:Nat):Int))<|
 zB<|
 zc (0<=(2:Int)/\(2:Int)<=(wrap .i64 ((2:Int)+(wrap .i64 (bt x0 (1:Int)))))/\(wrap .i64 ((2:Int)+(wrap .i64 (bt x0 (1:Int)))))<=((x0.size:Nat):Int))<|
 zc (0<=(0:Int)/\(0:Int)<((x0.size:Nat):Int))<|
 zc (0<=(0:Int)/\(0:Int)<((x0.size:Nat):Int))<|
 zc (0<=(wrap .i64 ((2:Int)+(wrap .i64 (bt x0 (1:Int)))))/\(wrap .i64 ((2:Int)+(wrap .i64 (bt x0 (1:Int)))))<=((x0.size:Nat):Int))<|
 zc ((#[(.string (ByteArray.extract x0 (Int.toNat (2:Int)) (Int.toNat (wrap .i64 ((2:Int)+(wrap .i64 (bt x0 (1:Int)))))))),(.int .i64 (wrap .i64 (iandn .u8 (bt x0 (0:Int)) (128:Int)))),(.bool ((iand .u8 (bt x0 (0:Int)) (128:Int)) !=(0:Int)))]:Array Value).size=3)<|
 zu (aD r1) [(.string (ByteArray.extract x0 (Int.toNat (2:Int)) (Int.toNat (wrap .i64 ((2:Int)+(wrap .i64 (bt x0 (1:Int)))))))),(.int .i64 (wrap .i64 (iandn .u8 (bt x0 (0:Int)) (128:Int)))),(.bool ((iand .u8 (bt x0 (0:Int)) (128:Int)) !=(0:Int)))]<|
 zk [.str,(.int .i64),.bool] (aD r1) fun(u4:(ByteArray×Int×Bool×Unit))=>K (.tuple #[(.agg #[(.string u4.1),(.int .i64 u4.2.1),(.bool u4.2.2.1)]),(.string (ByteArray.extract x0 (Int.toNat (wrap .i64 ((2:Int)+(wrap .i64 (bt x0 (1:Int)))))) x0.size)),(.bool true)])
theorem zmI (x0:ByteArray) {K:Value->WP} {w:World} (h:S157 x0 K w):Calls prog 157 #[(.string x0)] w (Ret K):=cF an157 false Tryz.func157 h
def an161:Ann:=(AN AO)
def S161 (x0:Int) (a1:Addr) (K:Value->WP):WP:=
 za (decide (x0>=(2:Int))) (ldW (.int .i64) ((a1.add 1).add 1) fun(u1:Int)=>K (.bool (decide ((wrap .u64 x0)<(wrap .u64 u1)))))<|K (.bool false)
theorem zmJ (x0:Int) (a1:Addr) {K:Value->WP} {w:World} (h:S161 x0 a1 K w):Calls prog 161 #[(.int .u32 x0),(.pointer (some a1))] w (Ret K):=cF an161 false Tryz.func161 h
def an162:Ann:=(AN AO)
def S162 (x0:Option Addr) (x1:Int) (K:Value->WP):WP:=
 za (decide (x1>=(0:Int))) (zh x0 fun(p1:Addr)=>
 ldW (.int .i64) (p1.add 1) fun(u2:Int)=>K (.bool (decide (x1<u2))))<|K (.bool false)
theorem zmK (x0:Option Addr) (x1:Int) {K:Value->WP} {w:World} (h:S162 x0 x1 K w):Calls prog 162 #[(.pointer x0),(.int .i64 x1)] w (Ret K):=cF an162 false Tryz.func162 h
def an163:Ann:=(AN (AR (AN (AQ AO AP)) (AN (AN AO))))
def S163 (x0:Option Addr) (K:Value->WP):WP:=
 zh x0 fun(p1:Addr)=>
 ldW (.int .i64) (p1.add 5) fun(u2:Int)=>
 za (u2==(0:Int)) (K (.bool false))<|
 zh x0 fun(p3:Addr)=>
 ldW (.int .i64) (p3.add 5) fun(u4:Int)=>
 zh x0 fun(p5:Addr)=>
 stW (p5.add 5) (.int .i64 (if (wrap .i64 (u4-(1:Int)))>(-1:Int) then (wrap .i64 (u4-(1:Int))) else (-1:Int)))<|
 zh x0 fun(p6:Addr)=>
 ldW (.int .i64) (p6.add 4) fun(u7:Int)=>
 zh x0 fun(p8:Addr)=>
 stW (p8.add 4) (.int .i64 (wrap .i64 (u7+(1:Int))))<|K (.bool true)
theorem zmL (x0:Option Addr) {K:Value->WP} {w:World} (h:S163 x0 K w):Calls prog 163 #[(.pointer x0)] w (Ret K):=cF an163 false Tryz.func163 h
def an164:Ann:=(AN (AR (AN (.block (.loop [(8,.sh (.one (.int .i64)))] [0,1,7,1000000] (AN (AR (AQ AP AP) (AR (.block (AN (AN (AQ AO AP)))) AP)))))) AO))
def S164 (a0:Option Addr) (n0 c0:Nat) (x1:Int) (K:Value->WP):WP:=
 zz (Int×Unit) ((0:Int),()) fun(y2:Int×Unit) (I1:(Int×Unit)->WP)=>
 za (decide (y2.1<((n0:Nat):Int))) (zc (0<=y2.1/\y2.1<((n0:Nat):Int))<|
 zh a0 fun(p3:Addr)=>
 ldW (.int .u32) (p3.add (Int.toNat y2.1*1)) fun(u4:Int)=>
 za (x1==u4) (K (.int .i64 y2.1))<|I1 ((wrap .i64 (y2.1+(1:Int))),()))<|K (.int .i64 (-1:Int))
theorem zmM (a0:Option Addr) (n0 c0:Nat) (x1:Int) {K:Value->WP} {w:World} (h:S164 a0 n0 c0 x1 K w):Calls prog 164 #[(.slice a0 n0 c0),(.int .u32 x1)] w (Ret K):=cF an164 false Tryz.func164 h
def an165:Ann:=(AN AO)
def S165 (a0:Option Addr) (n0 c0:Nat) (K:Value->WP):WP:=
 ze prog 201 [] (.one (.arr 256)) fun(u1:Array Value)=>
 ze prog 200 [(.agg u1),(.slice a0 n0 c0)] (.one (.one (.int .u32))) fun(u2:Int)=>K (.int .u32 u2)
theorem zmN (a0:Option Addr) (n0 c0:Nat) {K:Value->WP} {w:World} (h:S165 a0 n0 c0 K w):Calls prog 165 #[(.slice a0 n0 c0)] w (Ret K):=cF an165 false Tryz.func165 h
def an166:Ann:=(AN (AN (AR (AN (AQ AO AP)) AO)))
def S166 (x0:Option Addr) (x1:Int) (K:Value->WP):WP:=
 zi (.cells #[(.int .u8 (0:Int)),(.slice none 0 0),(.slice none 0 0),(.slice none 0 0)] 215) fun(r1:Nat)=>
 ze prog 88 [(.pointer x0),(.int .u32 x1)] (.many [(.agg [(.int .u8),.slc,.str]),(.one (.int .i64))]) fun(u2:(Int×SLC×ByteArray×Unit)×Int×Unit)=>
 zi (.cells #[(.int .u8 (0:Int)),(.slice none 0 0),(.string ByteArray.empty)] 56) fun(r3:Nat)=>
 zc ((#[(.int .u8 u2.1.1),(.slice u2.1.2.1.1 u2.1.2.1.2.1 u2.1.2.1.2.2),(.string u2.1.2.2.1)]:Array Value).size=3)<|
 zu (aD r3) [(.int .u8 u2.1.1),(.slice u2.1.2.1.1 u2.1.2.1.2.1 u2.1.2.1.2.2),(.string u2.1.2.2.1)]<|
 za (u2.2.1 !=(0:Int)) (zc ((#[(.int .u8 (0:Int)),(.slice none 0 0),(.slice none 0 0),(.slice none 0 0)]:Array Value).size=4)<|
 zu (aD r1) [(.int .u8 (0:Int)),(.slice none 0 0),(.slice none 0 0),(.slice none 0 0)]<|
 zk [(.int .u8),.slc,.slc,.slc] (aD r1) fun(u4:(Int×SLC×SLC×SLC×Unit))=>K (.tuple #[(.agg #[(.int .u8 u4.1),(.slice u4.2.1.1 u4.2.1.2.1 u4.2.1.2.2),(.slice u4.2.2.1.1 u4.2.2.1.2.1 u4.2.2.1.2.2),(.slice u4.2.2.2.1.1 u4.2.2.2.1.2.1 u4.2.2.2.1.2.2)]),(.int .i64 u2.2.1)]))<|
 zk [(.int .u8),.slc,.str] (aD r3) fun(u5:(Int×SLC×ByteArray×Unit))=>
 ze prog 202 [(.agg #[(.int .u8 u5.1),(.slice u5.2.1.1 u5.2.1.2.1 u5.2.1.2.2),(.string u5.2.2.1)])] (.many [(.agg [(.int .u8),.slc,.slc,.slc]),(.one (.int .i64))]) fun(u6:(Int×SLC×SLC×SLC×Unit)×Int×Unit)=>
 zc ((#[(.int .u8 u6.1.1),(.slice u6.1.2.1.1 u6.1.2.1.2.1 u6.1.2.1.2.2),(.slice u6.1.2.2.1.1 u6.1.2.2.1.2.1 u6.1.2.2.1.2.2),(.slice u6.1.2.2.2.1.1 u6.1.2.2.2.1.2.1 u6.1.2.2.2.1.2.2)]:Array Value).size=4)<|
 zu (aD r1) [(.int .u8 u6.1.1),(.slice u6.1.2.1.1 u6.1.2.1.2.1 u6.1.2.1.2.2),(.slice u6.1.2.2.1.1 u6.1.2.2.1.2.1 u6.1.2.2.1.2.2),(.slice u6.1.2.2.2.1.1 u6.1.2.2.2.1.2.1 u6.1.2.2.2.1.2.2)]<|
 zk [(.int .u8),.slc,.slc,.slc] (aD r1) fun(u7:(Int×SLC×SLC×SLC×Unit))=>K (.tuple #[(.agg #[(.int .u8 u7.1),(.slice u7.2.1.1 u7.2.1.2.1 u7.2.1.2.2),(.slice u7.2.2.1.1 u7.2.2.1.2.1 u7.2.2.1.2.2),(.slice u7.2.2.2.1.1 u7.2.2.2.1.2.1 u7.2.2.2.1.2.2)]),(.int .i64 u6.2.1)])
theorem zmO (x0:Option Addr) (x1:Int) {K:Value->WP} {w:World} (h:S166 x0 x1 K w):Calls prog 166 #[(.pointer x0),(.int .u32 x1)] w (Ret K):=cF an166 false Tryz.func166 h
def an167:Ann:=(AN AO)
def S167 (Aa:Int) (Ab:Option Addr) (Ac Ae:Nat) (Aj:Option Addr) (Ak Al:Nat) (Am:Option Addr) (An Ao:Nat) (K:Value->WP):WP:=
 zi (.cells #[(.int .u8 Aa),(.slice Ab Ac Ae),(.slice Aj Ak Al),(.slice Am An Ao)] 215) fun(r1:Nat)=>
 ldW (.int .u8) (aD r1) fun(u2:Int)=>K (.bool (u2==(3:Int)))
theorem zmP (Aa:Int) (Ab:Option Addr) (Ac Ae:Nat) (Aj:Option Addr) (Ak Al:Nat) (Am:Option Addr) (An Ao:Nat) {K:Value->WP} {w:World} (h:S167 Aa Ab Ac Ae Aj Ak Al Am An Ao K w):Calls prog 167 #[(.agg #[(.int .u8 Aa),(.slice Ab Ac Ae),(.slice Aj Ak Al),(.slice Am An Ao)])] w (Ret K):=cF an167 false Tryz.func167 h
def an168:Ann:=(AN (AR (AN (AQ AO AP)) AO))
def S168 (Aa:Int) (Ab:Option Addr) (Ac Ae:Nat) (Aj:Option Addr) (Ak Al:Nat) (Am:Option Addr) (An Ao:Nat) (x1:Int) (K:Value->WP):WP:=
 zi (.cells #[(.int .u8 Aa),(.slice Ab Ac Ae),(.slice Aj Ak Al),(.slice Am An Ao)] 215) fun(r1:Nat)=>
 zk [(.int .u8),.slc,.slc,.slc] (aD r1) fun(u2:(Int×SLC×SLC×SLC×Unit))=>
 ze prog 203 [(.agg #[(.int .u8 u2.1),(.slice u2.2.1.1 u2.2.1.2.1 u2.2.1.2.2),(.slice u2.2.2.1.1 u2.2.2.1.2.1 u2.2.2.1.2.2),(.slice u2.2.2.2.1.1 u2.2.2.2.1.2.1 u2.2.2.2.1.2.2)])] (.one (.one .bool)) fun(u3:Bool)=>
 za u3 (ldW .slc ((aD r1).add 3) fun(u4:SLC)=>
 zc (0<=x1/\x1<((u4.2.1:Nat):Int))<|
 zh u4.1 fun(p5:Addr)=>
 ldW (.int .u32) (p5.add (Int.toNat x1*1)) fun(u6:Int)=>K (.int .u64 (wrap .u64 u6)))<|
 ldW .slc ((aD r1).add 2) fun(u7:SLC)=>
 zc (0<=x1/\x1<((u7.2.1:Nat):Int))<|
 zh u7.1 fun(p8:Addr)=>
 ldW (.int .u64) (p8.add (Int.toNat x1*1)) fun(u9:Int)=>K (.int .u64 u9)
theorem zmQ (Aa:Int) (Ab:Option Addr) (Ac Ae:Nat) (Aj:Option Addr) (Ak Al:Nat) (Am:Option Addr) (An Ao:Nat) (x1:Int) {K:Value->WP} {w:World} (h:S168 Aa Ab Ac Ae Aj Ak Al Am An Ao x1 K w):Calls prog 168 #[(.agg #[(.int .u8 Aa),(.slice Ab Ac Ae),(.slice Aj Ak Al),(.slice Am An Ao)]),(.int .i64 x1)] w (Ret K):=cF an168 false Tryz.func168 h
def an169:Ann:=(AN (AR (AN (AQ AO AP)) (AN (.block (.loop [(4,.sh (.one (.int .i64))),(26,.sh (.one (.int .i64)))] [0,1,24,25,1000000] (AN (AR (AQ AP AP) (AR (.block (AN (AN (AN (AN (.join [(11,.sh (.one (.int .i64)))] [0,1,4,10,24,25,26,1000000] (AN (AQ AP AP)) (AR (AN (AQ AO AP)) (AN (AQ AP AP))))))))) AP))))))))
def S169 (x0:Value) (a1:Addr) (a2:Addr) (K:Value->WP):WP:=
 ldW .ptr a1 fun(u1:Option Addr)=>
 ldW (.int .u32) a2 fun(u2:Int)=>
 ze prog 170 [(.pointer u1),(.int .u32 u2)] (.many [(.one (.int .i64)),(.one .slc),(.one (.int .i64))]) fun(u3:Int×SLC×Int×Unit)=>
 za (u3.2.2.1 !=(0:Int)) (yw prog x0 [(.string (ByteArray.mk #[])),(.int .i64 u3.2.2.1)] (.one (.one .bool)) fun(u4:Bool)=>K (.tuple #[]))<|
 zz (Int×Int×Unit) (u3.1,(0:Int),()) fun(y6:Int×Int×Unit) (I5:(Int×Int×Unit)->WP)=>
 za (decide (y6.2.1<((u3.2.1.2.1:Nat):Int))) (zc (0<=y6.2.1/\y6.2.1<((u3.2.1.2.1:Nat):Int))<|
 zh u3.2.1.1 fun(p7:Addr)=>
 ldW (.int .u32) (p7.add (Int.toNat y6.2.1*1)) fun(u8:Int)=>
 ldW .ptr a1 fun(u9:Option Addr)=>
 ze prog 76 [(.pointer u9),(.int .i64 (0:Int))] (.one (.one (.int .i64))) fun(u10:Int)=>
 ldW .ptr a1 fun(u11:Option Addr)=>
 ze prog 88 [(.pointer u11),(.int .u32 u8)] (.many [(.agg [(.int .u8),.slc,.str]),(.one (.int .i64))]) fun(u12:(Int×SLC×ByteArray×Unit)×Int×Unit)=>
 zi (.cells #[(.int .u8 (0:Int)),(.slice none 0 0),(.string ByteArray.empty)] 56) fun(r13:Nat)=>
 zc ((#[(.int .u8 u12.1.1),(.slice u12.1.2.1.1 u12.1.2.1.2.1 u12.1.2.1.2.2),(.string u12.1.2.2.1)]:Array Value).size=3)<|
 zu (aD r13) [(.int .u8 u12.1.1),(.slice u12.1.2.1.1 u12.1.2.1.2.1 u12.1.2.1.2.2),(.string u12.1.2.2.1)]<|
 yQ (Int×Unit) (fun(J14:(Int×Unit)->WP)=>
 za (u12.2.1==(0:Int)) (ldW (.int .u8) (aD r13) fun(u16:Int)=>
 za (u16 !=(7:Int)) (J14 ((10:Int),()))<|
 ldW .slc ((aD r13).add 1) fun(u17:SLC)=>
 za (decide (((u17.2.1:Nat):Int)>(0:Int))) (J14 ((10:Int),()))<|
 ldW .str ((aD r13).add 2) fun(u18:ByteArray)=>
 za (((u18.size:Nat):Int) !=(if u10<y6.1 then u10 else y6.1)) (J14 ((10:Int),()))<|J14 (u12.2.1,()))<|J14 (u12.2.1,())) fun(y15:Int×Unit)=>
 za (y15.1 !=(0:Int)) (yw prog x0 [(.string (ByteArray.mk #[])),(.int .i64 y15.1)] (.one (.one .bool)) fun(u19:Bool)=>K (.tuple #[]))<|
 ldW .str ((aD r13).add 2) fun(u20:ByteArray)=>
 yw prog x0 [(.string u20),(.int .i64 (0:Int))] (.one (.one .bool)) fun(u21:Bool)=>
 za (!u21) (K (.tuple #[]))<|I5 ((wrap .i64 (y6.1-(if u10<y6.1 then u10 else y6.1))),(wrap .i64 (y6.2.1+(1:Int))),()))<|K (.tuple #[])
theorem zmR (x0:Value) (a1:Addr) (a2:Addr) {K:Value->WP} {w:World} (h:S169 x0 a1 a2 K w):Calls prog 169 #[x0,(.pointer (some a1)),(.pointer (some a2))] w (Ret K):=cF an169 false Tryz.func169 h
def an170:Ann:=(AN (AN (AR (.block (AN (AQ AO (AN (AQ AO (AN (AQ AO AP))))))) (AN (AN (AR (AN (AQ AO AP)) AO))))))
def S170 (x0:Option Addr) (x1:Int) (K:Value->WP):WP:=
 ze prog 88 [(.pointer x0),(.int .u32 x1)] (.many [(.agg [(.int .u8),.slc,.str]),(.one (.int .i64))]) fun(u1:(Int×SLC×ByteArray×Unit)×Int×Unit)=>
 zi (.cells #[(.int .u8 (0:Int)),(.slice none 0 0),(.string ByteArray.empty)] 56) fun(r2:Nat)=>
 zc ((#[(.int .u8 u1.1.1),(.slice u1.1.2.1.1 u1.1.2.1.2.1 u1.1.2.1.2.2),(.string u1.1.2.2.1)]:Array Value).size=3)<|
 zu (aD r2) [(.int .u8 u1.1.1),(.slice u1.1.2.1.1 u1.1.2.1.2.1 u1.1.2.1.2.2),(.string u1.1.2.2.1)]<|
 za (u1.2.1 !=(0:Int)) (K (.tuple #[(.int .i64 (0:Int)),(.slice none 0 0),(.int .i64 u1.2.1)]))<|
 ldW (.int .u8) (aD r2) fun(u3:Int)=>
 za (u3 !=(6:Int)) (K (.tuple #[(.int .i64 (0:Int)),(.slice none 0 0),(.int .i64 (11:Int))]))<|
 ldW .str ((aD r2).add 2) fun(u4:ByteArray)=>
 za (((u4.size:Nat):Int) !=(4:Int)) (K (.tuple #[(.int .i64 (0:Int)),(.slice none 0 0),(.int .i64 (10:Int))]))<|
 ldW .str ((aD r2).add 2) fun(u5:ByteArray)=>
 zy prog (Go.convert 9 85 (.string u5)) .slc fun(u6:SLC)=>
 ze prog 107 [(.slice u6.1 u6.2.1 u6.2.2)] (.one (.one (.int .u64))) fun(u7:Int)=>
 ze prog 76 [(.pointer x0),(.int .i64 (0:Int))] (.one (.one (.int .i64))) fun(u8:Int)=>
 zB<|
 za (decide ((wrap .i64 u7)>(65536:Int))) (K (.tuple #[(.int .i64 (0:Int)),(.slice none 0 0),(.int .i64 (10:Int))]))<|
 zc (u8≠0)<|
 ldW .slc ((aD r2).add 1) fun(u9:SLC)=>
 za ((wrap .i64 (Int.tdiv (wrap .i64 ((wrap .i64 ((wrap .i64 u7)+u8))-(1:Int))) u8)) !=((u9.2.1:Nat):Int)) (K (.tuple #[(.int .i64 (0:Int)),(.slice none 0 0),(.int .i64 (10:Int))]))<|
 zB<|
 ldW .slc ((aD r2).add 1) fun(u10:SLC)=>K (.tuple #[(.int .i64 (wrap .i64 u7)),(.slice u10.1 u10.2.1 u10.2.2),(.int .i64 (0:Int))])
theorem zmS (x0:Option Addr) (x1:Int) {K:Value->WP} {w:World} (h:S170 x0 x1 K w):Calls prog 170 #[(.pointer x0),(.int .u32 x1)] w (Ret K):=cF an170 false Tryz.func170 h
def an172:Ann:=(AN (AN (AR (AN (AQ AO AP)) (AN (AR (AN (.block (.loop [(4,.sh (.one .slc)),(5,.sh (.one .slc)),(28,.sh (.one (.int .i64)))] [1,2,8,27,1000000] (AN (AR (AQ AP AP) (AR (.block (AN (AN (AN (AR (AN (AQ AO AP)) AP))))) AP)))))) AO)))))
def S172 (Aa:Int) (Ab:Option Addr) (Ac Ae:Nat) (Aj:Option Addr) (Ak Al:Nat) (Am:Option Addr) (An Ao:Nat) (x1:Option Addr) (K:Value->WP):WP:=
 zi (.cells #[(.int .u8 Aa),(.slice Ab Ac Ae),(.slice Aj Ak Al),(.slice Am An Ao)] 215) fun(r1:Nat)=>
 ldW (.int .u8) (aD r1) fun(u2:Int)=>
 ze prog 205 [(.pointer x1),(.int .u8 u2)] (.one (.one (.int .i64))) fun(u3:Int)=>
 za (decide (u3<(2:Int))) (K (.tuple #[(.slice none 0 0),(.slice none 0 0),(.int .i64 (3:Int))]))<|
 ldW .slc ((aD r1).add 1) fun(u4:SLC)=>
 zc (u3≠0)<|
 zz (SLC×SLC×Int×Unit) ((none,0,0),(none,0,0),(0:Int),()) fun(y6:SLC×SLC×Int×Unit) (I5:(SLC×SLC×Int×Unit)->WP)=>
 za (decide (y6.2.2.1<(wrap .i64 (Int.tdiv (wrap .i64 ((wrap .i64 (((u4.2.1:Nat):Int)+u3))-(1:Int))) u3)))) (zB<|
 zk [(.int .u8),.slc,.slc,.slc] (aD r1) fun(u7:(Int×SLC×SLC×SLC×Unit))=>
 ldW .slc ((aD r1).add 1) fun(u8:SLC)=>
 zc ((wrap .i64 (Int.tdiv (wrap .i64 ((wrap .i64 (((u4.2.1:Nat):Int)+u3))-(1:Int))) u3))≠0)<|
 ldW .slc ((aD r1).add 1) fun(u9:SLC)=>
 zc ((wrap .i64 (Int.tdiv (wrap .i64 ((wrap .i64 (((u4.2.1:Nat):Int)+u3))-(1:Int))) u3))≠0)<|
 kY (ze prog 206 [(.agg #[(.int .u8 u7.1),(.slice u7.2.1.1 u7.2.1.2.1 u7.2.1.2.2),(.slice u7.2.2.1.1 u7.2.2.1.2.1 u7.2.2.1.2.2),(.slice u7.2.2.2.1.1 u7.2.2.2.1.2.1 u7.2.2.2.1.2.2)]),(.int .i64 (wrap .i64 (Int.tdiv (wrap .i64 (y6.2.2.1*((u8.2.1:Nat):Int))) (wrap .i64 (Int.tdiv (wrap .i64 ((wrap .i64 (((u4.2.1:Nat):Int)+u3))-(1:Int))) u3))))),(.int .i64 (wrap .i64 (Int.tdiv (wrap .i64 ((wrap .i64 (y6.2.2.1+(1:Int)))*((u9.2.1:Nat):Int))) (wrap .i64 (Int.tdiv (wrap .i64 ((wrap .i64 (((u4.2.1:Nat):Int)+u3))-(1:Int))) u3)))))] (.one (.agg [(.int .u8),.slc,.slc,.slc])) fun(u10:(Int×SLC×SLC×SLC×Unit))=>
 zi (.cells #[(.int .u8 (0:Int)),(.slice none 0 0),(.slice none 0 0),(.slice none 0 0)] 215) fun(r11:Nat)=>
 zt [[(((aD r1).add 1),(.slice u9.1 u9.2.1 u9.2.2))],[(((aD r1).add 1),(.slice u8.1 u8.2.1 u8.2.2))],[((aD r1).add 0,(.int .u8 u7.1)),((aD r1).add 1,(.slice u7.2.1.1 u7.2.1.2.1 u7.2.1.2.2)),((aD r1).add 2,(.slice u7.2.2.1.1 u7.2.2.1.2.1 u7.2.2.1.2.2)),((aD r1).add 3,(.slice u7.2.2.2.1.1 u7.2.2.2.1.2.1 u7.2.2.2.1.2.2))]]<|
 zc ((#[(.int .u8 u10.1),(.slice u10.2.1.1 u10.2.1.2.1 u10.2.1.2.2),(.slice u10.2.2.1.1 u10.2.2.1.2.1 u10.2.2.1.2.2),(.slice u10.2.2.2.1.1 u10.2.2.2.1.2.1 u10.2.2.2.1.2.2)]:Array Value).size=4)<|
 zu (aD r11) [(.int .u8 u10.1),(.slice u10.2.1.1 u10.2.1.2.1 u10.2.1.2.2),(.slice u10.2.2.1.1 u10.2.2.1.2.1 u10.2.2.1.2.2),(.slice u10.2.2.2.1.1 u10.2.2.2.1.2.1 u10.2.2.2.1.2.2)]<|
 zk [(.int .u8),.slc,.slc,.slc] (aD r11) fun(u12:(Int×SLC×SLC×SLC×Unit))=>
 ze prog 207 [(.agg #[(.int .u8 u12.1),(.slice u12.2.1.1 u12.2.1.2.1 u12.2.1.2.2),(.slice u12.2.2.1.1 u12.2.2.1.2.1 u12.2.2.1.2.2),(.slice u12.2.2.2.1.1 u12.2.2.2.1.2.1 u12.2.2.2.1.2.2)]),(.pointer x1)] (.many [(.one (.int .u32)),(.one (.int .i64))]) fun(u13:Int×Int×Unit)=>
 za (u13.2.1 !=(0:Int)) (K (.tuple #[(.slice none 0 0),(.slice none 0 0),(.int .i64 u13.2.1)]))<|
 ldW .slc ((aD r11).add 1) fun(u14:SLC)=>
 zc (0<=(0:Int)/\(0:Int)<((u14.2.1:Nat):Int))<|
 zh u14.1 fun(p15:Addr)=>
 ldW (.int .u64) (p15.add (Int.toNat (0:Int)*1)) fun(u16:Int)=>
 zi (.cells #[(.int .u64 u16)] 42) fun(r17:Nat)=>
 zy prog (Builtin.append_ #[129,129] 129 #[(.slice y6.1.1 y6.1.2.1 y6.1.2.2),(.slice (some (aD r17)) 1 1)]) .slc fun(u18:SLC)=>
 zi (.cells #[(.int .u32 u13.1)] 41) fun(r19:Nat)=>
 zy prog (Builtin.append_ #[54,54] 54 #[(.slice y6.2.1.1 y6.2.1.2.1 y6.2.1.2.2),(.slice (some (aD r19)) 1 1)]) .slc fun(u20:SLC)=>I5 ((u18.1,u18.2.1,u18.2.2),(u20.1,u20.2.1,u20.2.2),(wrap .i64 (y6.2.2.1+(1:Int))),()))<|
 zi (.cells #[(.int .u8 (0:Int)),(.slice none 0 0),(.slice none 0 0),(.slice none 0 0)] 215) fun(r21:Nat)=>
 zt [[(((aD r1).add 1),(.slice u9.1 u9.2.1 u9.2.2))],[(((aD r1).add 1),(.slice u8.1 u8.2.1 u8.2.2))],[((aD r1).add 0,(.int .u8 u7.1)),((aD r1).add 1,(.slice u7.2.1.1 u7.2.1.2.1 u7.2.1.2.2)),((aD r1).add 2,(.slice u7.2.2.1.1 u7.2.2.1.2.1 u7.2.2.1.2.2)),((aD r1).add 3,(.slice u7.2.2.2.1.1 u7.2.2.2.1.2.1 u7.2.2.2.1.2.2))]]<|
 ze prog 206 [(.agg #[(.int .u8 u7.1),(.slice u7.2.1.1 u7.2.1.2.1 u7.2.1.2.2),(.slice u7.2.2.1.1 u7.2.2.1.2.1 u7.2.2.1.2.2),(.slice u7.2.2.2.1.1 u7.2.2.2.1.2.1 u7.2.2.2.1.2.2)]),(.int .i64 (wrap .i64 (Int.tdiv (wrap .i64 (y6.2.2.1*((u8.2.1:Nat):Int))) (wrap .i64 (Int.tdiv (wrap .i64 ((wrap .i64 (((u4.2.1:Nat):Int)+u3))-(1:Int))) u3))))),(.int .i64 (wrap .i64 (Int.tdiv (wrap .i64 ((wrap .i64 (y6.2.2.1+(1:Int)))*((u9.2.1:Nat):Int))) (wrap .i64 (Int.tdiv (wrap .i64 ((wrap .i64 (((u4.2.1:Nat):Int)+u3))-(1:Int))) u3)))))] (.one (.agg [(.int .u8),.slc,.slc,.slc])) fun(u22:(Int×SLC×SLC×SLC×Unit))=>
 zc ((#[(.int .u8 u22.1),(.slice u22.2.1.1 u22.2.1.2.1 u22.2.1.2.2),(.slice u22.2.2.1.1 u22.2.2.1.2.1 u22.2.2.1.2.2),(.slice u22.2.2.2.1.1 u22.2.2.2.1.2.1 u22.2.2.2.1.2.2)]:Array Value).size=4)<|
 zu (aD r21) [(.int .u8 u22.1),(.slice u22.2.1.1 u22.2.1.2.1 u22.2.1.2.2),(.slice u22.2.2.1.1 u22.2.2.1.2.1 u22.2.2.1.2.2),(.slice u22.2.2.2.1.1 u22.2.2.2.1.2.1 u22.2.2.2.1.2.2)]<|
 zk [(.int .u8),.slc,.slc,.slc] (aD r21) fun(u23:(Int×SLC×SLC×SLC×Unit))=>
 ze prog 207 [(.agg #[(.int .u8 u23.1),(.slice u23.2.1.1 u23.2.1.2.1 u23.2.1.2.2),(.slice u23.2.2.1.1 u23.2.2.1.2.1 u23.2.2.1.2.2),(.slice u23.2.2.2.1.1 u23.2.2.2.1.2.1 u23.2.2.2.1.2.2)]),(.pointer x1)] (.many [(.one (.int .u32)),(.one (.int .i64))]) fun(u24:Int×Int×Unit)=>
 za (u24.2.1 !=(0:Int)) (K (.tuple #[(.slice none 0 0),(.slice none 0 0),(.int .i64 u24.2.1)]))<|
 ldW .slc ((aD r21).add 1) fun(u25:SLC)=>
 zc (0<=(0:Int)/\(0:Int)<((u25.2.1:Nat):Int))<|
 zh u25.1 fun(p26:Addr)=>
 ldW (.int .u64) (p26.add (Int.toNat (0:Int)*1)) fun(u27:Int)=>
 zi (.cells #[(.int .u64 u27)] 42) fun(r28:Nat)=>
 zy prog (Builtin.append_ #[129,129] 129 #[(.slice y6.1.1 y6.1.2.1 y6.1.2.2),(.slice (some (aD r28)) 1 1)]) .slc fun(u29:SLC)=>
 zi (.cells #[(.int .u32 u24.1)] 41) fun(r30:Nat)=>
 zy prog (Builtin.append_ #[54,54] 54 #[(.slice y6.2.1.1 y6.2.1.2.1 y6.2.1.2.2),(.slice (some (aD r30)) 1 1)]) .slc fun(u31:SLC)=>I5 ((u29.1,u29.2.1,u29.2.2),(u31.1,u31.2.1,u31.2.2),(wrap .i64 (y6.2.2.1+(1:Int))),()))<|K (.tuple #[(.slice y6.1.1 y6.1.2.1 y6.1.2.2),(.slice y6.2.1.1 y6.2.1.2.1 y6.2.1.2.2),(.int .i64 (0:Int))])
theorem zmT (Aa:Int) (Ab:Option Addr) (Ac Ae:Nat) (Aj:Option Addr) (Ak Al:Nat) (Am:Option Addr) (An Ao:Nat) (x1:Option Addr) {K:Value->WP} {w:World} (h:S172 Aa Ab Ac Ae Aj Ak Al Am An Ao x1 K w):Calls prog 172 #[(.agg #[(.int .u8 Aa),(.slice Ab Ac Ae),(.slice Aj Ak Al),(.slice Am An Ao)]),(.pointer x1)] w (Ret K):=cF an172 false Tryz.func172 h
def an173:Ann:=(AN AO)
def S173 (x0:Option Addr) (K:Value->WP):WP:=
 zh x0 fun(p1:Addr)=>
 ldW .slc (p1.add 3) fun(u2:SLC)=>
 ze prog 208 [(.slice u2.1 u2.2.1 u2.2.2)] (.one (.one .any)) fun(u3:Value)=>K u3
theorem zmU (x0:Option Addr) {K:Value->WP} {w:World} (h:S173 x0 K w):Calls prog 173 #[(.pointer x0)] w (Ret K):=cF an173 false Tryz.func173 h
def an174:Ann:=(AN (AN (AR (AN (AQ AO AP)) (AN (AN (AR (AN (AQ AO AP)) (AN (AR (AN (AQ AO AP)) (AN (AR (AN (AN (AQ AO AP))) AO))))))))))
def S174 (x0:ByteArray) (K:Value->WP):WP:=
 zi (.cells #[(.int .u8 (0:Int)),(.int .u64 (0:Int)),(.string ByteArray.empty)] 127) fun(r1:Nat)=>
 ze prog 121 [(.int .i64 ((x0.size:Nat):Int))] (.one (.one (.int .i64))) fun(u2:Int)=>
 za (u2==(0:Int)) (zk [(.int .u8),(.int .u64),.str] (aD r1) fun(u3:(Int×Int×ByteArray×Unit))=>
 zc ((#[(.int .u8 u3.1),(.int .u64 u3.2.1),(.string u3.2.2.1)]:Array Value).size=3)<|
 zu (aD r1) [(.int .u8 u3.1),(.int .u64 u3.2.1),(.string u3.2.2.1)]<|
 zk [(.int .u8),(.int .u64),.str] (aD r1) fun(u4:(Int×Int×ByteArray×Unit))=>K (.tuple #[(.agg #[(.int .u8 u4.1),(.int .u64 u4.2.1),(.string u4.2.2.1)]),(.int .i64 (2:Int))]))<|
 zy prog (Go.convert 9 85 (.string x0)) .slc fun(u5:SLC)=>
 zB<|
 zc (0<=(wrap .i64 (((u5.2.1:Nat):Int)-(4:Int)))/\(wrap .i64 (((u5.2.1:Nat):Int)-(4:Int)))<=((u5.2.2:Nat):Int))<|
 zc (0<=(wrap .i64 (((u5.2.1:Nat):Int)-(4:Int)))/\(wrap .i64 (((u5.2.1:Nat):Int)-(4:Int)))<=((u5.2.1:Nat):Int))<|
 ze prog 165 [(.slice (zo u5.1 0 u5.2.2 1) (Int.toNat (wrap .i64 (((u5.2.1:Nat):Int)-(4:Int)))) u5.2.2)] (.one (.one (.int .u32))) fun(u6:Int)=>
 ze prog 107 [(.slice (zo u5.1 (Int.toNat (wrap .i64 (((u5.2.1:Nat):Int)-(4:Int)))) u5.2.2 1) (u5.2.1-(Int.toNat (wrap .i64 (((u5.2.1:Nat):Int)-(4:Int))))) (u5.2.2-(Int.toNat (wrap .i64 (((u5.2.1:Nat):Int)-(4:Int))))))] (.one (.one (.int .u64))) fun(u7:Int)=>
 za ((wrap .u64 u6) !=u7) (zk [(.int .u8),(.int .u64),.str] (aD r1) fun(u8:(Int×Int×ByteArray×Unit))=>
 zc ((#[(.int .u8 u8.1),(.int .u64 u8.2.1),(.string u8.2.2.1)]:Array Value).size=3)<|
 zu (aD r1) [(.int .u8 u8.1),(.int .u64 u8.2.1),(.string u8.2.2.1)]<|
 zk [(.int .u8),(.int .u64),.str] (aD r1) fun(u9:(Int×Int×ByteArray×Unit))=>K (.tuple #[(.agg #[(.int .u8 u9.1),(.int .u64 u9.2.1),(.string u9.2.2.1)]),(.int .i64 (10:Int))]))<|
 zc (0<=(2:Int)/\(2:Int)<=(4:Int)/\(4:Int)<=((u5.2.2:Nat):Int))<|
 ze prog 107 [(.slice (zo u5.1 (Int.toNat (2:Int)) u5.2.2 1) ((Int.toNat (4:Int))-(Int.toNat (2:Int))) (u5.2.2-(Int.toNat (2:Int))))] (.one (.one (.int .u64))) fun(u10:Int)=>
 za (decide ((wrap .i64 u10)>u2)) (zk [(.int .u8),(.int .u64),.str] (aD r1) fun(u11:(Int×Int×ByteArray×Unit))=>
 zc ((#[(.int .u8 u11.1),(.int .u64 u11.2.1),(.string u11.2.2.1)]:Array Value).size=3)<|
 zu (aD r1) [(.int .u8 u11.1),(.int .u64 u11.2.1),(.string u11.2.2.1)]<|
 zk [(.int .u8),(.int .u64),.str] (aD r1) fun(u12:(Int×Int×ByteArray×Unit))=>K (.tuple #[(.agg #[(.int .u8 u12.1),(.int .u64 u12.2.1),(.string u12.2.2.1)]),(.int .i64 (4:Int))]))<|
 zB<|
 zc (0<=(0:Int)/\(0:Int)<((u5.2.1:Nat):Int))<|
 zh u5.1 fun(p13:Addr)=>
 ldW (.int .u8) (p13.add (Int.toNat (0:Int)*1)) fun(u14:Int)=>
 zc (0<=(4:Int)/\(4:Int)<=(12:Int)/\(12:Int)<=((u5.2.2:Nat):Int))<|
 zc (0<=(12:Int)/\(12:Int)<=(wrap .i64 ((12:Int)+(wrap .i64 u10)))/\(wrap .i64 ((12:Int)+(wrap .i64 u10)))<=((x0.size:Nat):Int))<|
 ze prog 107 [(.slice (zo u5.1 (Int.toNat (4:Int)) u5.2.2 1) ((Int.toNat (12:Int))-(Int.toNat (4:Int))) (u5.2.2-(Int.toNat (4:Int))))] (.one (.one (.int .u64))) fun(u15:Int)=>
 zt [[((p13.add (Int.toNat (0:Int)*1)),(.int .u8 u14))]]<|
 zc ((#[(.int .u8 u14),(.int .u64 u15),(.string (ByteArray.extract x0 (Int.toNat (12:Int)) (Int.toNat (wrap .i64 ((12:Int)+(wrap .i64 u10))))))]:Array Value).size=3)<|
 zu (aD r1) [(.int .u8 u14),(.int .u64 u15),(.string (ByteArray.extract x0 (Int.toNat (12:Int)) (Int.toNat (wrap .i64 ((12:Int)+(wrap .i64 u10))))))]<|
 zk [(.int .u8),(.int .u64),.str] (aD r1) fun(u16:(Int×Int×ByteArray×Unit))=>
 ze prog 123 [(.int .i64 ((x0.size:Nat):Int)),(.agg #[(.int .u8 u16.1),(.int .u64 u16.2.1),(.string u16.2.2.1)])] (.many [(.one .str),(.one (.int .i64))]) fun(u17:ByteArray×Int×Unit)=>
 za (u17.2.1 !=(0:Int)) (zc ((#[(.int .u8 (0:Int)),(.int .u64 (0:Int)),(.string ByteArray.empty)]:Array Value).size=3)<|
 zu (aD r1) [(.int .u8 (0:Int)),(.int .u64 (0:Int)),(.string ByteArray.empty)]<|
 zk [(.int .u8),(.int .u64),.str] (aD r1) fun(u18:(Int×Int×ByteArray×Unit))=>K (.tuple #[(.agg #[(.int .u8 u18.1),(.int .u64 u18.2.1),(.string u18.2.2.1)]),(.int .i64 (4:Int))]))<|
 za (!(u17.1.toList==x0.toList)) (zc ((#[(.int .u8 (0:Int)),(.int .u64 (0:Int)),(.string ByteArray.empty)]:Array Value).size=3)<|
 zu (aD r1) [(.int .u8 (0:Int)),(.int .u64 (0:Int)),(.string ByteArray.empty)]<|
 zk [(.int .u8),(.int .u64),.str] (aD r1) fun(u19:(Int×Int×ByteArray×Unit))=>K (.tuple #[(.agg #[(.int .u8 u19.1),(.int .u64 u19.2.1),(.string u19.2.2.1)]),(.int .i64 (4:Int))]))<|
 zk [(.int .u8),(.int .u64),.str] (aD r1) fun(u20:(Int×Int×ByteArray×Unit))=>
 zc ((#[(.int .u8 u20.1),(.int .u64 u20.2.1),(.string u20.2.2.1)]:Array Value).size=3)<|
 zu (aD r1) [(.int .u8 u20.1),(.int .u64 u20.2.1),(.string u20.2.2.1)]<|
 zk [(.int .u8),(.int .u64),.str] (aD r1) fun(u21:(Int×Int×ByteArray×Unit))=>K (.tuple #[(.agg #[(.int .u8 u21.1),(.int .u64 u21.2.1),(.string u21.2.2.1)]),(.int .i64 (0:Int))])
theorem zmV (x0:ByteArray) {K:Value->WP} {w:World} (h:S174 x0 K w):Calls prog 174 #[(.string x0)] w (Ret K):=cF an174 false Tryz.func174 h
def an175:Ann:=(AN AO)
def S175 (a0:Option Addr) (n0 c0:Nat) (K:Value->WP):WP:=
 ze prog 209 [(.slice a0 n0 c0)] (.one (.one .slc)) fun(u1:SLC)=>
 zi (.cells #[(.slice u1.1 u1.2.1 u1.2.2)] 298) fun(r2:Nat)=>K (.pointer (some (aD r2)))
theorem zmW (a0:Option Addr) (n0 c0:Nat) {K:Value->WP} {w:World} (h:S175 a0 n0 c0 K w):Calls prog 175 #[(.slice a0 n0 c0)] w (Ret K):=cF an175 false Tryz.func175 h
def an176:Ann:=(AN (AR (.block (AN (AQ AO (AN (AQ AO AP))))) (AN AO)))
def S176 (x0:Option Addr) (x1:Int) (K:Value->WP):WP:=
 za (Option.isNone x0) (K (.tuple #[(.int .u64 (0:Int)),(.int .i64 (1:Int))]))<|
 za (decide (x1<(1:Int))) (K (.tuple #[(.int .u64 (0:Int)),(.int .i64 (2:Int))]))<|
 za (decide (x1>(8:Int))) (K (.tuple #[(.int .u64 (0:Int)),(.int .i64 (2:Int))]))<|
 ze prog 210 [(.pointer x0),(.int .i64 x1)] (.many [(.one .slc),(.one (.int .i64))]) fun(u1:SLC×Int×Unit)=>
 ze prog 107 [(.slice u1.1.1 u1.1.2.1 u1.1.2.2)] (.one (.one (.int .u64))) fun(u2:Int)=>K (.tuple #[(.int .u64 u2),(.int .i64 u1.2.1)])
theorem zmX (x0:Option Addr) (x1:Int) {K:Value->WP} {w:World} (h:S176 x0 x1 K w):Calls prog 176 #[(.pointer x0),(.int .i64 x1)] w (Ret K):=cF an176 false Tryz.func176 h
def an177:Ann:=(AN (AR (.block (AN (AQ AO (AN (AQ AO AP))))) (AN AO)))
def S177 (x0:Option Addr) (x1:Int) (K:Value->WP):WP:=
 za (Option.isNone x0) (K (.tuple #[(.slice none 0 0),(.int .i64 (1:Int))]))<|
 za (decide (x1<(0:Int))) (K (.tuple #[(.slice none 0 0),(.int .i64 (2:Int))]))<|
 ze prog 210 [(.pointer x0),(.int .i64 x1)] (.many [(.one .slc),(.one (.int .i64))]) fun(u1:SLC×Int×Unit)=>
 ze prog 209 [(.slice u1.1.1 u1.1.2.1 u1.1.2.2)] (.one (.one .slc)) fun(u2:SLC)=>K (.tuple #[(.slice u2.1 u2.2.1 u2.2.2),(.int .i64 u1.2.1)])
theorem zmY (x0:Option Addr) (x1:Int) {K:Value->WP} {w:World} (h:S177 x0 x1 K w):Calls prog 177 #[(.pointer x0),(.int .i64 x1)] w (Ret K):=cF an177 false Tryz.func177 h
def an178:Ann:=(AN (AR (AN (AQ AO AP)) AO))
def S178 (x0:Option Addr) (K:Value->WP):WP:=
 za (Option.isNone x0) (K (.int .i64 (0:Int)))<|
 zh x0 fun(p1:Addr)=>
 ldW .slc p1 fun(u2:SLC)=>K (.int .i64 ((u2.2.1:Nat):Int))
theorem zmZ (x0:Option Addr) {K:Value->WP} {w:World} (h:S178 x0 K w):Calls prog 178 #[(.pointer x0)] w (Ret K):=cF an178 false Tryz.func178 h
def an179:Ann:=(AN (AR (AN (.block (.loop [(15,.sh (.one (.int .i64)))] [0,2,3,4,5,13,14,1000000] (AN (AR (AQ AP AP) (AR (.block (AN (AR (AN (AQ AP AP)) (AN (AR (AN (AQ (AN AO) AP)) (AR (AN (AQ AO AP)) (AR (AN (AQ AP AP)) (AN (AN (AQ AO AP)))))))))) AP)))))) AO))
def S179 (x0:Value) (a1:Option Addr) (n1 c1:Nat) (a2:Addr) (a3:Addr) (a4:Addr) (a5:Addr) (K:Value->WP):WP:=
 zz (Int×Unit) ((0:Int),()) fun(y2:Int×Unit) (I1:(Int×Unit)->WP)=>
 za (decide (y2.1<((n1:Nat):Int))) (zc (0<=y2.1/\y2.1<((n1:Nat):Int))<|
 zh a1 fun(p3:Addr)=>
 ldW (.int .u32) (p3.add (Int.toNat y2.1*1)) fun(u4:Int)=>
 za (u4==(0:Int)) (I1 ((wrap .i64 (y2.1+(1:Int))),()))<|
 ldW .ptr a2 fun(u5:Option Addr)=>
 ze prog 88 [(.pointer u5),(.int .u32 u4)] (.many [(.agg [(.int .u8),.slc,.str]),(.one (.int .i64))]) fun(u6:(Int×SLC×ByteArray×Unit)×Int×Unit)=>
 zi (.cells #[(.int .u8 (0:Int)),(.slice none 0 0),(.string ByteArray.empty)] 56) fun(r7:Nat)=>
 zc ((#[(.int .u8 u6.1.1),(.slice u6.1.2.1.1 u6.1.2.1.2.1 u6.1.2.1.2.2),(.string u6.1.2.2.1)]:Array Value).size=3)<|
 zu (aD r7) [(.int .u8 u6.1.1),(.slice u6.1.2.1.1 u6.1.2.1.2.1 u6.1.2.1.2.2),(.string u6.1.2.2.1)]<|
 za (u6.2.1 !=(0:Int)) (ldW .ptr a3 fun(u8:Option Addr)=>
 zh u8 fun(p9:Addr)=>
 stW p9 (.int .i64 u6.2.1)<|K (.bool false))<|
 yw prog x0 [(.int .u32 u4)] (.one (.one .bool)) fun(u10:Bool)=>
 za (!u10) (K (.bool false))<|
 ldW .slc a4 fun(u11:SLC)=>
 zc (0<=u4/\u4<((u11.2.1:Nat):Int))<|
 zh u11.1 fun(p12:Addr)=>
 ldW .bool (p12.add (Int.toNat u4*1)) fun(u13:Bool)=>
 za u13 (I1 ((wrap .i64 (y2.1+(1:Int))),()))<|
 ldW .slc a4 fun(u14:SLC)=>
 zc (0<=u4/\u4<((u14.2.1:Nat):Int))<|
 zh u14.1 fun(p15:Addr)=>
 stW (p15.add (Int.toNat u4*1)) (.bool true)<|
 ldW .any a5 fun(u16:Value)=>
 ldW .slc ((aD r7).add 1) fun(u17:SLC)=>
 yw prog u16 [x0,(.slice u17.1 u17.2.1 u17.2.2)] (.one (.one .bool)) fun(u18:Bool)=>
 za (!u18) (K (.bool false))<|I1 ((wrap .i64 (y2.1+(1:Int))),()))<|K (.bool true)
theorem zm0 (x0:Value) (a1:Option Addr) (n1 c1:Nat) (a2:Addr) (a3:Addr) (a4:Addr) (a5:Addr) {K:Value->WP} {w:World} (h:S179 x0 a1 n1 c1 a2 a3 a4 a5 K w):Calls prog 179 #[x0,(.slice a1 n1 c1),(.pointer (some a2)),(.pointer (some a3)),(.pointer (some a4)),(.pointer (some a5))] w (Ret K):=cF an179 false Tryz.func179 h
def an180:Ann:=AP
def S180 (x0:Value) (a1:Addr) (a2:Addr) (K:Value->WP):WP:=
 ldW .any a1 fun(u1:Value)=>
 ldW .slc a2 fun(u2:SLC)=>
 yw prog u1 [x0,(.slice u2.1 u2.2.1 u2.2.2)] (.one (.one .bool)) fun(u3:Bool)=>K (.tuple #[])
theorem zm1 (x0:Value) (a1:Addr) (a2:Addr) {K:Value->WP} {w:World} (h:S180 x0 a1 a2 K w):Calls prog 180 #[x0,(.pointer (some a1)),(.pointer (some a2))] w (Ret K):=cF an180 false Tryz.func180 h
def an181:Ann:=(AN (AR (AN (AQ AP AP)) AO))
def S181 (a0:Option Addr) (n0 c0:Nat) (x1:Int) (K:Value->WP):WP:=
 zi (.cells #[(.slice a0 n0 c0)] 191) fun(r1:Nat)=>
 zi (.cells #[(.int .i64 x1)] 3) fun(r2:Nat)=>
 ldW (.int .i64) (aD r2) fun(u3:Int)=>
 za (decide (u3<(1:Int))) (zn)<|K (.func (.func 211) #[] #[(.pointer (some (aD r1))),(.pointer (some (aD r2)))])
theorem zm2 (a0:Option Addr) (n0 c0:Nat) (x1:Int) {K:Value->WP} {w:World} (h:S181 a0 n0 c0 x1 K w):Calls prog 181 #[(.slice a0 n0 c0),(.int .i64 x1)] w (Ret K):=cF an181 false Tryz.func181 h
def an195:Ann:=(AN (AR (AN (.block (.loop [(8,.sh (.one (.int .i64)))] [0,1,7,1000000] (AN (AR (AQ AP AP) (AR (.block (AN (AN (AQ AO AP)))) AP)))))) AO))
def S195 (a0:Option Addr) (n0 c0:Nat) (x1:Value) (K:Value->WP):WP:=
 zz (Int×Unit) ((0:Int),()) fun(y2:Int×Unit) (I1:(Int×Unit)->WP)=>
 za (decide (y2.1<((n0:Nat):Int))) (zc (0<=y2.1/\y2.1<((n0:Nat):Int))<|
 zh a0 fun(p3:Addr)=>
 zk [.str,(.int .i64),.bool] (p3.add (Int.toNat y2.1*3)) fun(u4:(ByteArray×Int×Bool×Unit))=>
 yw prog x1 [(.agg #[(.string u4.1),(.int .i64 u4.2.1),(.bool u4.2.2.1)])] (.one (.one .bool)) fun(u5:Bool)=>
 za u5 (K (.int .i64 y2.1))<|I1 ((wrap .i64 (y2.1+(1:Int))),()))<|K (.int .i64 (-1:Int))
theorem zm3 (a0:Option Addr) (n0 c0:Nat) (x1:Value) {K:Value->WP} {w:World} (h:S195 a0 n0 c0 x1 K w):Calls prog 195 #[(.slice a0 n0 c0),x1] w (Ret K):=cF an195 false Tryz.func195 h
def an196:Ann:=(AN (.block (.loop [(3,.sh (.one (.int .i64)))] [0,1,1000000] (AR (AN (AQ AP AP)) (AR (.block (AN (AQ AP AP))) AP)))))
def S196 (x0:Value) (a1:Addr) (K:Value->WP):WP:=
 ldW .slc a1 fun(u1:SLC)=>
 zz (Int×Unit) ((wrap .i64 (((u1.2.1:Nat):Int)-(1:Int))),()) fun(y3:Int×Unit) (I2:(Int×Unit)->WP)=>
 za (decide (y3.1>=(0:Int))) (ldW .slc a1 fun(u4:SLC)=>
 zc (0<=y3.1/\y3.1<((u4.2.1:Nat):Int))<|
 zh u4.1 fun(p5:Addr)=>
 ldW (.int .u8) (p5.add (Int.toNat y3.1*1)) fun(u6:Int)=>
 yw prog x0 [(.int .i64 y3.1),(.int .u8 u6)] (.one (.one .bool)) fun(u7:Bool)=>
 za (!u7) (K (.tuple #[]))<|I2 ((wrap .i64 (y3.1-(1:Int))),()))<|K (.tuple #[])
theorem zm4 (x0:Value) (a1:Addr) {K:Value->WP} {w:World} (h:S196 x0 a1 K w):Calls prog 196 #[x0,(.pointer (some a1))] w (Ret K):=cF an196 false Tryz.func196 h
def an200:Ann:=(AN AO)
def S200 (x0:Array Value) (a1:Option Addr) (n1 c1:Nat) (K:Value->WP):WP:=
 zi (.cells x0 287) fun(r1:Nat)=>
 zdQ 256 (aD r1) fun(u2:Array Value)=>
 ze prog 216 [(.agg u2),(.int .u32 (4294967295:Int)),(.slice a1 n1 c1)] (.one (.one (.int .u32))) fun(u3:Int)=>K (.int .u32 (inot .u32 u3))
theorem zm5 (x0:Array Value) (a1:Option Addr) (n1 c1:Nat) {K:Value->WP} {w:World} (h:S200 x0 a1 n1 c1 K w):Calls prog 200 #[(.agg x0),(.slice a1 n1 c1)] w (Ret K):=cF an200 false Tryz.func200 h
def an201:Ann:=(AN (AR (AN (.block (.loop [(3,.sh (.one (.int .i64)))] [0,1000000] (AN (AR (AQ AP AP) (AR (.block (AN (AN (AR (AN (.block (.loop [(2,.sh (.one (.int .u32))),(8,.sh (.one (.int .i64)))] [0,1,3,1000000] (AN (AR (AQ AP AP) (AR (.block AP) AP)))))) AP)))) AP)))))) AO))
def S201  (K:Value->WP):WP:=
 zi (.cells (zbo prog 287) 287) fun(r1:Nat)=>
 zz (Int×Unit) ((0:Int),()) fun(y3:Int×Unit) (I2:(Int×Unit)->WP)=>
 za (decide (y3.1<(256:Int))) (zz (Int×Int×Unit) ((wrap .u32 y3.1),(0:Int),()) fun(y5:Int×Int×Unit) (I4:(Int×Int×Unit)->WP)=>
 za (decide (y5.2.1<(8:Int))) (I4 ((ixor .u32 (ishr .u32 y5.1 (1:Int)) (wrap .u32 ((2197175160:Int)*(iand .u32 y5.1 (1:Int))))),(wrap .i64 (y5.2.1+(1:Int))),()))<|
 zc (0<=y3.1/\y3.1<((256:Nat):Int))<|
 stW ((aD r1).add (Int.toNat y3.1*1)) (.int .u32 y5.1)<|I2 ((wrap .i64 (y3.1+(1:Int))),()))<|
 zdQ 256 (aD r1) fun(u6:Array Value)=>
 zc (u6.size=256)<|
 zu (aD r1) u6.toList<|
 zdQ 256 (aD r1) fun(u7:Array Value)=>K (.agg u7)
theorem zm6  {K:Value->WP} {w:World} (h:S201  K w):Calls prog 201 #[] w (Ret K):=cF an201 false Tryz.func201 h
def an202:Ann:=(AN (AN (AN (AN (.join [(5,.sh (.one .bool)),(6,.sh (.one (.int .i64))),(1000000,.ds)] [2] (AN (.block (AN (AQ (AN (AR (AN (.block (.loop [(28,.sh (.one .slc))] [] (AN (.block AO))))) AP)) (AN (AQ AO (AN (AQ AP AP)))))))) (AR (AN (.block (.loop [(5,.sh (.one .bool)),(8,.sh (.one (.int .i64)))] [2,6,1000000] (AR (AN (AQ AP AP)) (AR (.block AP) AP))))) (AR (AN (AQ AO AP)) AO)))))))
def S202 (Aa:Int) (Ab:Option Addr) (Ac Ae:Nat) (Aq:ByteArray) (K:Value->WP):WP:=
 zi (.cells #[(.int .u8 Aa),(.slice Ab Ac Ae),(.string Aq)] 56) fun(r1:Nat)=>
 zi (.cells #[(.int .u8 (0:Int)),(.slice none 0 0),(.slice none 0 0),(.slice none 0 0)] 215) fun(r2:Nat)=>
 ldW .str ((aD r1).add 2) fun(u3:ByteArray)=>
 ze prog 217 [(.string u3)] (.many [(.one .slc),(.one .bool)]) fun(u4:SLC×Bool×Unit)=>
 ldW (.int .u8) (aD r1) fun(u5:Int)=>
 ldW .slc ((aD r1).add 1) fun(u6:SLC)=>
 zc ((#[(.int .u8 u5),(.slice u4.1.1 u4.1.2.1 u4.1.2.2),(.slice none 0 0),(.slice u6.1 u6.2.1 u6.2.2)]:Array Value).size=4)<|
 zu (aD r2) [(.int .u8 u5),(.slice u4.1.1 u4.1.2.1 u4.1.2.2),(.slice none 0 0),(.slice u6.1 u6.2.1 u6.2.2)]<|
 yQ (Bool×Int×List Deferred×Unit) (fun(J7:(Bool×Int×List Deferred×Unit)->WP)=>
 ldW (.int .u8) (aD r1) fun(u9:Int)=>
 za (u9==(4:Int)) (stW ((aD r2).add 1) (.slice none 0 0)<|
 ze prog 218 [(.slice u4.1.1 u4.1.2.1 u4.1.2.2),(.int .i64 (2:Int))] (.one (.one .any)) fun(u10:Value)=>
 jc prog u10 (SLC×Unit) (fun(t11:SLC×Unit)=>[(.slice t11.1.1 t11.1.2.1 t11.1.2.2)]) (fun(t11:SLC×Unit) (B12:WP->WP) (N13:WP) (Q14:Code->WP)=>B12 (zB<|
 ldW .slc ((aD r2).add 1) fun(u17:SLC)=>
 zc (0<=(0:Int)/\(0:Int)<((t11.1.2.1:Nat):Int))<|
 zh t11.1.1 fun(p18:Addr)=>
 ldW (.int .u64) (p18.add (Int.toNat (0:Int)*1)) fun(u19:Int)=>
 zi (.cells #[(.int .u64 u19)] 42) fun(r20:Nat)=>
 zt [[(((aD r2).add 1),(.slice u17.1 u17.2.1 u17.2.2))]]<|
 zy prog (Builtin.append_ #[129,129] 129 #[(.slice u17.1 u17.2.1 u17.2.2),(.slice (some (aD r20)) 1 1)]) .slc fun(u21:SLC)=>
 stW ((aD r2).add 1) (.slice u21.1 u21.2.1 u21.2.2)<|
 zB<|
 ldW .slc ((aD r2).add 2) fun(u22:SLC)=>
 zc (0<=(wrap .i64 (((t11.1.2.1:Nat):Int)-(1:Int)))/\(wrap .i64 (((t11.1.2.1:Nat):Int)-(1:Int)))<((t11.1.2.1:Nat):Int))<|
 zh t11.1.1 fun(p23:Addr)=>
 ldW (.int .u64) (p23.add (Int.toNat (wrap .i64 (((t11.1.2.1:Nat):Int)-(1:Int)))*1)) fun(u24:Int)=>
 zi (.cells #[(.int .u64 u24)] 42) fun(r25:Nat)=>
 zt [[(((aD r2).add 2),(.slice u22.1 u22.2.1 u22.2.2))]]<|
 zy prog (Builtin.append_ #[129,129] 129 #[(.slice u22.1 u22.2.1 u22.2.2),(.slice (some (aD r25)) 1 1)]) .slc fun(u26:SLC)=>
 stW ((aD r2).add 2) (.slice u26.1 u26.2.1 u26.2.2)<|N13)) fun(r15:Nat) (p16:Option Code)=>
 qG (za u4.2.1 (za ((Int.tmod ((u4.1.2.1:Nat):Int) (2:Int))==(0:Int)) (ldW .slc ((aD r1).add 1) fun(u27:SLC)=>J7 ((((u27.2.1:Nat):Int)==(0:Int)),(1:Int),(⟨.collected r15,#[]⟩::[]),()))<|J7 (false,(1:Int),(⟨.collected r15,#[]⟩::[]),()))<|J7 (false,(1:Int),(⟨.collected r15,#[]⟩::[]),())) (zO prog (⟨.collected r15,#[]⟩::[])<|
 zk [(.int .u8),.slc,.slc,.slc] (aD r2) fun(u28:(Int×SLC×SLC×SLC×Unit))=>K (.tuple #[(.agg #[(.int .u8 u28.1),(.slice u28.2.1.1 u28.2.1.2.1 u28.2.1.2.2),(.slice u28.2.2.1.1 u28.2.2.1.2.1 u28.2.2.1.2.2),(.slice u28.2.2.2.1.1 u28.2.2.2.1.2.1 u28.2.2.2.1.2.2)]),(.int .i64 (0:Int))])) [] p16)<|
 za (u9==(3:Int)) (za u4.2.1 (ldW .slc ((aD r1).add 1) fun(u29:SLC)=>J7 ((((u4.1.2.1:Nat):Int)==((u29.2.1:Nat):Int)),(2:Int),[],()))<|J7 (false,(2:Int),[],()))<|
 za (u9==(5:Int)) (za u4.2.1 (ldW .slc ((aD r1).add 1) fun(u30:SLC)=>J7 ((((u4.1.2.1:Nat):Int)==((u30.2.1:Nat):Int)),(1:Int),[],()))<|J7 (false,(1:Int),[],()))<|J7 (false,(1:Int),[],())) fun(y8:Bool×Int×List Deferred×Unit)=>
 zz (Bool×Int×Unit) (y8.1,(1:Int),()) fun(y32:Bool×Int×Unit) (I31:(Bool×Int×Unit)->WP)=>
 ldW .slc ((aD r2).add 1) fun(u33:SLC)=>
 za (decide (y32.2.1<((u33.2.1:Nat):Int))) (zB<|
 za y32.1 (ldW .slc ((aD r2).add 1) fun(u34:SLC)=>
 zc (0<=(wrap .i64 (y32.2.1-(1:Int)))/\(wrap .i64 (y32.2.1-(1:Int)))<((u34.2.1:Nat):Int))<|
 zh u34.1 fun(p35:Addr)=>
 ldW (.int .u64) (p35.add (Int.toNat (wrap .i64 (y32.2.1-(1:Int)))*1)) fun(u36:Int)=>
 ldW .slc ((aD r2).add 1) fun(u37:SLC)=>
 zc (0<=y32.2.1/\y32.2.1<((u37.2.1:Nat):Int))<|
 zh u37.1 fun(p38:Addr)=>
 ldW (.int .u64) (p38.add (Int.toNat y32.2.1*1)) fun(u39:Int)=>I31 ((decide (u36<u39)),(wrap .i64 (y32.2.1+(1:Int))),()))<|I31 (false,(wrap .i64 (y32.2.1+(1:Int))),()))<|
 za (!y32.1) (zc ((#[(.int .u8 (0:Int)),(.slice none 0 0),(.slice none 0 0),(.slice none 0 0)]:Array Value).size=4)<|
 zu (aD r2) [(.int .u8 (0:Int)),(.slice none 0 0),(.slice none 0 0),(.slice none 0 0)]<|
 zO prog y8.2.2.1<|
 zk [(.int .u8),.slc,.slc,.slc] (aD r2) fun(u40:(Int×SLC×SLC×SLC×Unit))=>K (.tuple #[(.agg #[(.int .u8 u40.1),(.slice u40.2.1.1 u40.2.1.2.1 u40.2.1.2.2),(.slice u40.2.2.1.1 u40.2.2.1.2.1 u40.2.2.1.2.2),(.slice u40.2.2.2.1.1 u40.2.2.2.1.2.1 u40.2.2.2.1.2.2)]),(.int .i64 (10:Int))]))<|
 ldW .slc ((aD r2).add 1) fun(u41:SLC)=>
 za (decide (((u41.2.1:Nat):Int)<y8.2.1)) (zc ((#[(.int .u8 (0:Int)),(.slice none 0 0),(.slice none 0 0),(.slice none 0 0)]:Array Value).size=4)<|
 zu (aD r2) [(.int .u8 (0:Int)),(.slice none 0 0),(.slice none 0 0),(.slice none 0 0)]<|
 zO prog y8.2.2.1<|
 zk [(.int .u8),.slc,.slc,.slc] (aD r2) fun(u42:(Int×SLC×SLC×SLC×Unit))=>K (.tuple #[(.agg #[(.int .u8 u42.1),(.slice u42.2.1.1 u42.2.1.2.1 u42.2.1.2.2),(.slice u42.2.2.1.1 u42.2.2.1.2.1 u42.2.2.1.2.2),(.slice u42.2.2.2.1.1 u42.2.2.2.1.2.1 u42.2.2.2.1.2.2)]),(.int .i64 (10:Int))]))<|
 zk [(.int .u8),.slc,.slc,.slc] (aD r2) fun(u43:(Int×SLC×SLC×SLC×Unit))=>
 zc ((#[(.int .u8 u43.1),(.slice u43.2.1.1 u43.2.1.2.1 u43.2.1.2.2),(.slice u43.2.2.1.1 u43.2.2.1.2.1 u43.2.2.1.2.2),(.slice u43.2.2.2.1.1 u43.2.2.2.1.2.1 u43.2.2.2.1.2.2)]:Array Value).size=4)<|
 zu (aD r2) [(.int .u8 u43.1),(.slice u43.2.1.1 u43.2.1.2.1 u43.2.1.2.2),(.slice u43.2.2.1.1 u43.2.2.1.2.1 u43.2.2.1.2.2),(.slice u43.2.2.2.1.1 u43.2.2.2.1.2.1 u43.2.2.2.1.2.2)]<|
 zO prog y8.2.2.1<|
 zk [(.int .u8),.slc,.slc,.slc] (aD r2) fun(u44:(Int×SLC×SLC×SLC×Unit))=>K (.tuple #[(.agg #[(.int .u8 u44.1),(.slice u44.2.1.1 u44.2.1.2.1 u44.2.1.2.2),(.slice u44.2.2.1.1 u44.2.2.1.2.1 u44.2.2.1.2.2),(.slice u44.2.2.2.1.1 u44.2.2.2.1.2.1 u44.2.2.2.1.2.2)]),(.int .i64 (0:Int))])
theorem zm7 (Aa:Int) (Ab:Option Addr) (Ac Ae:Nat) (Aq:ByteArray) {K:Value->WP} {w:World} (h:S202 Aa Ab Ac Ae Aq K w):Calls prog 202 #[(.agg #[(.int .u8 Aa),(.slice Ab Ac Ae),(.string Aq)])] w (Ret K):=cF an202 true Tryz.func202 h
def an203:Ann:=(AN AO)
def S203 (Aa:Int) (Ab:Option Addr) (Ac Ae:Nat) (Aj:Option Addr) (Ak Al:Nat) (Am:Option Addr) (An Ao:Nat) (K:Value->WP):WP:=
 zi (.cells #[(.int .u8 Aa),(.slice Ab Ac Ae),(.slice Aj Ak Al),(.slice Am An Ao)] 215) fun(r1:Nat)=>
 ldW (.int .u8) (aD r1) fun(u2:Int)=>K (.bool (u2 !=(4:Int)))
theorem zm8 (Aa:Int) (Ab:Option Addr) (Ac Ae:Nat) (Aj:Option Addr) (Ak Al:Nat) (Am:Option Addr) (An Ao:Nat) {K:Value->WP} {w:World} (h:S203 Aa Ab Ac Ae Aj Ak Al Am An Ao K w):Calls prog 203 #[(.agg #[(.int .u8 Aa),(.slice Ab Ac Ae),(.slice Aj Ak Al),(.slice Am An Ao)])] w (Ret K):=cF an203 false Tryz.func203 h
def an205:Ann:=(AN (AR (AN (AQ AO AP)) AO))
def S205 (x0:Option Addr) (x1:Int) (K:Value->WP):WP:=
 za (x1==(4:Int)) (ze prog 76 [(.pointer x0),(.int .i64 (0:Int))] (.one (.one (.int .i64))) fun(u1:Int)=>K (.int .i64 (wrap .i64 (Int.tdiv u1 (16:Int)))))<|
 ze prog 76 [(.pointer x0),(.int .i64 (0:Int))] (.one (.one (.int .i64))) fun(u2:Int)=>K (.int .i64 (wrap .i64 (Int.tdiv u2 (12:Int))))
theorem zm9 (x0:Option Addr) (x1:Int) {K:Value->WP} {w:World} (h:S205 x0 x1 K w):Calls prog 205 #[(.pointer x0),(.int .u8 x1)] w (Ret K):=cF an205 false Tryz.func205 h
def an206:Ann:=(AN (AN (AR (AN (AQ AP AP)) AO)))
def S206 (Aa:Int) (Ab:Option Addr) (Ac Ae:Nat) (Aj:Option Addr) (Ak Al:Nat) (Am:Option Addr) (An Ao:Nat) (x1:Int) (x2:Int) (K:Value->WP):WP:=
 zi (.cells #[(.int .u8 Aa),(.slice Ab Ac Ae),(.slice Aj Ak Al),(.slice Am An Ao)] 215) fun(r1:Nat)=>
 zi (.cells #[(.int .u8 (0:Int)),(.slice none 0 0),(.slice none 0 0),(.slice none 0 0)] 215) fun(r2:Nat)=>
 zB<|
 ldW (.int .u8) (aD r1) fun(u3:Int)=>
 ldW .slc ((aD r1).add 1) fun(u4:SLC)=>
 zc (0<=x1/\x1<=x2/\x2<=((u4.2.2:Nat):Int))<|
 zi (.cells #[(.int .u8 (0:Int)),(.slice none 0 0),(.slice none 0 0),(.slice none 0 0)] 215) fun(r5:Nat)=>
 zt [[(((aD r1).add 1),(.slice u4.1 u4.2.1 u4.2.2))],[((aD r1),(.int .u8 u3))]]<|
 zc ((#[(.int .u8 u3),(.slice (zo u4.1 (Int.toNat x1) u4.2.2 1) ((Int.toNat x2)-(Int.toNat x1)) (u4.2.2-(Int.toNat x1))),(.slice none 0 0),(.slice none 0 0)]:Array Value).size=4)<|
 zu (aD r5) [(.int .u8 u3),(.slice (zo u4.1 (Int.toNat x1) u4.2.2 1) ((Int.toNat x2)-(Int.toNat x1)) (u4.2.2-(Int.toNat x1))),(.slice none 0 0),(.slice none 0 0)]<|
 zk [(.int .u8),.slc,.slc,.slc] (aD r1) fun(u6:(Int×SLC×SLC×SLC×Unit))=>
 ze prog 203 [(.agg #[(.int .u8 u6.1),(.slice u6.2.1.1 u6.2.1.2.1 u6.2.1.2.2),(.slice u6.2.2.1.1 u6.2.2.1.2.1 u6.2.2.1.2.2),(.slice u6.2.2.2.1.1 u6.2.2.2.1.2.1 u6.2.2.2.1.2.2)])] (.one (.one .bool)) fun(u7:Bool)=>
 za u7 (ldW .slc ((aD r1).add 3) fun(u8:SLC)=>
 zc (0<=x1/\x1<=x2/\x2<=((u8.2.2:Nat):Int))<|
 stW ((aD r5).add 3) (.slice (zo u8.1 (Int.toNat x1) u8.2.2 1) ((Int.toNat x2)-(Int.toNat x1)) (u8.2.2-(Int.toNat x1)))<|
 zk [(.int .u8),.slc,.slc,.slc] (aD r5) fun(u9:(Int×SLC×SLC×SLC×Unit))=>
 zc ((#[(.int .u8 u9.1),(.slice u9.2.1.1 u9.2.1.2.1 u9.2.1.2.2),(.slice u9.2.2.1.1 u9.2.2.1.2.1 u9.2.2.1.2.2),(.slice u9.2.2.2.1.1 u9.2.2.2.1.2.1 u9.2.2.2.1.2.2)]:Array Value).size=4)<|
 zu (aD r2) [(.int .u8 u9.1),(.slice u9.2.1.1 u9.2.1.2.1 u9.2.1.2.2),(.slice u9.2.2.1.1 u9.2.2.1.2.1 u9.2.2.1.2.2),(.slice u9.2.2.2.1.1 u9.2.2.2.1.2.1 u9.2.2.2.1.2.2)]<|
 zk [(.int .u8),.slc,.slc,.slc] (aD r2) fun(u10:(Int×SLC×SLC×SLC×Unit))=>K (.agg #[(.int .u8 u10.1),(.slice u10.2.1.1 u10.2.1.2.1 u10.2.1.2.2),(.slice u10.2.2.1.1 u10.2.2.1.2.1 u10.2.2.1.2.2),(.slice u10.2.2.2.1.1 u10.2.2.2.1.2.1 u10.2.2.2.1.2.2)]))<|
 ldW .slc ((aD r1).add 2) fun(u11:SLC)=>
 zc (0<=x1/\x1<=x2/\x2<=((u11.2.2:Nat):Int))<|
 stW ((aD r5).add 2) (.slice (zo u11.1 (Int.toNat x1) u11.2.2 1) ((Int.toNat x2)-(Int.toNat x1)) (u11.2.2-(Int.toNat x1)))<|
 zk [(.int .u8),.slc,.slc,.slc] (aD r5) fun(u12:(Int×SLC×SLC×SLC×Unit))=>
 zc ((#[(.int .u8 u12.1),(.slice u12.2.1.1 u12.2.1.2.1 u12.2.1.2.2),(.slice u12.2.2.1.1 u12.2.2.1.2.1 u12.2.2.1.2.2),(.slice u12.2.2.2.1.1 u12.2.2.2.1.2.1 u12.2.2.2.1.2.2)]:Array Value).size=4)<|
 zu (aD r2) [(.int .u8 u12.1),(.slice u12.2.1.1 u12.2.1.2.1 u12.2.1.2.2),(.slice u12.2.2.1.1 u12.2.2.1.2.1 u12.2.2.1.2.2),(.slice u12.2.2.2.1.1 u12.2.2.2.1.2.1 u12.2.2.2.1.2.2)]<|
 zk [(.int .u8),.slc,.slc,.slc] (aD r2) fun(u13:(Int×SLC×SLC×SLC×Unit))=>K (.agg #[(.int .u8 u13.1),(.slice u13.2.1.1 u13.2.1.2.1 u13.2.1.2.2),(.slice u13.2.2.1.1 u13.2.2.1.2.1 u13.2.2.1.2.2),(.slice u13.2.2.2.1.1 u13.2.2.2.1.2.1 u13.2.2.2.1.2.2)])
theorem zna (Aa:Int) (Ab:Option Addr) (Ac Ae:Nat) (Aj:Option Addr) (Ak Al:Nat) (Am:Option Addr) (An Ao:Nat) (x1:Int) (x2:Int) {K:Value->WP} {w:World} (h:S206 Aa Ab Ac Ae Aj Ak Al Am An Ao x1 x2 K w):Calls prog 206 #[(.agg #[(.int .u8 Aa),(.slice Ab Ac Ae),(.slice Aj Ak Al),(.slice Am An Ao)]),(.int .i64 x1),(.int .i64 x2)] w (Ret K):=cF an206 false Tryz.func206 h
def an207:Ann:=(AN (AN (AR (AN (.block (.loop [(6,.sh (.one .slc)),(12,.sh (.one (.int .i64)))] [1,2,10,11,1000000] (AN (AR (AQ AP AP) (AR (.block (AN (AN (AN (AQ AP AP))))) AP)))))) AO)))
def S207 (Aa:Int) (Ab:Option Addr) (Ac Ae:Nat) (Aj:Option Addr) (Ak Al:Nat) (Am:Option Addr) (An Ao:Nat) (x1:Option Addr) (K:Value->WP):WP:=
 zi (.cells #[(.int .u8 Aa),(.slice Ab Ac Ae),(.slice Aj Ak Al),(.slice Am An Ao)] 215) fun(r1:Nat)=>
 ldW .slc ((aD r1).add 1) fun(u2:SLC)=>
 zz (SLC×Int×Unit) ((none,0,0),(0:Int),()) fun(y4:SLC×Int×Unit) (I3:(SLC×Int×Unit)->WP)=>
 za (decide (y4.2.1<((u2.2.1:Nat):Int))) (zc (0<=y4.2.1/\y4.2.1<((u2.2.1:Nat):Int))<|
 zh u2.1 fun(p5:Addr)=>
 ldW (.int .u64) (p5.add (Int.toNat y4.2.1*1)) fun(u6:Int)=>
 ze prog 42 [(.slice y4.1.1 y4.1.2.1 y4.1.2.2),(.int .u64 u6),(.int .i64 (8:Int))] (.one (.one .slc)) fun(u7:SLC)=>
 zk [(.int .u8),.slc,.slc,.slc] (aD r1) fun(u8:(Int×SLC×SLC×SLC×Unit))=>
 ze prog 203 [(.agg #[(.int .u8 u8.1),(.slice u8.2.1.1 u8.2.1.2.1 u8.2.1.2.2),(.slice u8.2.2.1.1 u8.2.2.1.2.1 u8.2.2.1.2.2),(.slice u8.2.2.2.1.1 u8.2.2.2.1.2.1 u8.2.2.2.1.2.2)])] (.one (.one .bool)) fun(u9:Bool)=>
 za (!u9) (ldW .slc ((aD r1).add 2) fun(u10:SLC)=>
 zc (0<=y4.2.1/\y4.2.1<((u10.2.1:Nat):Int))<|
 zh u10.1 fun(p11:Addr)=>
 ldW (.int .u64) (p11.add (Int.toNat y4.2.1*1)) fun(u12:Int)=>
 ze prog 42 [(.slice u7.1 u7.2.1 u7.2.2),(.int .u64 u12),(.int .i64 (8:Int))] (.one (.one .slc)) fun(u13:SLC)=>I3 ((u13.1,u13.2.1,u13.2.2),(wrap .i64 (y4.2.1+(1:Int))),()))<|I3 ((u7.1,u7.2.1,u7.2.2),(wrap .i64 (y4.2.1+(1:Int))),()))<|
 ldW (.int .u8) (aD r1) fun(u14:Int)=>
 ldW .slc ((aD r1).add 3) fun(u15:SLC)=>
 zy prog (Go.convert 85 9 (.slice y4.1.1 y4.1.2.1 y4.1.2.2)) .str fun(u16:ByteArray)=>
 ze prog 24 [(.pointer x1),(.agg #[(.int .u8 u14),(.slice u15.1 u15.2.1 u15.2.2),(.string u16)])] (.many [(.one (.int .u32)),(.one (.int .i64))]) fun(u17:Int×Int×Unit)=>K (.tuple #[(.int .u32 u17.1),(.int .i64 u17.2.1)])
theorem znb (Aa:Int) (Ab:Option Addr) (Ac Ae:Nat) (Aj:Option Addr) (Ak Al:Nat) (Am:Option Addr) (An Ao:Nat) (x1:Option Addr) {K:Value->WP} {w:World} (h:S207 Aa Ab Ac Ae Aj Ak Al Am An Ao x1 K w):Calls prog 207 #[(.agg #[(.int .u8 Aa),(.slice Ab Ac Ae),(.slice Aj Ak Al),(.slice Am An Ao)]),(.pointer x1)] w (Ret K):=cF an207 false Tryz.func207 h
def an208:Ann:=(AN AO)
def S208 (a0:Option Addr) (n0 c0:Nat) (K:Value->WP):WP:=
 zi (.cells #[(.slice a0 n0 c0)] 159) fun(r1:Nat)=>K (.func (.func 219) #[] #[(.pointer (some (aD r1)))])
theorem znc (a0:Option Addr) (n0 c0:Nat) {K:Value->WP} {w:World} (h:S208 a0 n0 c0 K w):Calls prog 208 #[(.slice a0 n0 c0)] w (Ret K):=cF an208 false Tryz.func208 h
def an209:Ann:=(AN (AR (AN (AQ AO AP)) AO))
def S209 (a0:Option Addr) (n0 c0:Nat) (K:Value->WP):WP:=
 za (Option.isNone a0) (K (.slice none 0 0))<|
 zi (.cells #[] 5) fun(r1:Nat)=>
 zy prog (Builtin.append_ #[85,85] 85 #[(.slice (some (aD r1)) 0 0),(.slice a0 n0 c0)]) .slc fun(u2:SLC)=>K (.slice u2.1 u2.2.1 u2.2.2)
theorem znd (a0:Option Addr) (n0 c0:Nat) {K:Value->WP} {w:World} (h:S209 a0 n0 c0 K w):Calls prog 209 #[(.slice a0 n0 c0)] w (Ret K):=cF an209 false Tryz.func209 h
def an210:Ann:=(AN (AR (AN (AQ AO AP)) (AN (AN AO))))
def S210 (x0:Option Addr) (x1:Int) (K:Value->WP):WP:=
 zh x0 fun(p1:Addr)=>
 ldW .slc p1 fun(u2:SLC)=>
 za (decide (((u2.2.1:Nat):Int)<x1)) (K (.tuple #[(.slice none 0 0),(.int .i64 (7:Int))]))<|
 zh x0 fun(p3:Addr)=>
 ldW .slc p3 fun(u4:SLC)=>
 zc (0<=x1/\x1<=x1/\x1<=((u4.2.2:Nat):Int))<|
 zh x0 fun(p5:Addr)=>
 ldW .slc p5 fun(u6:SLC)=>
 zc (0<=x1/\x1<=((u6.2.1:Nat):Int))<|
 zh x0 fun(p7:Addr)=>
 stW p7 (.slice (zo u6.1 (Int.toNat x1) u6.2.2 1) (u6.2.1-(Int.toNat x1)) (u6.2.2-(Int.toNat x1)))<|K (.tuple #[(.slice (zo u4.1 0 (Int.toNat x1) 1) (Int.toNat x1) (Int.toNat x1)),(.int .i64 (0:Int))])
theorem zne (x0:Option Addr) (x1:Int) {K:Value->WP} {w:World} (h:S210 x0 x1 K w):Calls prog 210 #[(.pointer x0),(.int .i64 x1)] w (Ret K):=cF an210 false Tryz.func210 h
def an211:Ann:=(AN (.block (.loop [(4,.sh (.one (.int .i64)))] [0,1,2,1000000] (AR (AN (AQ AP AP)) (AR (.block (AN (AN (AQ AP AP)))) AP)))))
def S211 (x0:Value) (a1:Addr) (a2:Addr) (K:Value->WP):WP:=
 zz (Int×Unit) ((0:Int),()) fun(y2:Int×Unit) (I1:(Int×Unit)->WP)=>
 ldW .slc a1 fun(u3:SLC)=>
 za (decide (y2.1<((u3.2.1:Nat):Int))) (zB<|
 ldW (.int .i64) a2 fun(u4:Int)=>
 ldW .slc a1 fun(u5:SLC)=>
 zc (0<=y2.1/\y2.1<=((u5.2.1:Nat):Int))<|
 ldW .slc a1 fun(u6:SLC)=>
 zc (0<=y2.1/\y2.1<=(wrap .i64 (y2.1+(if (((u5.2.1-(Int.toNat y2.1)):Nat):Int)<u4 then (((u5.2.1-(Int.toNat y2.1)):Nat):Int) else u4)))/\(wrap .i64 (y2.1+(if (((u5.2.1-(Int.toNat y2.1)):Nat):Int)<u4 then (((u5.2.1-(Int.toNat y2.1)):Nat):Int) else u4)))<=(wrap .i64 (y2.1+(if (((u5.2.1-(Int.toNat y2.1)):Nat):Int)<u4 then (((u5.2.1-(Int.toNat y2.1)):Nat):Int) else u4)))/\(wrap .i64 (y2.1+(if (((u5.2.1-(Int.toNat y2.1)):Nat):Int)<u4 then (((u5.2.1-(Int.toNat y2.1)):Nat):Int) else u4)))<=((u6.2.2:Nat):Int))<|
 yw prog x0 [(.slice (zo u6.1 (Int.toNat y2.1) (Int.toNat (wrap .i64 (y2.1+(if (((u5.2.1-(Int.toNat y2.1)):Nat):Int)<u4 then (((u5.2.1-(Int.toNat y2.1)):Nat):Int) else u4)))) 1) ((Int.toNat (wrap .i64 (y2.1+(if (((u5.2.1-(Int.toNat y2.1)):Nat):Int)<u4 then (((u5.2.1-(Int.toNat y2.1)):Nat):Int) else u4))))-(Int.toNat y2.1)) ((Int.toNat (wrap .i64 (y2.1+(if (((u5.2.1-(Int.toNat y2.1)):Nat):Int)<u4 then (((u5.2.1-(Int.toNat y2.1)):Nat):Int) else u4))))-(Int.toNat y2.1)))] (.one (.one .bool)) fun(u7:Bool)=>
 za (!u7) (K (.tuple #[]))<|
 ldW (.int .i64) a2 fun(u8:Int)=>I1 ((wrap .i64 (y2.1+u8)),()))<|K (.tuple #[])
theorem znf (x0:Value) (a1:Addr) (a2:Addr) {K:Value->WP} {w:World} (h:S211 x0 a1 a2 K w):Calls prog 211 #[x0,(.pointer (some a1)),(.pointer (some a2))] w (Ret K):=cF an211 false Tryz.func211 h
def an216:Ann:=(AN (AR (AN (.block (.loop [(1,.sh (.one (.int .u32))),(11,.sh (.one (.int .i64)))] [3,9,10,1000000] (AN (AR (AQ AP AP) (AR (.block AO) AP)))))) AO))
def S216 (x0:Array Value) (x1:Int) (a2:Option Addr) (n2 c2:Nat) (K:Value->WP):WP:=
 zi (.cells x0 287) fun(r1:Nat)=>
 zz (Int×Int×Unit) (x1,(0:Int),()) fun(y3:Int×Int×Unit) (I2:(Int×Int×Unit)->WP)=>
 za (decide (y3.2.1<((n2:Nat):Int))) (zc (0<=y3.2.1/\y3.2.1<((n2:Nat):Int))<|
 zh a2 fun(p4:Addr)=>
 ldW (.int .u8) (p4.add (Int.toNat y3.2.1*1)) fun(u5:Int)=>
 zc (0<=(ixor .u8 (wrap .u8 y3.1) u5)/\(ixor .u8 (wrap .u8 y3.1) u5)<((256:Nat):Int))<|
 ldW (.int .u32) ((aD r1).add (Int.toNat (ixor .u8 (wrap .u8 y3.1) u5)*1)) fun(u6:Int)=>I2 ((ixor .u32 (ishr .u32 y3.1 (8:Int)) u6),(wrap .i64 (y3.2.1+(1:Int))),()))<|K (.int .u32 y3.1)
theorem zng (x0:Array Value) (x1:Int) (a2:Option Addr) (n2 c2:Nat) {K:Value->WP} {w:World} (h:S216 x0 x1 a2 n2 c2 K w):Calls prog 216 #[(.agg x0),(.int .u32 x1),(.slice a2 n2 c2)] w (Ret K):=cF an216 false Tryz.func216 h
def an217:Ann:=(AN (AR (AN (.block (.loop [(8,.sh (.one .slc))] [] (AN (.block AP))))) AO))
def S217 (x0:ByteArray) (K:Value->WP):WP:=
 zi (.cells #[(.slice none 0 0)] 129) fun(r1:Nat)=>
 zy prog (Go.convert 9 85 (.string x0)) .slc fun(u2:SLC)=>
 ze prog 222 [(.slice u2.1 u2.2.1 u2.2.2),(.int .i64 (8:Int))] (.one (.one .any)) fun(u3:Value)=>
 jc prog u3 (SLC×Unit) (fun(t4:SLC×Unit)=>[(.slice t4.1.1 t4.1.2.1 t4.1.2.2)]) (fun(t4:SLC×Unit) (B5:WP->WP) (N6:WP) (Q7:Code->WP)=>B5 (zB<|
 ldW .slc (aD r1) fun(u10:SLC)=>
 ze prog 107 [(.slice t4.1.1 t4.1.2.1 t4.1.2.2)] (.one (.one (.int .u64))) fun(u11:Int)=>
 zt [[((aD r1),(.slice u10.1 u10.2.1 u10.2.2))]]<|
 zi (.cells #[(.int .u64 u11)] 42) fun(r12:Nat)=>
 zt [[((aD r1),(.slice u10.1 u10.2.1 u10.2.2))]]<|
 zy prog (Builtin.append_ #[129,129] 129 #[(.slice u10.1 u10.2.1 u10.2.2),(.slice (some (aD r12)) 1 1)]) .slc fun(u13:SLC)=>
 stW (aD r1) (.slice u13.1 u13.2.1 u13.2.2)<|N6)) fun(r8:Nat) (p9:Option Code)=>
 qG (ldW .slc (aD r1) fun(u14:SLC)=>
 stW (aD r1) (.slice u14.1 u14.2.1 u14.2.2)<|
 zO prog (⟨.collected r8,#[]⟩::[])<|
 ldW .slc (aD r1) fun(u15:SLC)=>K (.tuple #[(.slice u15.1 u15.2.1 u15.2.2),(.bool ((Int.tmod ((x0.size:Nat):Int) (8:Int))==(0:Int)))])) (zO prog (⟨.collected r8,#[]⟩::[])<|
 ldW .slc (aD r1) fun(u16:SLC)=>K (.tuple #[(.slice u16.1 u16.2.1 u16.2.2),(.bool false)])) [] p9
theorem znh (x0:ByteArray) {K:Value->WP} {w:World} (h:S217 x0 K w):Calls prog 217 #[(.string x0)] w (Ret K):=cF an217 true Tryz.func217 h
def an218:Ann:=(AN (AR (AN (AQ AP AP)) AO))
def S218 (a0:Option Addr) (n0 c0:Nat) (x1:Int) (K:Value->WP):WP:=
 zi (.cells #[(.slice a0 n0 c0)] 129) fun(r1:Nat)=>
 zi (.cells #[(.int .i64 x1)] 3) fun(r2:Nat)=>
 ldW (.int .i64) (aD r2) fun(u3:Int)=>
 za (decide (u3<(1:Int))) (zn)<|K (.func (.func 223) #[] #[(.pointer (some (aD r1))),(.pointer (some (aD r2)))])
theorem zni (a0:Option Addr) (n0 c0:Nat) (x1:Int) {K:Value->WP} {w:World} (h:S218 a0 n0 c0 x1 K w):Calls prog 218 #[(.slice a0 n0 c0),(.int .i64 x1)] w (Ret K):=cF an218 false Tryz.func218 h
def an219:Ann:=(AN (.block (.loop [(3,.sh (.one (.int .i64)))] [0,1,1000000] (AR (AN (AQ AP AP)) (AR (.block (AN (AQ AP AP))) AP)))))
def S219 (x0:Value) (a1:Addr) (K:Value->WP):WP:=
 ldW .slc a1 fun(u1:SLC)=>
 zz (Int×Unit) ((wrap .i64 (((u1.2.1:Nat):Int)-(1:Int))),()) fun(y3:Int×Unit) (I2:(Int×Unit)->WP)=>
 za (decide (y3.1>=(0:Int))) (ldW .slc a1 fun(u4:SLC)=>
 zc (0<=y3.1/\y3.1<((u4.2.1:Nat):Int))<|
 zh u4.1 fun(p5:Addr)=>
 zk [(.int .i64),.str] (p5.add (Int.toNat y3.1*2)) fun(u6:(Int×ByteArray×Unit))=>
 yw prog x0 [(.int .i64 y3.1),(.agg #[(.int .i64 u6.1),(.string u6.2.1)])] (.one (.one .bool)) fun(u7:Bool)=>
 za (!u7) (K (.tuple #[]))<|I2 ((wrap .i64 (y3.1-(1:Int))),()))<|K (.tuple #[])
theorem znj (x0:Value) (a1:Addr) {K:Value->WP} {w:World} (h:S219 x0 a1 K w):Calls prog 219 #[x0,(.pointer (some a1))] w (Ret K):=cF an219 false Tryz.func219 h
def an222:Ann:=(AN (AR (AN (AQ AP AP)) AO))
def S222 (a0:Option Addr) (n0 c0:Nat) (x1:Int) (K:Value->WP):WP:=
 zi (.cells #[(.slice a0 n0 c0)] 85) fun(r1:Nat)=>
 zi (.cells #[(.int .i64 x1)] 3) fun(r2:Nat)=>
 ldW (.int .i64) (aD r2) fun(u3:Int)=>
 za (decide (u3<(1:Int))) (zn)<|K (.func (.func 224) #[] #[(.pointer (some (aD r1))),(.pointer (some (aD r2)))])
theorem znk (a0:Option Addr) (n0 c0:Nat) (x1:Int) {K:Value->WP} {w:World} (h:S222 a0 n0 c0 x1 K w):Calls prog 222 #[(.slice a0 n0 c0),(.int .i64 x1)] w (Ret K):=cF an222 false Tryz.func222 h
def an223:Ann:=(AN (.block (.loop [(4,.sh (.one (.int .i64)))] [0,1,2,1000000] (AR (AN (AQ AP AP)) (AR (.block (AN (AN (AQ AP AP)))) AP)))))
def S223 (x0:Value) (a1:Addr) (a2:Addr) (K:Value->WP):WP:=
 zz (Int×Unit) ((0:Int),()) fun(y2:Int×Unit) (I1:(Int×Unit)->WP)=>
 ldW .slc a1 fun(u3:SLC)=>
 za (decide (y2.1<((u3.2.1:Nat):Int))) (zB<|
 ldW (.int .i64) a2 fun(u4:Int)=>
 ldW .slc a1 fun(u5:SLC)=>
 zc (0<=y2.1/\y2.1<=((u5.2.1:Nat):Int))<|
 ldW .slc a1 fun(u6:SLC)=>
 zc (0<=y2.1/\y2.1<=(wrap .i64 (y2.1+(if (((u5.2.1-(Int.toNat y2.1)):Nat):Int)<u4 then (((u5.2.1-(Int.toNat y2.1)):Nat):Int) else u4)))/\(wrap .i64 (y2.1+(if (((u5.2.1-(Int.toNat y2.1)):Nat):Int)<u4 then (((u5.2.1-(Int.toNat y2.1)):Nat):Int) else u4)))<=(wrap .i64 (y2.1+(if (((u5.2.1-(Int.toNat y2.1)):Nat):Int)<u4 then (((u5.2.1-(Int.toNat y2.1)):Nat):Int) else u4)))/\(wrap .i64 (y2.1+(if (((u5.2.1-(Int.toNat y2.1)):Nat):Int)<u4 then (((u5.2.1-(Int.toNat y2.1)):Nat):Int) else u4)))<=((u6.2.2:Nat):Int))<|
 yw prog x0 [(.slice (zo u6.1 (Int.toNat y2.1) (Int.toNat (wrap .i64 (y2.1+(if (((u5.2.1-(Int.toNat y2.1)):Nat):Int)<u4 then (((u5.2.1-(Int.toNat y2.1)):Nat):Int) else u4)))) 1) ((Int.toNat (wrap .i64 (y2.1+(if (((u5.2.1-(Int.toNat y2.1)):Nat):Int)<u4 then (((u5.2.1-(Int.toNat y2.1)):Nat):Int) else u4))))-(Int.toNat y2.1)) ((Int.toNat (wrap .i64 (y2.1+(if (((u5.2.1-(Int.toNat y2.1)):Nat):Int)<u4 then (((u5.2.1-(Int.toNat y2.1)):Nat):Int) else u4))))-(Int.toNat y2.1)))] (.one (.one .bool)) fun(u7:Bool)=>
 za (!u7) (K (.tuple #[]))<|
 ldW (.int .i64) a2 fun(u8:Int)=>I1 ((wrap .i64 (y2.1+u8)),()))<|K (.tuple #[])
theorem znl (x0:Value) (a1:Addr) (a2:Addr) {K:Value->WP} {w:World} (h:S223 x0 a1 a2 K w):Calls prog 223 #[x0,(.pointer (some a1)),(.pointer (some a2))] w (Ret K):=cF an223 false Tryz.func223 h
def an224:Ann:=(AN (.block (.loop [(4,.sh (.one (.int .i64)))] [0,1,2,1000000] (AR (AN (AQ AP AP)) (AR (.block (AN (AN (AQ AP AP)))) AP)))))
def S224 (x0:Value) (a1:Addr) (a2:Addr) (K:Value->WP):WP:=
 zz (Int×Unit) ((0:Int),()) fun(y2:Int×Unit) (I1:(Int×Unit)->WP)=>
 ldW .slc a1 fun(u3:SLC)=>
 za (decide (y2.1<((u3.2.1:Nat):Int))) (zB<|
 ldW (.int .i64) a2 fun(u4:Int)=>
 ldW .slc a1 fun(u5:SLC)=>
 zc (0<=y2.1/\y2.1<=((u5.2.1:Nat):Int))<|
 ldW .slc a1 fun(u6:SLC)=>
 zc (0<=y2.1/\y2.1<=(wrap .i64 (y2.1+(if (((u5.2.1-(Int.toNat y2.1)):Nat):Int)<u4 then (((u5.2.1-(Int.toNat y2.1)):Nat):Int) else u4)))/\(wrap .i64 (y2.1+(if (((u5.2.1-(Int.toNat y2.1)):Nat):Int)<u4 then (((u5.2.1-(Int.toNat y2.1)):Nat):Int) else u4)))<=(wrap .i64 (y2.1+(if (((u5.2.1-(Int.toNat y2.1)):Nat):Int)<u4 then (((u5.2.1-(Int.toNat y2.1)):Nat):Int) else u4)))/\(wrap .i64 (y2.1+(if (((u5.2.1-(Int.toNat y2.1)):Nat):Int)<u4 then (((u5.2.1-(Int.toNat y2.1)):Nat):Int) else u4)))<=((u6.2.2:Nat):Int))<|
 yw prog x0 [(.slice (zo u6.1 (Int.toNat y2.1) (Int.toNat (wrap .i64 (y2.1+(if (((u5.2.1-(Int.toNat y2.1)):Nat):Int)<u4 then (((u5.2.1-(Int.toNat y2.1)):Nat):Int) else u4)))) 1) ((Int.toNat (wrap .i64 (y2.1+(if (((u5.2.1-(Int.toNat y2.1)):Nat):Int)<u4 then (((u5.2.1-(Int.toNat y2.1)):Nat):Int) else u4))))-(Int.toNat y2.1)) ((Int.toNat (wrap .i64 (y2.1+(if (((u5.2.1-(Int.toNat y2.1)):Nat):Int)<u4 then (((u5.2.1-(Int.toNat y2.1)):Nat):Int) else u4))))-(Int.toNat y2.1)))] (.one (.one .bool)) fun(u7:Bool)=>
 za (!u7) (K (.tuple #[]))<|
 ldW (.int .i64) a2 fun(u8:Int)=>I1 ((wrap .i64 (y2.1+u8)),()))<|K (.tuple #[])
theorem znm (x0:Value) (a1:Addr) (a2:Addr) {K:Value->WP} {w:World} (h:S224 x0 a1 a2 K w):Calls prog 224 #[x0,(.pointer (some a1)),(.pointer (some a2))] w (Ret K):=cF an224 false Tryz.func224 h
end V
/- Contracts of the statements' own helpers,and of slices.Clone. -/
namespace V
open Go Go.Proofs
theorem qC:Elem prog 85 5 (.int .u8 0) 1:=by
 refine⟨by kernel_rfl,by kernel_rfl,rfl⟩
def Bytes (w:World) (bs:List UInt8) (v:Value) (w':World):Prop:=∃ x:SLC,v=.slice x.1 x.2.1 x.2.2/\Own 5 w' w.heap.size x.1 x.2.1 x.2.2 (bV bs)/\Ext w w'
theorem zfY {w w':World} {bs:List UInt8} {A:Option Addr} {n c:Nat} (h:Own 5 w' w.heap.size A n c (bV bs)) (he:Ext w w'):Bytes w bs (.slice A n c) w':=⟨(A,n,c),rfl,h,he⟩
theorem zqj {w:World} {A:Option Addr} {n c:Nat} {bs:List UInt8} {K:SLC->WP} (h:Sl w A n (bV bs)) (hn:n<=140737488355328)
  (hK:∀ A' c' w',Own 5 w' w.heap.size A' n c' (bV bs)->Ext w w'->K (A',n,c') w'):
  (zi (.cells #[] 5) fun r=>zy prog (Builtin.append_ #[85,85] 85 #[.slice (some (aD r)) 0 0,.slice A n c]) .slc K) w:=by
 apply yJ;have ho:Own 5 (w.alloc (.cells #[] 5)) w.heap.size (some ⟨w.heap.size,0,none⟩) 0 0 []:=Own.lit (cs:=#[]) (Nat.le_refl _) (by simp);have he:Ext w (w.alloc (.cells #[] 5)):=(Ext.refl w).alloc _;refine zan (c:=0) (n:=0) (m:=n) qC ho he.size (h.ext he) (za1 bs) (by omega) (by omega) ?_;intro A' c' w' ho' hg _;rw[List.nil_append,Nat.zero_add]at ho';rw[Nat.zero_add];exact hK A' c' w' ho' (he.grown hg.grown (ho.row'))
theorem zdw {w:World} {A:Option Addr} {n c:Nat} {bs:List UInt8} (h:Sl w A n (bV bs)) (hn:n<=140737488355328):Calls prog 209 #[.slice A n c] w (Ret (Bytes w bs)):=by
 apply znd;unfold S209;refine zg (fun hA=>?_) (fun hA=>?_)
 ·have hA:A=none:=by simpa using hA
  subst hA;have hn0:n=0:=by
   rcases Nat.eq_zero_or_pos n with h0|h0
   ·exact h0
   ·obtain⟨a,h1,_⟩:=h.2.2 h0;cases h1
  have hb:=h.blen;obtain rfl:bs=[]:=eq_nil_of_length_eq_zero (by omega);exact zfY (Own.nil _ _ _) (Ext.refl w)
 ·exact zqj h hn fun A' c' w' ho he=>zfY ho he
end V
/- Contracts of the package schema and of the document's answer (17). -/
namespace V
open Go Go.Proofs
abbrev Col:=ByteArray×Int×Bool
def xx:Enc Col where
 k:=3
 f c:=[.string c.1,.int .i64 c.2.1,.bool c.2.2]
 len _:=rfl
 one _:=by
  intro v hv
  simp only [mem_cons,not_mem_nil,or_false]at hv
  rcases hv with rfl|rfl|rfl<;>rfl
 pos:=by omega
def letter (c:Nat):Bool:=(97<=c&&c<=122)||(65<=c&&c<=90)||c==95
def digit (c:Nat):Bool:=48<=c&&c<=57
def xj (i c:Nat):Bool:=letter c||(decide (0<i)&&digit c)
theorem uq {i c:Nat}:xj i c=true↔(97<=c/\c<=122)\/(65<=c/\c<=90)\/c=95\/(0<i/\48<=c/\c<=57):=by
 simp only [xj,letter,digit,Bool.or_eq_true,Bool.and_eq_true,decide_eq_true_eq,beq_iff_eq];omega
def za5 (s:List UInt8):Bool:=decide (1<=s.length/\s.length<=32/\∀ i,i<s.length->xj i (s.getD i 0).toNat=true)
def yC (s:List UInt8):Int:=if za5 s then 0 else 170
theorem zdx {s:List UInt8} (h:s.length<1):yC s=170:=by
 unfold yC za5;rw[decide_eq_false (by omega)];rfl
theorem zeH {s:List UInt8} (h:32<s.length):yC s=170:=by
 unfold yC za5;rw[decide_eq_false (by omega)];rfl
theorem zfZ {s:List UInt8} {i:Nat} (hi:i<s.length) (h:xj i (s.getD i 0).toNat=false):yC s=170:=by
 unfold yC za5;rw[decide_eq_false (fun hh=>by rw[hh.2.2 i hi]at h;cases h)];rfl
theorem zeI {s:List UInt8} (h1:1<=s.length) (h2:s.length<=32) (h:∀ i,i<s.length->xj i (s.getD i 0).toNat=true):yC s=0:=by
 unfold yC za5;rw[decide_eq_true ⟨h1,h2,h⟩];rfl
theorem zbD (w:World) (s:ByteArray):Calls prog 110 #[.string s] w (Ret fun v w'=>v=.int .i64 (yC (B s))/\Ext w w'):=by
 apply zmf;unfold S110;have hsz:=yi s;refine zg (fun h=>?_) (fun h1=>?_)
 ·exact⟨by rw[zdx (by have:=of_decide_eq_true h;omega)],Ext.refl w⟩
 refine zg (fun h=>?_) (fun h2=>?_)
 ·exact⟨by rw[zeH (by have:=of_decide_eq_true h;omega)],Ext.refl w⟩
 have h1:=of_decide_eq_false h1;have h2:=of_decide_eq_false h2;apply yJ;refine⟨fun _ w'=>∃ pos,w'.heap[w.heap.size]?=some (.stringIter s pos)/\pos<=s.size/\Ext w w'/\∀ i,i<pos->xj i ((B s).getD i 0).toNat=true,
  fun _ w'=>match w'.heap[w.heap.size]? with|some (.stringIter s pos)=>s.size-pos|_=>0,⟨0,by show(w.heap.push _)[_]?=_;simp,by omega,(Ext.refl w).alloc _,fun i hi=>by omega⟩,?_⟩
 rintro _ w' ⟨pos,hb,hp,he,hok⟩;have hlt:=(Array.getElem?_eq_some_iff.1 hb).1;refine⟨s,pos,hb,fun hps=>?_,fun hps=>?_⟩
 ·have hgo:xj pos ((B s).getD pos 0).toNat=true->((B s).getD pos 0).toNat<128->(fun(_:Unit) w''=>(∃ pos,w''.heap[w.heap.size]?=some (.stringIter s pos)/\pos<=s.size/\Ext w w''/\∀ i,i<pos->xj i ((B s).getD i 0).toNat=true)/\
      (match w''.heap[w.heap.size]? with|some (.stringIter s pos)=>s.size-pos|_=>0)<(match w'.heap[w.heap.size]? with|some (.stringIter s pos)=>s.size-pos|_=>0)) () (yE w' w.heap.size (.stringIter s (pos+(Utf8.decode s pos).2))):=by
   intro hc hlo;have hd:=decode_ascii hps hlo;rw[hd];have hs:=xR (w:=w') (l:=w.heap.size) (o:=.stringIter s (pos+1)) hlt;refine⟨⟨pos+1,hs,by omega,he.yE (Nat.le_refl _) _,fun i hi=>?_⟩,?_⟩
   ·by_cases hip:i=pos
    ·subst hip;exact hc
    ·exact hok i (by omega)
   ·rw[hs,hb];simp only;omega
  have hw2:Ext w (yE w' w.heap.size (.stringIter s (pos+(Utf8.decode s pos).2))):=he.yE (Nat.le_refl _) _;have hbyte:((B s).getD pos 0).toNat<128/\(Utf8.decode s pos).1=((B s).getD pos 0).toNat\/¬((B s).getD pos 0).toNat<128/\128<=(Utf8.decode s pos).1:=by
   by_cases hlo:((B s).getD pos 0).toNat<128
   ·exact .inl ⟨hlo,by rw[decode_ascii hps hlo]⟩
   ·exact .inr ⟨hlo,zha hps hlo⟩
  have hbad:xj pos (Utf8.decode s pos).1=false->yC (B s)=170:=by
   intro hc;refine zfZ (i:=pos) (by omega) ?_;rcases hbyte with ⟨h1,h2⟩|⟨h1,h2⟩
   ·rw[<- h2];exact hc
   ·rw[Bool.eq_false_iff];intro hh;rw[uq]at hh;omega
  have hgood:xj pos (Utf8.decode s pos).1=true->(fun(_:Unit) w''=>(∃ pos,w''.heap[w.heap.size]?=some (.stringIter s pos)/\pos<=s.size/\Ext w w''/\∀ i,i<pos->xj i ((B s).getD i 0).toNat=true)/\
    (match w''.heap[w.heap.size]? with|some (.stringIter s pos)=>s.size-pos|_=>0)<(match w'.heap[w.heap.size]? with|some (.stringIter s pos)=>s.size-pos|_=>0)) () (yE w' w.heap.size (.stringIter s (pos+(Utf8.decode s pos).2))):=by
   intro hc;rcases hbyte with ⟨h1,h2⟩|⟨h1,h2⟩
   ·exact hgo (by rw[<- h2];exact hc) h1
   ·rw[uq]at hc;omega
  clear hgo hbyte;generalize yE w' w.heap.size (.stringIter s (pos+(Utf8.decode s pos).2))=w2 at *;generalize (Utf8.decode s pos).1=c at *;refine zf rfl ?_;refine yu (fun _ w'=>xj pos c=false/\w'=w2) ?_ (fun J6 h6=>?_)
  ·rintro _ w3 ⟨hc,rfl⟩;exact⟨by rw[hbad hc],hw2⟩
  refine yu (fun(x:Bool×Unit) w'=>(x.1=true↔(97<=c/\c<=122)\/(65<=c/\c<=90)\/c=95)/\w'=w2) ?_ (fun J8 h8=>?_)
  ·rintro⟨b,_⟩ w3 ⟨hb',rfl⟩;simp only at hb';have ok:xj pos c=true↔b=true\/(0<pos/\48<=c/\c<=57):=by rw[uq,hb'];omega
   refine zg (fun h=>hgood (ok.2 (.inl h))) (fun hl=>?_);have hb2:¬b=true:=by simp[show b=false from hl]
   have no:¬(0<pos/\48<=c/\c<=57)->J6 () w3:=fun h=>h6 _ _ ⟨by rw[Bool.eq_false_iff,ne_eq,ok];rintro(h1|h1);exact hb2 h1;exact h h1,rfl⟩;refine zg (fun h1=>?_) (fun h1=>no (by have:=of_decide_eq_false h1;omega));refine zg (fun h2=>?_) (fun h2=>no (by have:=of_decide_eq_false h2;omega));refine zg (fun h3=>?_) (fun h3=>no (by have:=of_decide_eq_false h3;omega));have h1:=of_decide_eq_true h1;have h2:=of_decide_eq_true h2;have h3:=of_decide_eq_true h3;exact hgood (ok.2 (.inr ⟨by omega,by omega,by omega⟩))
  ·have hl:∀ b:Bool,(b=true↔(97<=c/\c<=122)\/(65<=c/\c<=90)\/c=95)->J8 (b,()) w2:=fun b hb=>h8 _ _ ⟨hb,rfl⟩;refine zg (fun ha=>?_) (fun ha=>?_)
   ·have ha:=of_decide_eq_true ha;refine zg (fun hb=>hl _ ?_) (fun hb=>?_)
    ·rw[decide_eq_true_eq];have hb:=of_decide_eq_true hb;omega
    ·have hb:=of_decide_eq_false hb;refine zg (fun h3=>?_) (fun h3=>?_)
     ·have h3:=of_decide_eq_true h3;refine zg (fun h4=>hl _ ?_) (fun h4=>hl _ ?_)
      ·rw[decide_eq_true_eq];have h4:=of_decide_eq_true h4;omega
      ·rw[beq_iff_eq];have h4:=of_decide_eq_false h4;omega
     ·exact hl _ (by rw[beq_iff_eq];have h3:=of_decide_eq_false h3;omega)
   ·have ha:=of_decide_eq_false ha;refine zg (fun h3=>?_) (fun h3=>?_)
    ·have h3:=of_decide_eq_true h3;refine zg (fun h4=>hl _ ?_) (fun h4=>hl _ ?_)
     ·rw[decide_eq_true_eq];have h4:=of_decide_eq_true h4;omega
     ·rw[beq_iff_eq];have h4:=of_decide_eq_false h4;omega
    ·exact hl _ (by rw[beq_iff_eq];have h3:=of_decide_eq_false h3;omega)
 ·obtain rfl:pos=s.size:=by omega
  refine zd rfl ?_;exact⟨by rw[zeI (by omega) (by omega) (fun i hi=>hok i (by omega))],he⟩
theorem zaE (w:World) (s:ByteArray):Calls prog 63 #[.string s] w (Ret fun v w'=>v=.int .i64 (yC (B s))/\Ext w w'):=by
 apply zo5;unfold S63;have hsz:=yi s;refine zg (fun h=>?_) (fun h1=>?_)
 ·exact⟨by rw[zdx (by have:=of_decide_eq_true h;omega)],Ext.refl w⟩
 refine zg (fun h=>?_) (fun h2=>?_)
 ·exact⟨by rw[zeH (by have:=of_decide_eq_true h;omega)],Ext.refl w⟩
 have h1:=of_decide_eq_false h1;have h2:=of_decide_eq_false h2;refine zw (fun x w'=>w'=w/\∃ i:Nat,i<=s.size/\x=((i:Int),())/\∀ k,k<i->xj k ((B s).getD k 0).toNat=true) (fun x=>(s.size-x.1).toNat) ⟨rfl,0,by omega,rfl,fun k hk=>by omega⟩ ?_;rintro _ _ ⟨rfl,i,hi,rfl,hok⟩;dsimp only;rename_i w2
 by_cases hlt:i<s.size
 ·refine zf (decide_eq_true (by omega)) ?_;rw[wrap_i64 (x:=(i:Int)+1) (by omega) (by omega)];have hbt:bt s (i:Int)=((((B s).getD i 0).toNat:Nat):Int):=by rw[zgH (by omega) (by omega)];rfl
  rw[hbt];have hbad:xj i ((B s).getD i 0).toNat=false->yC (B s)=170:=zfZ (by omega);have hgood:xj i ((B s).getD i 0).toNat=true->∀ k,k<i+1->xj k ((B s).getD k 0).toNat=true:=fun h k hk=>by
   by_cases hki:k=i
   ·subst hki;exact h
   ·exact hok k (by omega)
  generalize ((B s).getD i 0).toNat=c at *;refine yu (fun _ w'=>xj i c=true/\w'=w2) ?_ (fun J6 h6=>?_)
  ·rintro _ w3 ⟨hc,rfl⟩;exact⟨⟨rfl,i+1,by omega,rfl,hgood hc⟩,by omega⟩
  refine⟨⟨by omega,by omega⟩,?_⟩;refine yu (fun(x:Bool×Unit) w'=>(x.1=true↔48<=c/\c<=57)/\w'=w2) ?_ (fun J8 h8=>?_)
  ·rintro⟨d,_⟩ w3 ⟨hd,rfl⟩;simp only at hd;refine yu (fun(x:Bool×Unit) w'=>(x.1=true↔xj i c=false)/\w'=w3) ?_ (fun J7 h7=>?_)
   ·rintro⟨b,_⟩ w4 ⟨hb,rfl⟩;simp only at hb;refine zg (fun h=>⟨by rw[hbad (hb.1 h)],Ext.refl _⟩) (fun h=>h6 _ _ ⟨?_,rfl⟩);cases hc:xj i c with
    |true=>rfl
    |false=>rw[hb.2 hc]at h;cases h
   have ok:=@uq i c;have no:∀ b:Bool,(b=false↔(97<=c/\c<=122)\/(65<=c/\c<=90)\/c=95\/(0<i/\48<=c/\c<=57))->J7 (b,()) w3:=fun b hb=>by
    refine h7 (b,()) w3 ⟨?_,rfl⟩;show b=true↔xj i c=false;cases hc:xj i c with
    |true=>
     have:=hb.2 (ok.1 hc);rw[this];simp
    |false=>
     cases hbb:b with
     |true=>simp
     |false=>
      have:=ok.2 (hb.1 hbb);rw[hc]at this;cases this
   have tail:¬(97<=c/\c<=122)->¬(65<=c/\c<=90)->(za ((c:Int)==(95:Int)) (J7 (false,()))<|za d (J7 ((!(decide ((i:Int)>(0:Int)))),()))<|J7 (true,())) w3:=fun hn1 hn2=>by
    refine zg (fun h=>no _ ?_) (fun h=>?_)
    ·rw[beq_iff_eq]at h;simp only [true_iff];omega
    ·have h:¬((c:Int)=95):=by rw[beq_eq_false_iff_ne]at h;exact h
     refine zg (fun hdd=>no _ ?_) (fun hdd=>no _ ?_)
     ·have:=hd.1 hdd;rw[Bool.not_eq_false',decide_eq_true_eq];omega
     ·have:¬(48<=c/\c<=57):=fun hh=>by rw[hd.2 hh]at hdd;cases hdd
      simp only [Bool.true_eq_false,false_iff];omega
   refine zg (fun ha=>?_) (fun ha=>?_)
   ·have ha:=of_decide_eq_true ha;refine zg (fun hb=>no _ ?_) (fun hb=>?_)
    ·have hb:=of_decide_eq_true hb;simp only [true_iff];omega
    ·have hb:=of_decide_eq_false hb;refine zg (fun h3=>?_) (fun h3=>tail (by omega) (by have h3:=of_decide_eq_false h3;omega));have h3:=of_decide_eq_true h3;refine zg (fun h4=>no _ ?_) (fun h4=>tail (by omega) (by have h4:=of_decide_eq_false h4;omega));have h4:=of_decide_eq_true h4;simp only [true_iff];omega
   ·have ha:=of_decide_eq_false ha;refine zg (fun h3=>?_) (fun h3=>tail (by omega) (by have h3:=of_decide_eq_false h3;omega));have h3:=of_decide_eq_true h3;refine zg (fun h4=>no _ ?_) (fun h4=>tail (by omega) (by have h4:=of_decide_eq_false h4;omega));have h4:=of_decide_eq_true h4;simp only [true_iff];omega
  ·refine zg (fun ha=>?_) (fun ha=>?_)
   ·have ha:=of_decide_eq_true ha;exact h8 _ _ ⟨by rw[decide_eq_true_eq];omega,rfl⟩
   ·have ha:=of_decide_eq_false ha;exact h8 _ _ ⟨by simp only [Bool.false_eq_true,false_iff];omega,rfl⟩
 ·obtain rfl:i=s.size:=by omega
  refine zd (decide_eq_false (by omega)) ?_;exact⟨by rw[zeI (by omega) (by omega) (fun k hk=>hok k (by omega))],Ext.refl _⟩
theorem zhe {w:World} {c:Col} {a:Addr} {s:ByteArray} (h:w.cell? a=some (.string s)):
  Calls prog 155 #[.agg #[.string c.1,.int .i64 c.2.1,.bool c.2.2],.pointer (some a)] w (Ret fun v w'=>v=.bool (decide (B c.1=B s))/\Ext w w'):=by
 apply zmG;unfold S155;apply yJ;have he:Ext w (w.alloc (.cells #[(.string c.1),(.int .i64 c.2.1),(.bool c.2.2)] 62)):=(Ext.refl w).alloc _;have hb:Blk (w.alloc (.cells #[(.string c.1),(.int .i64 c.2.1),(.bool c.2.2)] 62)) w.heap.size [(.string c.1),(.int .i64 c.2.1),(.bool c.2.2)] 62:=Blk.new w _ _;refine zl hb (by rfl) ?_;refine zaD (he.cell h) ?_;exact⟨by rw[jA],he⟩
def Tests (g:FuncId):Prop:=∀ (w:World) (c:Col) (a:Addr) (s:ByteArray),w.cell? a=some (.string s)->
  Calls prog g #[.agg #[.string c.1,.int .i64 c.2.1,.bool c.2.2],.pointer (some a)] w (Ret fun v w'=>v=.bool (decide (B c.1=B s))/\Ext w w')
def j8 (s:ByteArray) (cs:List Col):Nat:=cs.findIdx fun c=>decide (B c.1=B s)
theorem zhf {w:World} {A:Option Addr} {n c:Nat} {cs:List Col} {g:FuncId} {a:Addr} {s:ByteArray} (hg:enterable prog g=true) (ht:Tests g) (h:Sli xx w A n cs) (ha:w.cell? a=some (.string s)):
  Calls prog 195 #[.slice A n c,.func (.func g) #[] #[.pointer (some a)]] w (Ret fun v w'=>v=.int .i64 (if j8 s cs<n then (j8 s cs:Int) else -1)/\Ext w w'):=by
 apply zm3;unfold S195;have hl:=h.len;have hle:=h.le;refine zw (fun x w'=>Ext w w'/\∃ i:Nat,i<=n/\x=((i:Int),())/\i<=j8 s cs) (fun x=>(n-x.1).toNat) ⟨Ext.refl w,0,by omega,rfl,by omega⟩ ?_;rintro _ w' ⟨he,i,hi,rfl,hf⟩;dsimp only
 by_cases hlt:i<n
 ·refine zf (decide_eq_true (by omega)) ?_;have hx:cs[i]?=some cs[i]:=List.getElem?_eq_getElem (by omega);refine xK (h.ext he) (by omega) (x:=cs[i]) (by simp) rfl ?_;intro p hp hc;refine qj (ls:=[.str,(.int .i64),.bool]) (x:=(cs[i].1,cs[i].2.1,cs[i].2.2,())) hc ?_;refine xD hg ?_;refine zb (ht w' cs[i] a s (he.cell ha)) ?_;rintro _ w1 ⟨rfl,he1⟩;refine⟨_,rfl,?_⟩;refine zg (fun hd=>?_) (fun hd=>?_)
  ·have hfi:j8 s cs=i:=by
    have h1:j8 s cs<=i:=by
     rcases Nat.lt_or_ge i (j8 s cs) with h1|h1
     ·have:=List.not_of_lt_findIdx h1;rw[hd]at this;cases this
     ·exact h1
    omega
   refine⟨?_,he.trans he1⟩;rw[hfi,if_pos hlt]
  ·rw[wrap_i64 (by omega) (by omega)];refine⟨⟨he.trans he1,i+1,by omega,rfl,?_⟩,by omega⟩;rcases Nat.lt_or_ge i (j8 s cs) with h1|h1
   ·omega
   ·have hfi:j8 s cs=i:=by omega
    have h2:j8 s cs<cs.length:=by omega
    have:=List.findIdx_getElem (p:=fun c:Col=>decide (B c.1=B s)) (xs:=cs) (w:=h2);have h3:decide (B cs[i].1=B s)=true:=by
     have e:cs[j8 s cs]=cs[i]:=by congr 1
     rw[<- e];exact this
    rw[h3]at hd;cases hd
 ·obtain rfl:i=n:=by omega
  refine zd (decide_eq_false (by omega)) ?_;exact⟨by rw[if_neg (by omega)],he⟩
theorem zeJ {w:World} {A:Option Addr} {n c:Nat} {cs:List Col} {g:FuncId} {a:Addr} {s:ByteArray} (hg:enterable prog g=true) (ht:Tests g) (h:Sli xx w A n cs) (ha:w.cell? a=some (.string s)):
  Calls prog 154 #[.slice A n c,.func (.func g) #[] #[.pointer (some a)]] w (Ret fun v w'=>v=.bool (cs.any fun c=>decide (B c.1=B s))/\Ext w w'):=by
 apply zmF;unfold S154;refine zb (zhf hg ht h ha) ?_;rintro _ w1 ⟨rfl,he1⟩;refine⟨_,rfl,?_,he1⟩;have hl:=h.len;congr 1;rw[Bool.eq_iff_iff,decide_eq_true_iff,List.any_eq_true];have:=List.findIdx_lt_length (p:=fun c:Col=>decide (B c.1=B s)) (xs:=cs);rw[<- this,hl];show((if j8 s cs<n then (j8 s cs:Int) else -1)>=0)↔j8 s cs<n;split<;>omega
def qa:List Col->List Col->Int
 |_,[]=>0
 |pre,c::r=>if yC (B c.1)≠0 then 170 else if c.2.1<1\/c.2.1>3\/(pre.any fun d=>decide (B d.1=B c.1))=true then 171 else qa (pre++[c]) r
def xd (cs:List Col):Int:=if cs.length<1\/cs.length>16 then 171 else qa [] cs
theorem ziq (s:List UInt8):yC s=0\/yC s=170:=by unfold yC;split<;>simp
theorem uS {w:World} {A:Option Addr} {n c:Nat} {cs:List Col} (h:Sli xx w A n cs) (hc:n<=c):
  Calls prog 106 #[.slice A n c] w (Ret fun v w'=>v=.int .i64 (xd cs)/\Ext w w'):=by
 apply zmb;unfold S106 xd;have hl:=h.len;refine zg (fun h1=>?_) (fun h1=>?_)
 ·have h1:=of_decide_eq_true h1;rw[if_pos (by omega)];exact⟨rfl,Ext.refl w⟩
 refine zg (fun h2=>?_) (fun h2=>?_)
 ·have h2:=of_decide_eq_true h2;rw[if_pos (by omega)];exact⟨rfl,Ext.refl w⟩
 have h1:=of_decide_eq_false h1;have h2:=of_decide_eq_false h2;rw[if_neg (by omega)];refine zw (fun x w'=>Ext w w'/\∃ i:Nat,i<=n/\x=((i:Int),())/\qa [] cs=qa (cs.take i) (cs.drop i)) (fun x=>(n-x.1).toNat) ⟨Ext.refl w,0,by omega,rfl,by simp⟩ ?_;rintro _ w' ⟨he,i,hi,rfl,hf⟩;dsimp only
 by_cases hlt:i<n
 ·refine zf (decide_eq_true (by omega)) ?_;obtain⟨col,hcol⟩:∃ col,col=cs[i]:=⟨_,rfl⟩;have hdrop:cs.drop i=col::cs.drop (i+1):=by rw[hcol];exact drop_eq_getElem_cons (by omega)
  have htake:cs.take (i+1)=cs.take i++[col]:=by rw[hcol];exact take_succ_eq_append_getElem (by omega)
  have hx:cs[Int.toNat (i:Int)]?=some col:=by rw[hcol];simp
  rw[hdrop,qa]at hf;refine xK (h.ext he) (by omega) hx rfl ?_;intro p hp hcell;refine qj (ls:=[.str,(.int .i64),.bool]) (x:=(col.1,col.2.1,col.2.2,())) hcell ?_;refine yz (vs:=[(.string col.1),(.int .i64 col.2.1),(.bool col.2.2)]) (by rfl) (xx.one col) ?_ (by rfl);intro r w1 hb he1 hr;refine zl hb (by rfl) ?_;refine zb (zbD w1 col.1) ?_;rintro _ w2 ⟨rfl,he2⟩;refine⟨_,rfl,?_⟩;have hb2:=hb.ext he2;have he02:=(he.trans he1).trans he2;refine zg (fun hn=>?_) (fun hn=>?_)
  ·have hn:yC (B col.1)≠0:=by simpa using hn
   rw[hf,if_pos hn];rcases ziq (B col.1) with h0|h0
   ·exact absurd h0 hn
   ·exact⟨by rw[h0],he02⟩
  have hn:yC (B col.1)=0:=by simpa using hn
  rw[if_neg (by simp[hn])]at hf;refine yK (o:=1) hb2 (by rfl) ?_;refine zg (fun hk=>?_) (fun hk=>?_)
  ·have hk:=of_decide_eq_true hk;rw[hf,if_pos (.inl hk)];exact⟨rfl,he02⟩
  have hk:=of_decide_eq_false hk;refine yK (o:=1) hb2 (by rfl) ?_;refine zg (fun hk2=>?_) (fun hk2=>?_)
  ·have hk2:=of_decide_eq_true hk2;rw[hf,if_pos (.inr (.inl hk2))];exact⟨rfl,he02⟩
  have hk2:=of_decide_eq_false hk2;refine⟨⟨by omega,by omega⟩,?_⟩;rw[Int.toNat_natCast];have hcut:=(h.zfl (k:=i) (m:=c) (z:=3) rfl (by omega) (by omega)).ext he02;have hcell2:w2.cell? ⟨r,0,none⟩=some (.string col.1):=by rw[hb2.cell];rfl
  refine zb (zeJ (s:=col.1) (g:=155) (by kernel_rfl) (fun w c a s h=>zhe h) hcut hcell2) ?_;rintro _ w3 ⟨rfl,he3⟩;refine⟨_,rfl,?_⟩;refine zg (fun hd=>?_) (fun hd=>?_)
  ·rw[hf,if_pos (.inr (.inr hd))];exact⟨rfl,he02.trans he3⟩
  ·rw[if_neg (by
    rintro(h3|h3|h3)
    ·exact hk h3
    ·exact hk2 h3
    ·rw[h3]at hd;cases hd)]at hf
   rw[wrap_i64 (by omega) (by omega)];exact⟨⟨he02.trans he3,i+1,by omega,rfl,by rw[htake];exact hf⟩,by omega⟩
 ·obtain rfl:i=n:=by omega
  refine zd (decide_eq_false (by omega)) ?_;rw[drop_of_length_le (by omega)]at hf;exact⟨by rw[hf];rfl,he⟩
def jP (cs:List Col):Bool:=decide (cs.length<=20)&&cs.all fun c=>decide ((B c.1).length<=60)
theorem zeK {w:World} {A:Option Addr} {n c:Nat} {cs:List Col} (h:Sli xx w A n cs):
  Calls prog 39 #[.slice A n c] w (Ret fun v w'=>v=.bool (jP cs)/\Ext w w'):=by
 apply zoQ;unfold S39;have hl:=h.len;have hle:=h.le;refine zw (fun x w'=>w'=w/\∃ i:Nat,i<=n/\x=((i:Int),())/\∀ k c,k<i->cs[k]?=some c->(B c.1).length<=60) (fun x=>(n-x.1).toNat) ⟨rfl,0,by omega,rfl,fun k c hk=>by omega⟩ ?_;rintro _ _ ⟨rfl,i,hi,rfl,hf⟩;dsimp only
 by_cases hlt:i<n
 ·refine zf (decide_eq_true (by omega)) ?_;obtain⟨col,hcol⟩:∃ col,col=cs[i]:=⟨_,rfl⟩;have hx:cs[i]?=some col:=by rw[hcol];exact List.getElem?_eq_getElem (by omega)
  refine xK h (by omega) (x:=col) (by simpa using hx) rfl ?_;intro p hp hcell;refine zaD (by have:=hcell.1;rw[add_zero]at this;exact this) ?_;have hs:=yi col.1;refine zg (fun hb=>?_) (fun hb=>?_)
  ·have hb:=of_decide_eq_true hb;refine⟨?_,Ext.refl _⟩;congr 1
   symm
   unfold jP;rw[Bool.and_eq_false_iff];right;rw[Bool.eq_false_iff,ne_eq,all_eq_true];intro hall;have:=of_decide_eq_true (hall col (mem_of_getElem? hx));omega
  ·have hb:=of_decide_eq_false hb;rw[wrap_i64 (by omega) (by omega)];refine⟨⟨rfl,i+1,by omega,rfl,fun k c hk hc=>?_⟩,by omega⟩
   by_cases hki:k=i
   ·subst hki;rw[hx]at hc;injection hc with hc
    subst hc;omega
   ·exact hf k c (by omega) hc
 ·obtain rfl:i=n:=by omega
  refine zd (decide_eq_false (by omega)) ?_;refine⟨?_,Ext.refl _⟩;congr 1;unfold jP;have hall:(cs.all fun c=>decide ((B c.1).length<=60))=true:=by
   rw[all_eq_true];intro c hc;obtain⟨k,hk,rfl⟩:=mem_iff_getElem.1 hc;exact decide_eq_true (hf k _ (by omega) (List.getElem?_eq_getElem hk))
  rw[hall,Bool.and_true,hl];exact decide_eq_decide.2 (by omega)
def zbE (c:Col):Prop:=yC (B c.1)=0/\1<=c.2.1/\c.2.1<=3
theorem zcA:∀ (r pre:List Col),qa pre r=0->∀ c∈r,zbE c
 |[],_,_,c,hc=>by cases hc
 |d::r,pre,h,c,hc=>by
  unfold qa at h;split at h
  ·cases h
  ·rename_i h1;split at h
   ·cases h
   ·rename_i h2;rcases mem_cons.1 hc with rfl|hc
    ·have:¬(c.2.1<1\/c.2.1>3):=fun hh=>h2 (by rcases hh with hh|hh;exact .inl hh;exact .inr (.inl hh));exact⟨by omega,by omega,by omega⟩
    ·exact zcA r _ h c hc
theorem zao {cs:List Col} (h:xd cs=0):(1<=cs.length/\cs.length<=16)/\qa [] cs=0/\∀ c∈cs,zbE c:=by
 unfold xd at h;split at h
 ·cases h
 ·exact⟨by omega,h,zcA _ _ h⟩
theorem qJ {s:List UInt8} (h:yC s=0):1<=s.length/\s.length<=32:=by
 unfold yC za5 at h;split at h
 ·rename_i hh;have:=of_decide_eq_true hh;exact⟨this.1,this.2.1⟩
 ·cases h
def xZ (c:Col):UInt8:=if c.2.2 then UInt8.ofNat (c.2.1.toNat+128) else UInt8.ofNat c.2.1.toNat
def jQ (c:Col):List UInt8:=xZ c::UInt8.ofNat (B c.1).length::B c.1
def xo (cs:List Col):List UInt8:=UInt8.ofNat cs.length::cs.flatMap jQ
theorem zir {c:Col} (h:zbE c):(jQ c).length<=34:=by
 have:=qJ h.1;simp[jQ];omega
theorem zaF:∀ {cs:List Col},(∀ c∈cs,zbE c)->(cs.flatMap jQ).length<=cs.length*34
 |[],_=>by simp
 |c::r,h=>by
  have h1:=zir (h c mem_cons_self);have h2:=zaF (cs:=r) (fun c hc=>h c (mem_cons_of_mem _ hc));simp only [flatMap_cons,length_append,length_cons];omega
def zcB (cs:List Col):List UInt8×Int:=if xd cs=0 then (xo cs,0) else ([],xd cs)
theorem zhg {w:World} {A:Option Addr} {n c:Nat} {cs:List Col} (h:Sli xx w A n cs) (hc:n<=c):
  Calls prog 40 #[.slice A n c] w (Ret fun v w'=>v=.tuple #[.string ⟨(zcB cs).1.toArray⟩,.int .i64 (zcB cs).2]/\Ext w w'):=by
 apply zoR;unfold S40;have hl:=h.len;refine zb (uS h hc) ?_;rintro _ w1 ⟨rfl,he1⟩;refine⟨_,rfl,?_⟩;unfold zcB;refine zg (fun hn=>?_) (fun hn=>?_)
 ·have hn:xd cs≠0:=by simpa using hn
  rw[if_neg hn];exact⟨rfl,he1⟩
 have hn:xd cs=0:=by simpa using hn
 rw[if_pos hn];obtain⟨hlen,_,hok⟩:=zao hn;apply yJ;have e0:#[Value.int .u8 (wrap .u8 ((n:Nat):Int))]=(bV [UInt8.ofNat cs.length]).toArray:=by rw[qq,hl];rfl
 rw[e0];have ho0:Own 5 (w1.alloc (.cells (bV [UInt8.ofNat cs.length]).toArray 5)) w.heap.size (some ⟨w1.heap.size,0,none⟩) 1 1 (bV [UInt8.ofNat cs.length]):=Own.lit (cs:=(bV [UInt8.ofNat cs.length]).toArray) he1.size (by simp[bV]);have he2:=he1.alloc (.cells (bV [UInt8.ofNat cs.length]).toArray 5);generalize w1.alloc (.cells (bV [UInt8.ofNat cs.length]).toArray 5)=w2 at ho0 he2 ⊢;refine zw (fun x w'=>Ext w w'/\∃ (i:Nat) (A':Option Addr) (m c':Nat),i<=n/\x=((A',m,c'),(i:Int),())/\Own 5 w' w.heap.size A' m c' (bV (UInt8.ofNat cs.length::(cs.take i).flatMap jQ))) (fun x=>(n-x.2.1).toNat) ⟨he2,0,_,1,1,by omega,rfl,by simpa using ho0⟩ ?_;rintro _ w' ⟨he,i,A',m,c',hi,rfl,ho⟩;dsimp only;have hm:=ho.sl.blen;have hlb:(UInt8.ofNat cs.length::(cs.take i).flatMap jQ).length<=600:=by
  have:=zaF (cs:=cs.take i) (fun c hc=>hok c (List.mem_of_mem_take hc));have h2:(cs.take i).length<=16:=by simp;omega
  have:=Nat.mul_le_mul_right 34 h2;simp only [length_cons];omega
 by_cases hlt:i<n
 ·refine zf (decide_eq_true (by omega)) ?_;obtain⟨col,hcol⟩:∃ col,col=cs[i]:=⟨_,rfl⟩;have hmem:col∈cs:=by rw[hcol];exact getElem_mem _
  have htake:cs.take (i+1)=cs.take i++[col]:=by rw[hcol];exact take_succ_eq_append_getElem (by omega)
  have hx:cs[Int.toNat (i:Int)]?=some col:=by rw[hcol];simp
  obtain⟨hk0,hk1,hk2⟩:=hok col hmem;have hname:=qJ hk0;have hns:=yi col.1;refine xK (h.ext he) (by omega) hx rfl ?_;intro p hp hcell;refine qj (ls:=[.str,(.int .i64),.bool]) (x:=(col.1,col.2.1,col.2.2,())) hcell ?_;refine yz (vs:=[(.string col.1),(.int .i64 col.2.1),(.bool col.2.2)]) (by rfl) (xx.one col) ?_ (by rfl);intro r w3 hb he3 hr;refine yK (o:=1) hb (by rfl) ?_;refine yK (o:=2) hb (by rfl) ?_;have tail:∀ (kb:Int),kb=((xZ col).toNat:Int)->(zB<|
    ldW .str (aD r) fun(u15:ByteArray)=>
    ldW .str (aD r) fun(u16:ByteArray)=>
    zi (.cells #[(.int .u8 kb),(.int .u8 (wrap .u8 ((u15.size:Nat):Int)))] 5) fun(r17:Nat)=>
    zt [[((aD r),(.string u16))]]<|
    zy prog (Builtin.append_ #[85,85] 85 #[(.slice A' m c'),(.slice (some (aD r17)) 2 2)]) .slc fun(u18:SLC)=>
    zt [[((aD r),(.string u16))]]<|
    zy prog (Builtin.append_ #[85,9] 85 #[(.slice u18.1 u18.2.1 u18.2.2),(.string u16)]) .slc fun(u19:SLC)=>fun w'=>(Ext w w'/\∃ (i':Nat) (A':Option Addr) (m c':Nat),i'<=n/\(((u19.1,u19.2.1,u19.2.2),wrap .i64 ((i:Int)+1),()):SLC×Int×Unit)=((A',m,c'),(i':Int),())/\Own 5 w' w.heap.size A' m c' (bV (UInt8.ofNat cs.length::(cs.take i').flatMap jQ)))/\(n-wrap .i64 ((i:Int)+1)).toNat<(n-(i:Int)).toNat) w3:=by
   rintro kb rfl;show(ldW _ _ _) w3.drew;have he3':Ext w' w3.drew:=he3.drew;have hb':Blk w3.drew r [(.string col.1),(.int .i64 col.2.1),(.bool col.2.2)] 62:=hb;generalize w3.drew=w4 at he3' hb' ⊢;refine zl hb' (by rfl) ?_;refine zl hb' (by rfl) ?_;rw[qq];have he4:=he.trans he3';have ho4:=ho.ext he3';have e1:(#[.int .u8 ((xZ col).toNat:Int),.int .u8 ((UInt8.ofNat col.1.size).toNat:Int)]:Array Value)=(bV [xZ col,UInt8.ofNat (B col.1).length]).toArray:=by rw[hns];rfl
   rw[e1];apply yJ;have hblk:Blk (w4.alloc (.cells (bV [xZ col,UInt8.ofNat (B col.1).length]).toArray 5)) w4.heap.size (bV [xZ col,UInt8.ofNat (B col.1).length]) 5:=by simpa using Blk.new w4 (bV [xZ col,UInt8.ofNat (B col.1).length]).toArray 5
   have hal:Ext w4 (w4.alloc (.cells (bV [xZ col,UInt8.ofNat (B col.1).length]).toArray 5)):=(Ext.refl w4).alloc _;have held:∀ {w5:World} {K:WP},Blk w5 r [(.string col.1),(.int .i64 col.2.1),(.bool col.2.2)] 62->K w5->zt [[((aD r),(.string col.1))]] K w5:=fun {w5 K} hb hk=>⟨fun l hl p hp=>by
    simp only [mem_singleton]at hl
    subst hl
    simp only [mem_singleton]at hp
    subst hp
    rw[hb.cell]
    rfl,hk⟩
   have hb5:=hb'.ext hal;have ho5:=ho4.ext hal;have he5:=he4.trans hal;generalize w4.alloc (.cells (bV [xZ col,UInt8.ofNat (B col.1).length]).toArray 5)=w5 at *;refine held hb5 ?_;refine zan qC ho5 he5.size (Sl.xC hblk rfl (by omega)) (za1 _) (by omega) (by omega) ?_;intro A6 c6 w6 ho6 hg6 _;rw[<- xl]at ho6;have hrne:orow A'≠some r:=fun hh=>by
    have h1:=World.ownsRow.lt ho r (by rw[xn];exact hh);omega
   have hb6:Blk w6 r [(.string col.1),(.int .i64 col.2.1),(.bool col.2.2)] 62:=hb5.grown hg6.grown (fun hh=>hrne hh.symm);have he6:=he5.grown hg6.grown ho5.row';refine held hb6 ?_;dsimp only;have hm6:=ho6.sl.blen;refine zbA qC (by kernel_rfl) ho6 he6.size (by omega) ?_;intro A7 c7 w7 ho7 hg7;have he7:=he6.grown hg7.grown ho6.row';rw[wrap_i64 (by omega) (by omega)];refine⟨⟨he7,i+1,A7,_,c7,by omega,rfl,?_⟩,by omega⟩;have e2:UInt8.ofNat cs.length::(cs.take (i+1)).flatMap jQ=(UInt8.ofNat cs.length::(cs.take i).flatMap jQ++[xZ col,UInt8.ofNat (B col.1).length])++B col.1:=by
    rw[htake];simp[jQ]
   rw[e2];exact ho7
  have hkn:wrap .u8 col.2.1=((col.2.1.toNat:Nat):Int):=by rw[wrap_u8];omega
  refine zg (fun hnull=>?_) (fun hnull=>?_)
  ·refine tail _ ?_;rw[hkn,show(128:Int)=((128:Nat):Int) from rfl,zi2 (k:=.u8) rfl (by simp[IntKind.bits];omega) (by simp[IntKind.bits])];unfold xZ;rw[hnull,if_pos rfl];have:col.2.1.toNat=1\/col.2.1.toNat=2\/col.2.1.toNat=3:=by omega
   rcases this with h|h|h<;>rw[h]<;>rfl
  ·refine tail _ ?_;rw[hkn];unfold xZ;have:col.2.1.toNat=1\/col.2.1.toNat=2\/col.2.1.toNat=3:=by omega
   rw[hnull,if_neg (by simp)];rcases this with h|h|h<;>rw[h]<;>rfl
 ·obtain rfl:i=n:=by omega
  refine zd (decide_eq_false (by omega)) ?_;rw[take_of_length_le (by omega)]at ho;refine qS (e:=5) (by kernel_rfl) (by kernel_rfl) (by kernel_rfl) ho.sl ?_;exact⟨rfl,he⟩
end V
/- Columns and cells that came in,opened. -/
namespace V
open Go Go.ChangeShapes Go.WideShapes Go.ChangeAt Go.RowKit Go.Deep Go.Proofs
section
variable {H:Type} {enc:TypeId×Value->H} {w:World} {base:Nat} {spare:Nat->Bool} {held:Bool}
theorem zpB {n:Nat} {cs:List Value} {x:DataW H×List MemPlace} (h:DataW.trod enc prog w base spare held n 62 cs=some x):∃ c:Col,xx.f c=cs/\(B c.1).length<=9223372036854775807:=by
 obtain⟨hl,m,hf⟩:=zjH (ts:=[9,3,4]) (by kernel_rfl) (by kernel_rfl) (by kernel_rfl) (by kernel_rfl) h;obtain⟨v0,y0,e0,h0⟩:=hf 0 _ rfl;obtain⟨v1,y1,e1,h1⟩:=hf 1 _ rfl;obtain⟨v2,y2,e2,h2⟩:=hf 2 _ rfl;obtain⟨s,hs,hsl⟩:=zbB (by kernel_rfl) h0;obtain⟨z,hz,hzw⟩:=za3 (k:=.i64) (by kernel_rfl) h1;obtain⟨b,hb⟩:=zma (by kernel_rfl) h2;cases hs;cases hz;cases hb;refine⟨(s,z,b),?_,by rw[<- yi];simpa [maxLen] using hsl⟩
 match cs,hl with
 |[a0,a1,a2],_=>
  simp only [List.getElem?_cons_zero,List.getElem?_cons_succ,Option.some.injEq]at e0 e1 e2;rw[e0,e1,e2];rfl
end
end V
/- Contracts of schema.Read and what goes with it. -/
namespace V
open Go Go.Proofs
theorem znn:jI prog 40 62 (.agg #[.string ByteArray.empty,.int .i64 0,.bool false]) xx.k 32:=by
 refine⟨by kernel_rfl,by kernel_rfl,rfl⟩
theorem zno:∀ x:Fin 256,iandn .u8 (x.val:Int) 128=((x.val % 128:Nat):Int):=by decide+kernel
theorem zpC:∀ x:Fin 256,((iand .u8 (x.val:Int) 128) !=0)=decide (128<=x.val):=by decide+kernel
def ki (s:List UInt8):Option (Col×List UInt8):=
 if s.length<2\/s.length-2<(s.getD 1 0).toNat then none
 else some ((⟨((s.drop 2).take (s.getD 1 0).toNat).toArray⟩,(((s.getD 0 0).toNat % 128:Nat):Int),decide (128<=(s.getD 0 0).toNat)),s.drop (2+(s.getD 1 0).toNat))
def xT:Nat->List UInt8->Option (List Col×List UInt8)
 |0,s=>some ([],s)
 |n+1,s=>match ki s with
  |none=>none
  |some (c,r)=>match xT n r with
   |none=>none
   |some (cs,r')=>some (c::cs,r')
def xU:List UInt8->Option (List Col×List UInt8)
 |[]=>none
 |b::r=>match xT b.toNat r with
  |none=>none
  |some (cs,r')=>if xd cs=0 then some (cs,r') else none
theorem zjI {n i:Nat} {r0 rest:List UInt8} {acc:List Col} (hi:i<n) {c:Col} {r:List UInt8} (hc:ki rest=some (c,r))
  (h:xT n r0=(xT (n-i) rest).map fun p=>(acc++p.1,p.2)):xT n r0=(xT (n-(i+1)) r).map fun p=>((acc++[c])++p.1,p.2):=by
 rw[h,show n-i=(n-(i+1))+1 by omega,xT,hc];simp only;cases xT (n-(i+1)) r with
 |none=>rfl
 |some p=>simp
theorem zjJ {n i:Nat} {r0 rest:List UInt8} {acc:List Col} (hi:i<n) (hc:ki rest=none)
  (h:xT n r0=(xT (n-i) rest).map fun p=>(acc++p.1,p.2)):xT n r0=none:=by
 rw[h,show n-i=(n-(i+1))+1 by omega,xT,hc];rfl
abbrev RdT:=SLC×ByteArray×Int×Unit
def zoc (w:World) (R:Option (List Col×List UInt8)) (x:RdT) (w':World):Prop:=
 (match R with
  |none=>x=((none,0,0),⟨#[]⟩,171,())
  |some (cs,r)=>Owni xx 62 w' w.heap.size x.1.1 x.1.2.1 x.1.2.2 cs/\x.2.1=⟨r.toArray⟩/\x.2.2.1=0)/\Ext w w'
def zqY:Option (Col×List UInt8)->(ByteArray×Int×Bool×Unit)×ByteArray×Bool×Unit
 |none=>((ByteArray.empty,0,false,()),⟨#[]⟩,false,())
 |some (c,r)=>((c.1,c.2.1,c.2.2,()),⟨r.toArray⟩,true,())
theorem zkU (w:World) (s:ByteArray) (hsmall:s.size<=9223372036854775807):Calls prog 157 #[.string s] w (Ret fun v w'=>v=Rs.val (.many [.agg [.str,.int .i64,.bool],.one .str,.one .bool]) (zqY (ki (B s)))/\Ext w w'):=by
 apply zmI;unfold S157;have hsz:=yi s;apply yJ;have hb:Blk (w.alloc (.cells #[(.string ByteArray.empty),(.int .i64 (0:Int)),(.bool false)] 62)) w.heap.size [(.string ByteArray.empty),(.int .i64 (0:Int)),(.bool false)] 62:=Blk.new w _ _;have he:Ext w (w.alloc (.cells #[(.string ByteArray.empty),(.int .i64 (0:Int)),(.bool false)] 62)):=(Ext.refl w).alloc _;have hB:w.heap.size<=w.heap.size:=Nat.le_refl _;generalize w.alloc (.cells #[(.string ByteArray.empty),(.int .i64 (0:Int)),(.bool false)] 62)=w1 at hb he ⊢;generalize hbk:w.heap.size=blk at hb hB ⊢;have put:∀ {K:(ByteArray×Int×Bool×Unit)->WP} {w2:World} (c:Col),Blk w2 blk [(.string ByteArray.empty),(.int .i64 (0:Int)),(.bool false)] 62->Ext w w2->(∀ w',Ext w w'->K (c.1,c.2.1,c.2.2,()) w')->
   (zc ((#[(.string c.1),(.int .i64 c.2.1),(.bool c.2.2)]:Array Value).size=3)<|
   zu (aD blk) [(.string c.1),(.int .i64 c.2.1),(.bool c.2.2)]<|
   zk [.str,(.int .i64),.bool] (aD blk) K) w2:=by
  intro K w2 c hb2 he2 hK;refine⟨rfl,hb2.qB _ 0 (by simp) (xx.one c),?_⟩;have hb3:=hb2.setCells [(.string c.1),(.int .i64 c.2.1),(.bool c.2.2)] rfl;exact za2 (ls:=[.str,(.int .i64),.bool]) (x:=(c.1,c.2.1,c.2.2,())) hb3 rfl (hK _ (he2.setCells (by rw[hbk];exact hB) _ _))
 refine zg (fun h=>?_) (fun h1=>?_)
 ·have hn:ki (B s)=none:=by
   have:=of_decide_eq_true h;unfold ki;rw[if_pos (.inl (by omega))]
  rw[hn];exact put (ByteArray.empty,0,false) hb he (fun w' he'=>⟨rfl,he'⟩)
 have h1:=of_decide_eq_false h1;refine⟨⟨by omega,by omega⟩,?_⟩;have hb1:bt s 1=(((B s).getD 1 0).toNat:Int):=by rw[zgH (by omega) (by omega)];rfl
 have hb0:bt s 0=(((B s).getD 0 0).toNat:Int):=by rw[zgH (by omega) (by omega)];rfl
 have hl1:=((B s).getD 1 0).toNat_lt;have hl0:=((B s).getD 0 0).toNat_lt;rw[hb1,hb0];rw[wrap_i64 (x:=(s.size:Int)-2) (by omega) (by omega),wrap_i64 (x:=(((B s).getD 1 0).toNat:Int)) (by omega) (by omega),wrap_i64 (x:=2+(((B s).getD 1 0).toNat:Int)) (by omega) (by omega)];refine zg (fun h2=>?_) (fun h2=>?_)
 ·have hn:ki (B s)=none:=by
   have:=of_decide_eq_true h2;unfold ki;rw[if_pos (.inr (by omega))]
  rw[hn];exact put (ByteArray.empty,0,false) hb he (fun w' he'=>⟨rfl,he'⟩)
 have h2:=of_decide_eq_false h2;refine⟨⟨by omega,by omega⟩,?_⟩;have he':=he.drew;have hb':=hb.drew;show(zc _ _) w1.drew;generalize w1.drew=w2 at he' hb' ⊢;refine⟨⟨by omega,by omega,by omega⟩,⟨by omega,by omega⟩,⟨by omega,by omega⟩,⟨by omega,by omega⟩,?_⟩;have hs:ki (B s)=some ((⟨(((B s).drop 2).take ((B s).getD 1 0).toNat).toArray⟩,((((B s).getD 0 0).toNat % 128:Nat):Int),decide (128<=((B s).getD 0 0).toNat)),(B s).drop (2+((B s).getD 1 0).toNat)):=by
  unfold ki;rw[if_neg (by omega)]
 rw[hs];have i1:=zno ⟨((B s).getD 0 0).toNat,hl0⟩;have i2:=zpC ⟨((B s).getD 0 0).toNat,hl0⟩;simp only at i1 i2;rw[i1,i2,wrap_i64 (x:=((((B s).getD 0 0).toNat % 128:Nat):Int)) (by omega) (by omega)];have ex1:s.extract (Int.toNat 2) (Int.toNat (2+(((B s).getD 1 0).toNat:Int)))=⟨(((B s).drop 2).take ((B s).getD 1 0).toNat).toArray⟩:=by
  apply kD;rw[jO,jN];congr 1;omega
 have ex2:s.extract (Int.toNat (2+(((B s).getD 1 0).toNat:Int))) s.size=⟨((B s).drop (2+((B s).getD 1 0).toNat)).toArray⟩:=by
  apply kD;rw[jO,show(2+(((B s).getD 1 0).toNat:Int)).toNat=2+((B s).getD 1 0).toNat by omega];show _=(B s).drop (2+((B s).getD 1 0).toNat);exact take_of_length_le (by simp;omega)
 rw[ex1,ex2];exact put (⟨(((B s).drop 2).take ((B s).getD 1 0).toNat).toArray⟩,((((B s).getD 0 0).toNat % 128:Nat):Int),decide (128<=((B s).getD 0 0).toNat)) hb' he' (fun w' he'=>⟨rfl,he'⟩)
def zeL (a b:Col):Bool:=decide (B a.1=B b.1)&&(a.2.1==b.2.1&&(a.2.2==b.2.2&&true))
theorem zf0 {a b:Col}:zeL a b=true↔a=b:=by
 unfold zeL;simp only [Bool.and_eq_true,decide_eq_true_eq,beq_iff_eq,and_true];constructor
 ·rintro⟨h1,h2,h3⟩;exact Prod.ext (kD h1) (Prod.ext h2 h3)
 ·rintro rfl;exact⟨rfl,rfl,rfl⟩
theorem zjK (w:World) (a b:Col):(Op.eqFields 9999 #[.string a.1,.int .i64 a.2.1,.bool a.2.2] #[.string b.1,.int .i64 b.2.1,.bool b.2.2] (prog.fieldsOf 62).toList).run prog w=.ok (zeL a b) w:=by
 have hf:(prog.fieldsOf 62).toList=[(prog.fieldsOf 62).getD 0 default,(prog.fieldsOf 62).getD 1 default,(prog.fieldsOf 62).getD 2 default]:=by kernel_rfl
 rw[hf];unfold zeL;rw[<- jA];refine qe (of_decide_eq_true (by kernel_rfl)) (a:=.string a.1) (b:=.string b.1) (by kernel_rfl) (by kernel_rfl) (run_equalIn_string w 9998 _ _ _ (by kernel_rfl)) ?_;refine qe (of_decide_eq_true (by kernel_rfl)) (a:=.int .i64 a.2.1) (b:=.int .i64 b.2.1) (by kernel_rfl) (by kernel_rfl) (run_equalIn_int w 9998 _ .i64 .i64 _ _ (by kernel_rfl)) ?_;refine qe (of_decide_eq_true (by kernel_rfl)) (a:=.bool a.2.2) (b:=.bool b.2.2) (by kernel_rfl) (by kernel_rfl) (run_equalIn_bool' w 9998 _ _ _ (by kernel_rfl)) ?_;rfl
theorem zpD (w:World) (a b:Col) (x y:Operand):(eqS .neq 62 x y (.agg #[.string a.1,.int .i64 a.2.1,.bool a.2.2]) (.agg #[.string b.1,.int .i64 b.2.1,.bool b.2.2])).run prog w=.ok (.bool (!(zeL a b))) w:=
 zfn (by kernel_rfl) (by kernel_rfl) (by kernel_rfl) (zjK w a b)
theorem zis {w:World} {s:ByteArray} (hsmall:s.size<=9223372036854775807):Calls prog 109 #[.string s] w (Ret fun v w'=>∃ x:RdT,v=Rs.val (.many [.one .slc,.one .str,.one (.int .i64)]) x/\zoc w (xU (B s)) x w'):=by
 apply zme;unfold S109;have hsz:=yi s;have none_:∀ {w'},xU (B s)=none->Ext w w'->∃ x:RdT,Value.tuple #[(.slice none 0 0),(.string (ByteArray.mk #[])),(.int .i64 (171:Int))]=Rs.val (.many [.one .slc,.one .str,.one (.int .i64)]) x/\zoc w (xU (B s)) x w':=fun {w'} h he=>⟨((none,0,0),⟨#[]⟩,171,()),rfl,by rw[h];exact⟨rfl,he⟩⟩;refine zg (fun h=>?_) (fun h=>?_)
 ·rw[jA]at h;have hB:B s=[]:=of_decide_eq_true h;exact none_ (by rw[hB];rfl) (Ext.refl w)
 rw[jA]at h;have hB:B s≠[]:=of_decide_eq_false h;obtain⟨b,r0,hs⟩:∃ b r0,B s=b::r0:=by
  cases hh:B s with
  |nil=>exact absurd hh hB
  |cons b r=>exact⟨b,r,rfl⟩
 have hl:(B s).length=r0.length+1:=by rw[hs];rfl
 have he0:Ext w w.drew:=(Ext.refl w).drew;show(zc _ _) w.drew;generalize w.drew=w0 at he0 ⊢;refine⟨⟨by omega,by omega⟩,⟨by omega,by omega⟩,?_⟩;have hb0:bt s 0=(b.toNat:Int):=by rw[zgH (by omega) (by omega),hs];rfl
 have hlt:=b.toNat_lt;rw[hb0,wrap_i64 (by omega) (by omega)];have ex:s.extract (Int.toNat 1) s.size=⟨r0.toArray⟩:=by
  apply kD;rw[jO,hs];show _=r0;exact take_of_length_le (by simp;omega)
 rw[ex];refine zw (fun x w'=>Ext w w'/\∃ (i:Nat) (acc:List Col) (rest:ByteArray) (A:Option Addr) (m c:Nat),i<=b.toNat/\x=((A,m,c),rest,(i:Int),())/\Owni xx 62 w' w.heap.size A m c acc/\acc.length=i/\rest.size<=9223372036854775807/\xT b.toNat r0=(xT (b.toNat-i) (B rest)).map fun p=>(acc++p.1,p.2))
  (fun x=>(b.toNat-x.2.2.1).toNat) ⟨he0,0,[],⟨r0.toArray⟩,none,0,0,by omega,rfl,Owni.nil _ _ _,rfl,by rw[yi,jN];omega,by rw[jN,Nat.sub_zero];cases xT b.toNat r0<;>simp⟩ ?_
 rintro _ w' ⟨he,i,acc,rest,A,m,c,hi,rfl,ho,hacc,hrs,hrd⟩;dsimp only;have hm:=ho.len
 by_cases hlt:i<b.toNat
 ·refine zf (decide_eq_true (by omega)) ?_;refine zb (zkU w' rest hrs) ?_;rintro _ w1 ⟨rfl,he1⟩;refine⟨_,rfl,?_⟩;cases hcol:ki (B rest) with
  |none=>
   refine yz (vs:=[(.string ByteArray.empty),(.int .i64 (0:Int)),(.bool false)]) (by rfl) (xx.one (ByteArray.empty,0,false)) ?_ (by rfl);intro r w2 hb he2 hr;refine zf (by rfl) ?_;refine none_ ?_ ((he.trans he1).trans he2);rw[hs,xU,zjJ hlt hcol hrd]
  |some p=>
   obtain⟨col,rest'⟩:=p;refine yz (vs:=[(.string col.1),(.int .i64 col.2.1),(.bool col.2.2)]) (by rfl) (xx.one col) ?_ (by rfl);intro r w2 hb he2 hr;refine zd (by rfl) ?_;refine za2 (ls:=[.str,(.int .i64),.bool]) (x:=(col.1,col.2.1,col.2.2,())) hb rfl ?_;have he02:=(he.trans he1).trans he2;refine yW (E:=xx) (ys:=[col]) (by rfl) rfl znn (ho.ext (he1.trans he2)) he02.size (by omega) (by omega) ?_;intro A3 c3 w3 ho3 hg3;dsimp only;rw[wrap_i64 (by omega) (by omega)];have hrl:rest'.length<=(B rest).length:=by
    unfold ki at hcol;split at hcol
    ·cases hcol
    ·injection hcol with hcol
     injection hcol with _ hcol
     rw[<- hcol];simp
   refine⟨⟨he02.grown hg3.grown (ho.ext (he1.trans he2)).row,i+1,acc++[col],⟨rest'.toArray⟩,A3,_,c3,by omega,rfl,ho3,by simp[hacc],?_,?_⟩,by omega⟩
   ·rw[yi,jN];have:=yi rest;omega
   ·rw[jN];exact zjI hlt hcol hrd
 ·obtain rfl:i=b.toNat:=by omega
  refine zd (decide_eq_false (by omega)) ?_;rw[Nat.sub_self]at hrd;have hrd2:xT b.toNat r0=some (acc,B rest):=by rw[hrd];simp[xT]
  refine zb (uS ho.sl (by have:=ho.le;omega)) ?_;rintro _ w1 ⟨rfl,he1⟩;refine⟨_,rfl,?_⟩;refine zg (fun hck=>?_) (fun hck=>?_)
  ·have hck:xd acc≠0:=by simpa using hck
   refine none_ ?_ (he.trans he1);rw[hs,xU,hrd2];simp only;rw[if_neg hck]
  ·have hck:xd acc=0:=by simpa using hck
   have hres:xU (B s)=some (acc,B rest):=by
    rw[hs,xU,hrd2];simp only;rw[if_pos hck]
   refine⟨((A,m,c),rest,0,()),rfl,?_⟩;rw[hres];exact⟨⟨ho.ext he1,rfl,rfl⟩,he.trans he1⟩
end V
/- Columns:plain;what is read of what was put (as in seat 17's L2). -/
namespace V
open Go Go.Proofs
theorem zkV {c:Col} (h:zbE c):(xZ c).toNat=c.2.1.toNat+(if c.2.2 then 128 else 0):=by
 obtain⟨_,h1,h2⟩:=h;unfold xZ;cases hc:c.2.2 with
 |true=>rw[if_pos rfl,if_pos rfl,UInt8.toNat_ofNat'];omega
 |false=>rw[if_neg (by simp),if_neg (by simp),UInt8.toNat_ofNat'];omega
theorem zkW {c:Col} (h:zbE c) (t:List UInt8):ki (jQ c++t)=some (c,t):=by
 have hn:=qJ h.1;have hk:=zkV h;obtain⟨_,h1,h2⟩:=h;have hlen:(UInt8.ofNat (B c.1).length).toNat=(B c.1).length:=by rw[UInt8.toNat_ofNat'];omega
 have e:jQ c++t=xZ c::UInt8.ofNat (B c.1).length::(B c.1++t):=by simp[jQ]
 rw[e];unfold ki;have g0:(xZ c::UInt8.ofNat (B c.1).length::(B c.1++t)).getD 0 0=xZ c:=rfl;have g1:(xZ c::UInt8.ofNat (B c.1).length::(B c.1++t)).getD 1 0=UInt8.ofNat (B c.1).length:=rfl;rw[g0,g1,hlen,hk,if_neg (by simp)];congr 1;refine Prod.ext (Prod.ext ?_ (Prod.ext ?_ ?_)) ?_
 ·apply kD;show((B c.1++t).take (B c.1).length)=B c.1;simp
 ·show((((c.2.1.toNat+if c.2.2 then 128 else 0) % 128:Nat)):Int)=c.2.1;split<;>omega
 ·show decide (128<=c.2.1.toNat+if c.2.2 then 128 else 0)=c.2.2;cases hc:c.2.2
  ·rw[if_neg (by simp),decide_eq_false (by omega)]
  ·rw[if_pos rfl,decide_eq_true (by omega)]
 ·show(xZ c::UInt8.ofNat (B c.1).length::(B c.1++t)).drop (2+(B c.1).length)=t;rw[Nat.add_comm];show(B c.1++t).drop (B c.1).length=t;simp
theorem zeM:∀ {cs:List Col},(∀ c∈cs,zbE c)->∀ t,xT cs.length (cs.flatMap jQ++t)=some (cs,t)
 |[],_,t=>rfl
 |c::r,h,t=>by
  rw[length_cons,flatMap_cons,append_assoc,xT,zkW (h c mem_cons_self)];simp only;rw[zeM (fun d hd=>h d (mem_cons_of_mem _ hd)) t]
theorem zit {cs:List Col} (h:xd cs=0) (t:List UInt8):xU (xo cs++t)=some (cs,t):=by
 obtain⟨hlen,_,hok⟩:=zao h;have hl:(UInt8.ofNat cs.length).toNat=cs.length:=by rw[UInt8.toNat_ofNat'];omega
 unfold xo;rw[List.cons_append,xU,hl,zeM hok t];simp only;rw[if_pos h]
theorem zkX {s:List UInt8} {c:Col} {r:List UInt8} (h:ki s=some (c,r)):jQ c++r=s:=by
 unfold ki at h;split at h
 ·cases h
 rename_i h0
 match s,h0 with
 |[],h0=>exact absurd (.inl (by simp)) h0
 |[a],h0=>exact absurd (.inl (by simp)) h0
 |a::b::q,h0=>
  injection h with h
  injection h with h1 h2
  subst h1 h2;have g0:(a::b::q).getD 0 0=a:=rfl;have g1:(a::b::q).getD 1 0=b:=rfl;rw[g1]at h0;rw[g0,g1];have hb:=b.toNat_lt;have ha:=a.toNat_lt;have hle:b.toNat<=q.length:=by
   have:(a::b::q).length=q.length+2:=rfl;omega
  have e1:B (⟨(((a::b::q).drop 2).take b.toNat).toArray⟩:ByteArray)=q.take b.toNat:=rfl;unfold jQ;simp only [e1];have e2:(q.take b.toNat).length=b.toNat:=by simp;omega
  have e3:UInt8.ofNat (q.take b.toNat).length=b:=by rw[e2];apply UInt8.toNat_inj.1;rw[UInt8.toNat_ofNat'];omega
  rw[e3];have e4:xZ ((⟨(((a::b::q).drop 2).take b.toNat).toArray⟩,((a.toNat % 128:Nat):Int),decide (128<=a.toNat)):Col)=a:=by
   unfold xZ;simp only;apply UInt8.toNat_inj.1;split<;>rename_i hh
   ·have:=of_decide_eq_true hh;rw[UInt8.toNat_ofNat',Int.toNat_natCast];omega
   ·have:=of_decide_eq_false (Bool.eq_false_iff.2 hh);rw[UInt8.toNat_ofNat',Int.toNat_natCast];omega
  rw[e4];have e5:(a::b::q).drop (2+b.toNat)=q.drop b.toNat:=by rw[Nat.add_comm];rfl
  rw[e5];simp
theorem zf1:∀ {n:Nat} {s:List UInt8} {cs:List Col} {r:List UInt8},xT n s=some (cs,r)->cs.length=n/\cs.flatMap jQ++r=s
 |0,s,cs,r,h=>by
  injection h with h;injection h with h1 h2;subst h1 h2;exact⟨rfl,rfl⟩
 |n+1,s,cs,r,h=>by
  unfold xT at h;split at h
  ·cases h
  rename_i c q hc;split at h
  ·cases h
  rename_i cs' r' hr;injection h with h;injection h with h1 h2;subst h1 h2
  obtain⟨h3,h4⟩:=zf1 hr;refine⟨by simp[h3],?_⟩;rw[flatMap_cons,append_assoc,h4];exact zkX hc
theorem zkY {s:List UInt8} {cs:List Col} {r:List UInt8} (h:xU s=some (cs,r)):xd cs=0/\xo cs++r=s:=by
 cases s with
 |nil=>cases h
 |cons b q=>
  rw[xU]at h;cases hr:xT b.toNat q with
  |none=>rw[hr]at h;cases h
  |some p=>
   obtain⟨cs',r'⟩:=p;rw[hr]at h;simp only at h
   by_cases hc:xd cs'=0
   ·rw[if_pos hc]at h;injection h with h;injection h with h1 h2;subst h1 h2
    obtain⟨h3,h4⟩:=zf1 hr;refine⟨hc,?_⟩;unfold xo;rw[h3,List.cons_append,h4];congr 1;apply UInt8.toNat_inj.1;have:=b.toNat_lt;rw[UInt8.toNat_ofNat'];omega
   ·rw[if_neg hc]at h;cases h
theorem zcb {cs:List Col} (h:xd cs=0):1<=(xo cs).length/\(xo cs).length<=600:=by
 obtain⟨hlen,_,hok⟩:=zao h;have h1:=zaF hok;have:=Nat.mul_le_mul_right 34 hlen.2;simp only [xo,length_cons];omega
theorem zgt {cs:List Col} (h:jP cs=true):cs.length<=20:=by
 unfold jP at h;rw[Bool.and_eq_true]at h;exact of_decide_eq_true h.1
end V
/- Writing in place:appends within a row's room,copies. -/
namespace V
open Go Go.RowKit
theorem za6 (b o:Nat):∀ (vs:List Value) (i:Nat) (w:World),setCells w ⟨b,o,none⟩ i vs=setCells w ⟨b,0,none⟩ (o+i) vs
 |[],_,_=>rfl
 |v::r,i,w=>by
  simp only [setCells,zC,Nat.zero_add];rw[za6 b o r (i+1)];rfl
theorem za7 (b o:Nat):∀ (vs:List Value) (i:Nat) (w:World),Storable w ⟨b,0,none⟩ (o+i) vs->Storable w ⟨b,o,none⟩ i vs
 |[],_,_,_=>trivial
 |v::r,i,w,h=>by
  simp only [Storable,zC,Nat.zero_add]at h ⊢;exact⟨h.1,h.2.1,h.2.2.1,za7 b o r (i+1) w h.2.2.2⟩
theorem za8 (b:Nat):∀ (vs:List Value) (i o:Nat) (w:World) (k:Nat),k≠b->(setCells w ⟨b,o,none⟩ i vs).heap[k]?=w.heap[k]?
 |[],_,_,_,_,_=>rfl
 |v::r,i,o,w,k,h=>by
  simp only [setCells];rw[za8 b r (i+1) o _ k h,Below.heap_setCell _ _ _ _ (by rw[zC];exact h)]
theorem zcc (b:Nat):∀ (vs:List Value) (i o:Nat) (w:World),(setCells w ⟨b,o,none⟩ i vs).heap.size=w.heap.size
 |[],_,_,_=>rfl
 |v::r,i,o,w=>by
  simp only [setCells];rw[zcc b r (i+1) o _];simp
theorem zcd (b:Nat):∀ (vs:List Value) (i o:Nat) (w:World),(setCells w ⟨b,o,none⟩ i vs).os=w.os/\(setCells w ⟨b,o,none⟩ i vs).tape=w.tape/\(setCells w ⟨b,o,none⟩ i vs).output=w.output
 |[],_,_,_=>⟨rfl,rfl,rfl⟩
 |v::r,i,o,w=>zcd b r (i+1) o _
theorem zfp {w:World} {b o:Nat} {cs vs:List Value} {t:TypeId} (h:Blk w b cs t) (hl:o+vs.length<=cs.length) (hv:∀ v∈vs,v.oneCell'=true):
  Storable w ⟨b,o,none⟩ 0 vs/\Blk (setCells w ⟨b,o,none⟩ 0 vs) b (cs.take o++vs++cs.drop (o+vs.length)) t/\w.grownBy (setCells w ⟨b,o,none⟩ 0 vs) (some b):=by
 refine⟨za7 b o vs 0 w (h.qB vs o hl hv),?_,?_⟩
 ·rw[za6];exact Blk.uh vs o w cs h hl
 ·obtain⟨m1,m2,m3⟩:=zcd b vs 0 o w;exact⟨m1,m2,m3,by rw[zcc];exact Nat.le_refl _,fun k hk hne=>za8 b vs 0 o w k (fun e=>hne (by rw[e]))⟩
section
variable {P:Program} {t e:TypeId} {z:Value} {bytes:Nat}
theorem zjL {w:World} {b o n c m d:Nat} {ty t2:TypeId} {X:Option Addr} {cs ys:List Value} {K:SLC->WP} (hE:Elem P t e z bytes) (hb:Blk w b cs t2) (ho:o+c<=cs.length) (hn:n+m<=c)
  (hx:Sl w X m ys) (hys:∀ y∈ys,y.oneCell'=true)
  (hK:∀ w',Blk w' b (cs.take (o+n)++ys++cs.drop (o+n+m)) t2->w.grownBy w' (some b)->K (some ⟨b,o,none⟩,n+m,c) w'):
  zy P (Builtin.append_ #[t,t] ty #[.slice (some ⟨b,o,none⟩) n c,.slice X m d]) .slc K w:=by
 obtain⟨ht,hi,hz⟩:=hE;obtain⟨i,hi,hii⟩:=Option.map_eq_some_iff.1 hi;simp only [Prod.mk.injEq]at hii;obtain⟨hz0,hz1,hz2⟩:=hii;have hl:=hx.len;obtain⟨hst,hbl,hg⟩:=zfp hb (o:=o+n) (vs:=ys) (by omega) hys;rw[hl]at hbl;cases X with
 |none=>
  obtain rfl:m=0:=by
   rcases Nat.eq_zero_or_pos m with h|h
   ·exact h
   ·obtain⟨a,h1,_⟩:=hx.2.2 h;cases h1
  obtain rfl:ys=[]:=eq_nil_of_length_eq_zero hl;refine⟨(some ⟨b,o,none⟩,n,c),w,?_,hK w (by simpa using hb) (xJ _ _)⟩;simp[Builtin.append_,run_underlying ht,sizeOf,typeInfo,hi,Builtin.lenOf,Builtin.firstCells,show n<=c by omega,storeCells];rfl
 |some a=>
  have hcells:∀ j u,ys[j]?=some u->w.cell? (a.add j)=some u:=(fun j u hj=>by
    rcases Nat.eq_zero_or_pos m with h|h
    ·have:j<ys.length:=(List.getElem?_eq_some_iff.1 hj).1
     omega
    ·obtain⟨a',h1,h2⟩:=hx.2.2 h
     cases h1
     exact h2 j u hj)
  have hload:=run_loadCells_list (P:=P) w a ys hcells;have hstore:=vA (P:=P) hst;refine⟨(some ⟨b,o,none⟩,n+m,c),_,?_,hK _ hbl hg⟩;rw[hl]at hload;simp[Builtin.append_,run_underlying ht,sizeOf,typeInfo,hi,hz1,Builtin.lenOf,Builtin.firstCells,hn,hload,zC,hstore];rfl
theorem zce {w:World} {b o n c:Nat} {ty t2:TypeId} {cs ys:List Value} {K:SLC->WP} (hE:Elem P t e z bytes) (hb:Blk w b cs t2) (ho:o+c<=cs.length) (hn:n+ys.length<=c) (hc:c<=9223372036854775807)
  (hys:∀ y∈ys,y.oneCell'=true)
  (hK:∀ w',Blk w' b (cs.take (o+n)++ys++cs.drop (o+n+ys.length)) t2->w.grownBy w' (some b)->K (some ⟨b,o,none⟩,n+ys.length,c) w'):
  (zi (.cells ys.toArray e) fun r=>zy P (Builtin.append_ #[t,t] ty #[.slice (some ⟨b,o,none⟩) n c,.slice (some (aD r)) ys.length ys.length]) .slc K) w:=by
 refine zq fun r w1 hr he _ _=>?_;refine zjL hE (hb.ext he) ho hn (Sl.xC hr rfl (by omega)) hys fun w' hb' hg=>hK w' hb' ?_;exact xg (xX he _) hg (fun j hj=>.inl hj)
theorem znp {w:World} {b o n c:Nat} {ty u t2:TypeId} {cs:List Value} {s:ByteArray} {K:Int->WP} (hE:Elem P t e z bytes) (hb:Blk w b cs t2) (ho:o+n<=cs.length)
  (hK:∀ w',Blk w' b (cs.take o++bV ((B s).take n)++cs.drop (o+min (B s).length n)) t2->w.grownBy w' (some b)->K ((min (B s).length n:Nat):Int) w'):
  zy P (Builtin.copy_ #[t,u] ty #[.slice (some ⟨b,o,none⟩) n c,.string s]) (.int .i64) K w:=by
 obtain⟨ht,hi,hz⟩:=hE;obtain⟨i,hi,hii⟩:=Option.map_eq_some_iff.1 hi;simp only [Prod.mk.injEq]at hii;obtain⟨hz0,hz1,hz2⟩:=hii;have hsz:=yi s;have hlen:(bV ((B s).take n)).length=min (B s).length n:=by rw[yX,length_take,Nat.min_comm]
 obtain⟨hst,hbl,hg⟩:=zfp hb (o:=o) (vs:=bV ((B s).take n)) (by rw[hlen];omega) (za1 _);rw[hlen]at hbl;have hstore:=vA (P:=P) hst;have e1:List.take (if s.size<=n then s.size else n) (List.map (fun b=>Value.int IntKind.u8 (b.toNat:Int)) s.data.toList)=bV ((B s).take n):=by
  rw[<- Nat.min_def,hsz];show List.take _ (bV (B s))=_;rw[jf];congr 1;rcases Nat.le_total (B s).length n with h|h
  ·rw[Nat.min_eq_left h,List.take_length,take_of_length_le h]
  ·rw[Nat.min_eq_right h]
 refine⟨((min (B s).length n:Nat):Int),_,?_,hK _ hbl hg⟩;rw[<- hsz];simp[Builtin.copy_,run_underlying ht,sizeOf,typeInfo,hi,Builtin.lenOf,Builtin.firstCells,hstore,goInt,Nat.min_def,Lf.val];rw[e1,hstore];rfl
end
theorem zeN (pre new:List UInt8) (k:Nat) (h:new.length<=k):(pre++List.replicate k (0:UInt8)).take pre.length++new++(pre++List.replicate k (0:UInt8)).drop (pre.length+new.length)=(pre++new)++List.replicate (k-new.length) 0:=by
 rw[List.take_left,List.drop_append];simp[drop_of_length_le]
end V
/- Geometries,rooms:contracts. -/
namespace V
open Go Go.Proofs Go.RowKit
def yc (size blocks:Int):Bool:=decide (128<=size/\size<=4096/\Int.tmod size 64=0/\8<=blocks/\blocks<=4096)
theorem qt (w:World) (size blocks:Int):Calls prog 111 #[.agg #[.int .i64 size,.int .i64 blocks]] w (Ret fun v w'=>v=.int .i64 (if yc size blocks then 0 else 2)/\Ext w w'):=by
 apply zmg;unfold S111;apply yJ;have hb:Blk (w.alloc (.cells #[(.int .i64 size),(.int .i64 blocks)] 72)) w.heap.size [(.int .i64 size),(.int .i64 blocks)] 72:=Blk.new w _ _;have he:Ext w (w.alloc (.cells #[(.int .i64 size),(.int .i64 blocks)] 72)):=(Ext.refl w).alloc _;generalize w.alloc (.cells #[(.int .i64 size),(.int .i64 blocks)] 72)=w1 at hb he ⊢;have bad:¬(128<=size/\size<=4096/\Int.tmod size 64=0/\8<=blocks/\blocks<=4096)->(Value.int .i64 2=.int .i64 (if yc size blocks then 0 else 2)/\Ext w w1):=fun h=>by
  unfold yc;rw[decide_eq_false h];exact⟨rfl,he⟩
 refine zl hb (by rfl) ?_;refine zg (fun h=>bad (by have:=of_decide_eq_true h;omega)) (fun h1=>?_);refine zl hb (by rfl) ?_;refine zg (fun h=>bad (by have:=of_decide_eq_true h;omega)) (fun h2=>?_);refine zl hb (by rfl) ?_;refine zg (fun h=>bad (by rw[bne_iff_ne]at h;exact fun hh=>h hh.2.2.1)) (fun h3=>?_);refine yK (o:=1) hb (by rfl) ?_;refine zg (fun h=>bad (by have:=of_decide_eq_true h;omega)) (fun h4=>?_);refine yK (o:=1) hb (by rfl) ?_;refine zg (fun h=>bad (by have:=of_decide_eq_true h;omega)) (fun h5=>?_);have h1:=of_decide_eq_false h1;have h2:=of_decide_eq_false h2;have h3:Int.tmod size 64=0:=by simpa using h3
 have h4:=of_decide_eq_false h4;have h5:=of_decide_eq_false h5;unfold yc;rw[decide_eq_true ⟨by omega,by omega,h3,by omega,by omega⟩];exact⟨rfl,he⟩
def zI (size:Int):Int:=if yc size 8 then size-16 else 0
theorem jq (w:World) (size:Int):Calls prog 121 #[.int .i64 size] w (Ret fun v w'=>v=.int .i64 (zI size)/\Ext w w'):=by
 apply zmo;unfold S121 zI;refine zb (qt w size 8) ?_;rintro _ w1 ⟨rfl,he⟩;refine⟨_,rfl,?_⟩;cases hok:yc size 8 with
 |false=>exact zf (by rfl) ⟨rfl,he⟩
 |true=>
  refine zd (by rfl) ⟨?_,he⟩;unfold yc at hok;have hok:=of_decide_eq_true hok;rw[wrap_i64 (x:=size-12) (by omega) (by omega),wrap_i64 (by omega) (by omega),if_pos rfl];congr 1;omega
end V
/- Iterators:slices.Chunk's and slices.Backward's inner functions,told of any program. -/
namespace V
open Go
def zkZ (P:Program) (z:Nat) (x0:Value) (a1:Addr) (a2:Addr) (K:Value->WP):WP:=
 zz (Int×Unit) ((0:Int),()) fun(y2:Int×Unit) (I1:(Int×Unit)->WP)=>
 ldW .slc a1 fun(u3:SLC)=>
 za (decide (y2.1<((u3.2.1:Nat):Int))) (zB<|
 ldW (.int .i64) a2 fun(u4:Int)=>
 ldW .slc a1 fun(u5:SLC)=>
 zc (0<=y2.1/\y2.1<=((u5.2.1:Nat):Int))<|
 ldW .slc a1 fun(u6:SLC)=>
 zc (0<=y2.1/\y2.1<=(wrap .i64 (y2.1+(if (((u5.2.1-(Int.toNat y2.1)):Nat):Int)<u4 then (((u5.2.1-(Int.toNat y2.1)):Nat):Int) else u4)))/\(wrap .i64 (y2.1+(if (((u5.2.1-(Int.toNat y2.1)):Nat):Int)<u4 then (((u5.2.1-(Int.toNat y2.1)):Nat):Int) else u4)))<=(wrap .i64 (y2.1+(if (((u5.2.1-(Int.toNat y2.1)):Nat):Int)<u4 then (((u5.2.1-(Int.toNat y2.1)):Nat):Int) else u4)))/\(wrap .i64 (y2.1+(if (((u5.2.1-(Int.toNat y2.1)):Nat):Int)<u4 then (((u5.2.1-(Int.toNat y2.1)):Nat):Int) else u4)))<=((u6.2.2:Nat):Int))<|
 yw P x0 [(.slice (zo u6.1 (Int.toNat y2.1) (Int.toNat (wrap .i64 (y2.1+(if (((u5.2.1-(Int.toNat y2.1)):Nat):Int)<u4 then (((u5.2.1-(Int.toNat y2.1)):Nat):Int) else u4)))) z) ((Int.toNat (wrap .i64 (y2.1+(if (((u5.2.1-(Int.toNat y2.1)):Nat):Int)<u4 then (((u5.2.1-(Int.toNat y2.1)):Nat):Int) else u4))))-(Int.toNat y2.1)) ((Int.toNat (wrap .i64 (y2.1+(if (((u5.2.1-(Int.toNat y2.1)):Nat):Int)<u4 then (((u5.2.1-(Int.toNat y2.1)):Nat):Int) else u4))))-(Int.toNat y2.1)))] (.one (.one .bool)) fun(u7:Bool)=>
 za (!u7) (K (.tuple #[]))<|
 ldW (.int .i64) a2 fun(u8:Int)=>I1 ((wrap .i64 (y2.1+u8)),()))<|K (.tuple #[])
def yt (n k:Nat):Nat:=(n+k-1) / k
theorem uT {n k i:Nat} (hk:1<=k):i<yt n k↔i*k<n:=by
 unfold yt;rw[Nat.lt_iff_add_one_le,Nat.le_div_iff_mul_le (by omega),Nat.succ_mul];omega
def qy (z:Nat) (A:Option Addr) (n k:Nat):List (List Value):=(List.range (yt n k)).map fun i=>[.slice (zo A (i*k) (i*k+min k (n-i*k)) z) (min k (n-i*k)) (min k (n-i*k))]
theorem xM (z:Nat) (A:Option Addr) (n k:Nat):(qy z A n k).length=yt n k:=by simp[qy]
theorem zbF {P:Program} {z r1 r2 l n c k:Nat} {A:Option Addr} {t1 t2:TypeId} {J:Nat->WP} {w:World} (hk:1<=k) (hnc:n<=c) (hnk:n+k<=9223372036854775807) (h0:J 0 w)
  (hR:∀ i w',J i w'->Blk w' r1 [.slice A n c] t1/\Blk w' r2 [.int .i64 (k:Int)] t2) (hd:∀ i w',J i w'->J i w'.drew)
  (hY:∀ i w' (h:i<(qy z A n k).length),J i w'->ja P l (qy z A n k)[i] w' fun v w''=>v=.bool true/\J (i+1) w''):
  zkZ P z (.func (.yield l) #[] #[]) ⟨r1,0,none⟩ ⟨r2,0,none⟩ (fun _ w'=>J (qy z A n k).length w') w:=by
 unfold zkZ;rw[xM];refine zw (fun y w'=>∃ i:Nat,i<=yt n k/\y=(((i*k:Nat):Int),())/\J i w') (fun y=>((n:Int)+k-y.1).toNat) ⟨0,by omega,by simp,h0⟩ ?_;rintro _ w' ⟨i,hi,rfl,hJ⟩;dsimp only;obtain⟨h1,h2⟩:=hR i w' hJ;refine zl (x:=(A,n,c)) h1 (by rfl) ?_;dsimp only
 by_cases hlt:i*k<n
 ·refine zf (decide_eq_true (by omega)) ?_;have hJ':=hd i w' hJ;obtain⟨h1,h2⟩:=hR i _ hJ';show(ldW _ _ _) w'.drew;generalize w'.drew=w1 at hJ' h1 h2 ⊢;refine zl (x:=(k:Int)) h2 (by rfl) ?_;refine zl (x:=(A,n,c)) h1 (by rfl) ?_;dsimp only;refine⟨⟨by omega,by omega⟩,?_⟩;refine zl (x:=(A,n,c)) h1 (by rfl) ?_;dsimp only;have e:wrap .i64 (((i*k:Nat):Int)+(if (((n-Int.toNat ((i*k:Nat):Int)):Nat):Int)<(k:Int) then (((n-Int.toNat ((i*k:Nat):Int)):Nat):Int) else (k:Int)))=((i*k+min k (n-i*k):Nat):Int):=by
   rw[Int.toNat_natCast];generalize i*k=m at hlt ⊢;split<;>rw[wrap_i64 (by omega) (by omega)]<;>omega
  rw[e];refine⟨⟨by omega,by omega,by omega,by omega⟩,?_⟩;rw[Int.toNat_natCast,Int.toNat_natCast,Nat.add_sub_cancel_left];have hlt':i<(qy z A n k).length:=by rw[xM];exact(uT hk).2 hlt
  refine .inr ⟨l,rfl,?_⟩;have hy:=hY i w1 hlt' hJ';have el:(qy z A n k)[i]=[.slice (zo A (i*k) (i*k+min k (n-i*k)) z) (min k (n-i*k)) (min k (n-i*k))]:=by simp[qy]
  rw[el]at hy;obtain⟨fn,tmps,asg,bd,hy1,hy2⟩:=hy;refine⟨fn,tmps,asg,bd,hy1,RoundIn.mono hy2 ?_⟩;rintro(v|x|_) w2 hv
  ·obtain⟨rfl,hJ2⟩:=hv;refine⟨true,rfl,?_⟩;refine zd (by rfl) ?_;obtain⟨h1,h2⟩:=hR _ _ hJ2;refine zl (x:=(k:Int)) h2 (by rfl) ?_;rw[wrap_i64 (by omega) (by omega)];refine⟨⟨i+1,by rw[xM]at hlt';omega,by rw[Nat.succ_mul];rfl,hJ2⟩,?_⟩;generalize i*k=m at hlt ⊢;omega
  ·exact hv
  ·exact hv
 ·refine zd (decide_eq_false (by omega)) ?_;have:i=yt n k:=by
   rcases Nat.lt_or_ge i (yt n k) with h|h
   ·exact absurd ((uT hk).1 h) hlt
   ·omega
  subst this;exact hJ
def zod (P:Program) (x0:Value) (a1:Addr) (K:Value->WP):WP:=
 ldW .slc a1 fun(u1:SLC)=>
 zz (Int×Unit) ((wrap .i64 (((u1.2.1:Nat):Int)-(1:Int))),()) fun(y3:Int×Unit) (I2:(Int×Unit)->WP)=>
 za (decide (y3.1>=(0:Int))) (ldW .slc a1 fun(u4:SLC)=>
 zc (0<=y3.1/\y3.1<((u4.2.1:Nat):Int))<|
 zh u4.1 fun(p5:Addr)=>
 ldW (.int .u8) (p5.add (Int.toNat y3.1*1)) fun(u6:Int)=>
 yw P x0 [(.int .i64 y3.1),(.int .u8 u6)] (.one (.one .bool)) fun(u7:Bool)=>
 za (!u7) (K (.tuple #[]))<|I2 ((wrap .i64 (y3.1-(1:Int))),()))<|K (.tuple #[])
def vQ (bs:List UInt8):List (List Value):=(List.range bs.length).map fun i=>[.int .i64 ((bs.length-1-i:Nat):Int),.int .u8 ((bs.getD (bs.length-1-i) 0).toNat:Int)]
theorem vg (bs:List UInt8):(vQ bs).length=bs.length:=by simp[vQ]
theorem zk0 {P:Program} {r1 l n c:Nat} {A:Option Addr} {bs:List UInt8} {t1:TypeId} {J:Nat->WP} {w:World} (h0:J 0 w)
  (hR:∀ i w',J i w'->Blk w' r1 [.slice A n c] t1/\Sl w' A n (bV bs))
  (hY:∀ i w' (h:i<(vQ bs).length),J i w'->ja P l (vQ bs)[i] w' fun v w''=>v=.bool true/\J (i+1) w''):
  zod P (.func (.yield l) #[] #[]) ⟨r1,0,none⟩ (fun _ w'=>J (vQ bs).length w') w:=by
 unfold zod;rw[vg];obtain⟨h1,h2⟩:=hR 0 w h0;have hl:=h2.blen;have hle:=h2.le;refine zl (x:=(A,n,c)) h1 (by rfl) ?_;dsimp only;rw[wrap_i64 (by omega) (by omega)];refine zw (fun y w'=>∃ i:Nat,i<=n/\y=((n:Int)-1-i,())/\J i w') (fun y=>(y.1+1).toNat) ⟨0,by omega,by simp,h0⟩ ?_;rintro _ w' ⟨i,hi,rfl,hJ⟩;dsimp only
 by_cases hlt:i<n
 ·refine zf (decide_eq_true (by omega)) ?_;obtain⟨h1,h2⟩:=hR i w' hJ;refine zl (x:=(A,n,c)) h1 (by rfl) ?_;dsimp only;refine zg5 h2 (by omega) (by omega) ?_;have hlt':i<(vQ bs).length:=by rw[vg];omega
  refine .inr ⟨l,rfl,?_⟩;have hy:=hY i w' hlt' hJ;have el:(vQ bs)[i]=[.int .i64 ((n:Int)-1-i),.int .u8 ((bs.getD (Int.toNat ((n:Int)-1-i)) 0).toNat:Int)]:=by
   have e1:((bs.length-1-i:Nat):Int)=(n:Int)-1-i:=by omega
   have e2:Int.toNat ((n:Int)-1-i)=bs.length-1-i:=by omega
   rw[e2,<- e1];simp[vQ]
  rw[el]at hy;obtain⟨fn,tmps,asg,bd,hy1,hy2⟩:=hy;refine⟨fn,tmps,asg,bd,hy1,RoundIn.mono hy2 ?_⟩;rintro(v|x|_) w2 hv
  ·obtain⟨rfl,hJ2⟩:=hv;refine⟨true,rfl,?_⟩;refine zd (by rfl) ?_;rw[wrap_i64 (by omega) (by omega)];exact⟨⟨i+1,by omega,by congr 1;omega,hJ2⟩,by omega⟩
  ·exact hv
  ·exact hv
 ·refine zd (decide_eq_false (by omega)) ?_;obtain rfl:i=bs.length:=by omega
  exact hJ
end V
/- Contracts of slices.Chunk,slices.Backward,octet.Of,octet.Put. -/
namespace V
open Go Go.Proofs Go.RowKit
def zda (r1 r2:Nat) (A:Option Addr) (n c k:Nat):WP:=fun w=>Blk w r1 [.slice A n c] 85/\Blk w r2 [.int .i64 (k:Int)] 3
theorem zhh {w:World} {A:Option Addr} {n c k:Nat} (hk:1<=k) (hnc:n<=c) (hnk:n+k<=9223372036854775807):Calls prog 222 #[.slice A n c,.int .i64 (k:Int)] w (Ret fun v w'=>Iter prog v (qy 1 A n k) (zda w.heap.size (w.heap.size+1) A n c k)/\zda w.heap.size (w.heap.size+1) A n c k w'/\w'.heap.size=w.heap.size+2/\Ext w w'):=by
 apply znk;unfold S222;apply yJ;have h1:=Blk.new w #[.slice A n c] 85;have he:=(Ext.refl w).alloc (.cells #[.slice A n c] 85);have hs:(w.alloc (.cells #[.slice A n c] 85)).heap.size=w.heap.size+1:=by simp
 generalize w.alloc (.cells #[.slice A n c] 85)=w1 at h1 he hs ⊢;apply yJ;have h2:=Blk.new w1 #[.int .i64 (k:Int)] 3;have h1:=h1.alloc (.cells #[.int .i64 (k:Int)] 3);have he:=he.alloc (.cells #[.int .i64 (k:Int)] 3);have hs2:(w1.alloc (.cells #[.int .i64 (k:Int)] 3)).heap.size=w.heap.size+2:=by simp[hs]
 generalize w1.alloc (.cells #[.int .i64 (k:Int)] 3)=w2 at h1 h2 he hs2 ⊢;rw[hs]at h2 ⊢;refine zl (x:=(k:Int)) h2 (by rfl) ?_;refine zd (decide_eq_false (by omega)) ?_;refine⟨⟨_,_,rfl,by kernel_rfl,fun l J w' hJ hR hd hY=>?_⟩,⟨h1,h2⟩,hs2,he⟩;apply znm;exact zbF (P:=prog) hk hnc hnk hJ hR hd hY
def zbG (r1 r2:Nat) (A:Option Addr) (n c k:Nat):WP:=fun w=>Blk w r1 [.slice A n c] 191/\Blk w r2 [.int .i64 (k:Int)] 3
theorem zgu {w:World} {A:Option Addr} {n c k:Nat} (hk:1<=k) (hnc:n<=c) (hnk:n+k<=9223372036854775807):Calls prog 181 #[.slice A n c,.int .i64 (k:Int)] w (Ret fun v w'=>Iter prog v (qy 1 A n k) (zbG w.heap.size (w.heap.size+1) A n c k)/\zbG w.heap.size (w.heap.size+1) A n c k w'/\w'.heap.size=w.heap.size+2/\Ext w w'):=by
 apply zm2;unfold S181;apply yJ;have h1:=Blk.new w #[.slice A n c] 191;have he:=(Ext.refl w).alloc (.cells #[.slice A n c] 191);have hs:(w.alloc (.cells #[.slice A n c] 191)).heap.size=w.heap.size+1:=by simp
 generalize w.alloc (.cells #[.slice A n c] 191)=w1 at h1 he hs ⊢;apply yJ;have h2:=Blk.new w1 #[.int .i64 (k:Int)] 3;have h1:=h1.alloc (.cells #[.int .i64 (k:Int)] 3);have he:=he.alloc (.cells #[.int .i64 (k:Int)] 3);have hs2:(w1.alloc (.cells #[.int .i64 (k:Int)] 3)).heap.size=w.heap.size+2:=by simp[hs]
 generalize w1.alloc (.cells #[.int .i64 (k:Int)] 3)=w2 at h1 h2 he hs2 ⊢;rw[hs]at h2 ⊢;refine zl (x:=(k:Int)) h2 (by rfl) ?_;refine zd (decide_eq_false (by omega)) ?_;refine⟨⟨_,_,rfl,by kernel_rfl,fun l J w' hJ hR hd hY=>?_⟩,⟨h1,h2⟩,hs2,he⟩;apply znf;exact zbF (P:=prog) hk hnc hnk hJ hR hd hY
def zjM (r1:Nat) (A:Option Addr) (n c:Nat) (bs:List UInt8):WP:=fun w=>Blk w r1 [.slice A n c] 85/\Sl w A n (bV bs)
theorem zjN {w:World} {A:Option Addr} {n c:Nat} {bs:List UInt8} (h:Sl w A n (bV bs)):Calls prog 156 #[.slice A n c] w (Ret fun v w'=>Iter prog v (vQ bs) (zjM w.heap.size A n c bs)/\zjM w.heap.size A n c bs w'/\w'.heap.size=w.heap.size+1/\Ext w w'):=by
 apply zmH;unfold S156;apply yJ;have he:=(Ext.refl w).alloc (.cells #[.slice A n c] 85);refine⟨⟨_,_,rfl,by kernel_rfl,fun l J w' hJ hR hd hY=>?_⟩,⟨Blk.new w #[.slice A n c] 85,h.ext he⟩,by simp,he⟩;apply zm4;exact zk0 (P:=prog) hJ hR hY
theorem xp {w:World} {B:Nat} {A:Option Addr} {n c:Nat} {bs:List UInt8} {v k:Nat} (h:Own 5 w B A n c (bV bs)) (hB:B<=w.heap.size) (hn:n<=140737488355000) (hv:v<18446744073709551616) (hk1:1<=k) (hk:k<=8):
  Calls prog 42 #[.slice A n c,.int .u64 (v:Int),.int .i64 (k:Int)] w (Ret fun r w'=>∃ x:SLC,r=.slice x.1 x.2.1 x.2.2/\Own 5 w' B x.1 x.2.1 x.2.2 (bV (bs++le k v))/\Grew w w' (orow A) (orow x.1)):=by
 apply zi6;unfold S42;refine zd (decide_eq_false (by omega)) ?_;refine zd (decide_eq_false (by omega)) ?_;refine zw (fun x w'=>∃ (A':Option Addr) (c' i:Nat),i<=k/\x=((A',n+i,c'),(i:Int),())/\Own 5 w' B A' (n+i) c' (bV (bs++le i v))/\Grew w w' (orow A) (orow A')) (fun x=>(k-x.2.1).toNat)
  ⟨A,c,0,by omega,rfl,by simpa [le] using h,Grew.refl _ _⟩ ?_
 rintro _ w' ⟨A',c',i,hi,rfl,ho,hg⟩;dsimp only;have hB':B<=w'.heap.size:=Nat.le_trans hB hg.grown.size
 by_cases hlt:i<k
 ·refine zf (decide_eq_true (by omega)) ?_;have e1:wrap .i64 ((8:Int)*(i:Int))=((8*i:Nat):Int):=by
   rw[wrap_i64 (by omega) (by omega)];omega
  rw[e1];refine⟨by omega,?_⟩;rw[zg9 .u64 v (8*i) (by simp[IntKind.bits];omega),qq,Nat.pow_mul,show(2:Nat) ^ 8=256 from rfl];have hone:∀ y∈[Value.int .u8 ((UInt8.ofNat (v / 256 ^ i)).toNat:Int)],y.oneCell'=true:=by
   intro y hy;simp only [mem_singleton]at hy;subst hy;rfl
  refine zeD (ys:=[Value.int .u8 ((UInt8.ofNat (v / 256 ^ i)).toNat:Int)]) qC ho hB' hone (by simp;omega) (by omega) ?_;intro A2 c2 w2 ho2 hg2;refine⟨⟨A2,c2,i+1,by omega,?_,?_,?_⟩,?_⟩
  ·rw[wrap_i64 (by omega) (by omega)];rfl
  ·have e2:bV (bs++le (i+1) v)=bV (bs++le i v)++[Value.int .u8 ((UInt8.ofNat (v / 256 ^ i)).toNat:Int)]:=by
    rw[le_succ,<- append_assoc,xl (bs++le i v)];rfl
   rw[e2];exact ho2
  ·exact hg.step hg2
  ·rw[wrap_i64 (by omega) (by omega)];omega
 ·obtain rfl:i=k:=by omega
  refine zd (decide_eq_false (by omega)) ?_;exact⟨(A',n+i,c'),rfl,ho,hg⟩
theorem znq {bs:List UInt8} {j:Nat} (h:j<bs.length):lev (bs.drop j)=(bs.getD j 0).toNat+256*lev (bs.drop (j+1)):=by
 rw[drop_eq_getElem_cons h];simp[lev,h]
theorem qT {w:World} {A:Option Addr} {n c:Nat} {bs:List UInt8} (h:Sl w A n (bV bs)) (hn:n<=8):Calls prog 107 #[.slice A n c] w (Ret fun v w'=>v=.int .u64 (lev bs:Int)/\Ext w w'):=by
 apply zmc;unfold S107;have hl:=h.blen;apply yJ;have hr:=Blk.new w #[.int .u64 (0:Int)] 42;have he:=(Ext.refl w).alloc (.cells #[.int .u64 (0:Int)] 42);generalize w.alloc (.cells #[.int .u64 (0:Int)] 42)=w1 at hr he ⊢;generalize hrr:w.heap.size=r at hr ⊢;refine zd (decide_eq_false (by omega)) ?_;refine zb (zjN (c:=c) (h.ext he)) ?_;rintro v w2 ⟨hit,hRb,hs2,he2⟩;refine⟨v,rfl,?_⟩;have hr2:=hr.ext he2;have hrlt:=hr.lt;have he02:=he.trans he2;have hsl:∀ w',Ext w w'->Sl w' A n (bV bs):=fun w' e=>h.ext e;refine za4 (R:=zjM w1.heap.size A n c bs) (fun i w'=>Ext w w'/\Blk w' w1.heap.size [.slice A n c] 85/\Blk w' r [.int .u64 (lev (bs.drop (n-i)):Int)] 42) hit (fun i w' hI=>⟨hI.2.1,hsl _ hI.1⟩) (fun i w' hI=>⟨hI.1.drew,hI.2.1,hI.2.2⟩) ?_ ?_ ?_ ?_
 ·rintro i w' w'' hsb ⟨h1,h2,h3⟩;have hge:w.heap.size<=w2.heap.size:=he02.size;refine⟨?_,?_,?_⟩
  ·exact⟨hsb.1.trans h1.os,hsb.2.1.trans h1.tape,hsb.2.2.1.trans h1.output,by have:=h1.size;have:=hsb.2.2.2.1;omega,fun k hk=>(hsb.2.2.2.2 k (by omega) (by omega)).trans (h1.block k hk)⟩
  ·exact(hsb.2.2.2.2 _ (by omega) (by omega)).trans h2
  ·exact(hsb.2.2.2.2 _ (by omega) (by omega)).trans h3
 ·intro o;refine⟨(he02.alloc _).alloc _,(hRb.1.alloc _).alloc _,?_⟩;have e:bs.drop (n-0)=[]:=drop_of_length_le (by omega);rw[e];exact(hr2.alloc _).alloc _
 ·intro i hi w' N jump hI hsz hN;rw[vg]at hi;refine⟨((bs.length-1-i:Nat),((bs.getD (bs.length-1-i) 0).toNat:Int),()),by simp[vQ],?_⟩;obtain⟨h1,h2,h3⟩:=hI;dsimp only;refine zl (x:=(lev (bs.drop (n-i)):Int)) h3 (by rfl) ?_;refine zQ h3 (by simp) ?_;have hb:=(bs.getD (bs.length-1-i) 0).toNat_lt;have hlv:=jM (bs.drop (n-i));have hlen:(bs.drop (n-i)).length=i:=by rw[length_drop];omega
  rw[hlen]at hlv;have hpow:256 ^ i*256<=18446744073709551616:=by
   rw[show 256 ^ i*256=256 ^ (i+1) from rfl,show 18446744073709551616=256 ^ 8 from rfl];exact Nat.pow_le_pow_right (by omega) (by omega)
  have e1:ior .u64 (ishl .u64 (lev (bs.drop (n-i)):Int) (8:Int)) (wrap .u64 ((bs.getD (bs.length-1-i) 0).toNat:Int))=(lev (bs.drop (n-(i+1))):Int):=by
   rw[show(8:Int)=((8:Nat):Int) from rfl,zD (by omega),zl8 (k:=.u64) rfl _ 8 (by simp[IntKind.bits])];rw[Nat.mod_eq_of_lt (show lev (bs.drop (n-i))*2 ^ 8<2 ^ IntKind.bits .u64 by show _<18446744073709551616;omega)];rw[zi2 (k:=.u64) rfl (show lev (bs.drop (n-i))*2 ^ 8<2 ^ IntKind.bits .u64 by show _<18446744073709551616;omega) (show _<18446744073709551616 by omega)];rw[Nat.mul_comm,<- Nat.two_pow_add_eq_or_of_lt (by omega)];have e2:n-(i+1)=bs.length-1-i:=by omega
   rw[e2,znq (j:=bs.length-1-i) (by omega),show bs.length-1-i+1=n-i by omega];congr 1;omega
  rw[e1];have hset:=h3.set 0 (.int .u64 (lev (bs.drop (n-(i+1))):Int));refine hN _ ⟨h1.set (by simp only;omega) _,h2.other (by simp only;omega) _,hset⟩ (by simp) (fun k hk=>?_);exact Below.heap_setCell _ _ _ _ (by simp only;omega)
 ·intro w' hI hsz hd;obtain⟨h1,h2,h3⟩:=hI;rw[vg]at h3;have e:bs.drop (n-bs.length)=bs:=by rw[show n-bs.length=0 by omega];rfl
  rw[e]at h3;show(ldW _ _ _) w';refine zl (x:=(lev bs:Int)) h3 (by rfl) ?_;refine zQ h3 (by simp) ?_;have hset:=h3.set 0 (.int .u64 (lev bs:Int));refine jg (by rw[Below.heap_setCell _ _ _ _ (by simp only;omega)];exact hd) ?_;show(ldW _ _ _) _;refine zl (x:=(lev bs:Int)) (show Blk _ r [.int .u64 (lev bs:Int)] 42 from ?_) (by rfl) ?_
  ·exact(zR (by omega)).trans hset
  ·exact⟨rfl,(h1.set (by simp only;omega) _).yE (by have:=he02.size;omega) _⟩
end V
/- Plain mathematics of checks (chapter 2):no program in sight. -/
namespace Crc
abbrev W32:=BitVec 32
def poly:W32:=0x82f63b78#32
def bstep (v:W32):W32:=(v >>> 1) ^^^ (if v.getLsbD 0 then poly else 0#32)
def bsteps:Nat->W32->W32
 |0,v=>v
 |n+1,v=>bsteps n (bstep v)
def entry (i:Nat):W32:=bsteps 8 (BitVec.ofNat 32 i)
def table:List W32:=(List.range 256).map entry
def step (t:List W32) (s:W32) (b:UInt8):W32:=(s >>> 8) ^^^ t.getD ((s.setWidth 8) ^^^ b.toBitVec).toNat 0#32
def upd (t:List W32) (s:W32) (bs:List UInt8):W32:=bs.foldl (step t) s
def sum (t:List W32) (bs:List UInt8):W32:= ~~~ (upd t (~~~ 0#32) bs)
def crc (bs:List UInt8):W32:=sum table bs
theorem bsteps_add (m n:Nat):∀ v,bsteps (m+n) v=bsteps n (bsteps m v):=by
 induction m with
 |zero=>intro v;simp[bsteps]
 |succ m ih=>intro v;rw[Nat.add_right_comm];simp only [bsteps,ih]
end Crc
/- Bits turned within bytes,and what a check tells of them. It speaks of no program. -/
namespace Crc
open Go.Proofs.YtplgodmmmppmeaaGreat.V (le lev zx uR zkR jM le_succ)
def ob (f:Nat->Bool):BitVec 8:=BitVec.ofNat 8 ((f 0).toNat+2*(f 1).toNat+4*(f 2).toNat+8*(f 3).toNat+16*(f 4).toNat+32*(f 5).toNat+64*(f 6).toNat+128*(f 7).toNat)
attribute [irreducible] ob
end Crc
/- Contracts of the package crc. -/
namespace V
open Go Go.Proofs Crc
def xN (T:List W32):List Value:=T.map fun t=>.int .u32 (t.toNat:Int)
theorem vR (T:List W32):(xN T).length=T.length:=by simp[xN]
theorem znr {T:List W32} {i:Nat} (h:i<T.length):(xN T)[i]?=some (.int .u32 ((T.getD i 0).toNat:Int)):=by
 simp[xN,h]
theorem zhi {w:World} {T:List W32} {s:W32} {A:Option Addr} {n c:Nat} {bs:List UInt8} (hT:T.length=256) (h:Sl w A n (bV bs)):
  Calls prog 216 #[.agg (xN T).toArray,.int .u32 (s.toNat:Int),.slice A n c] w (Ret fun v w'=>v=.int .u32 ((upd T s bs).toNat:Int)/\Ext w w'):=by
 apply zng;unfold S216;apply yJ;have hb0:Blk (w.alloc (.cells (xN T).toArray 287)) w.heap.size (xN T) 287:=by simpa using Blk.new w (xN T).toArray _
 have he0:Ext w (w.alloc (.cells (xN T).toArray 287)):=(Ext.refl w).alloc _;have hl:=h.blen;have hn:=h.le;generalize w.alloc (.cells (xN T).toArray 287)=w1 at hb0 he0 ⊢;refine zw (fun x w'=>w'=w1/\∃ i:Nat,i<=n/\x=(((upd T s (bs.take i)).toNat:Int),(i:Int),())) (fun x=>(n-x.2.1).toNat) ⟨rfl,0,by omega,by simp[upd]⟩ ?_;rintro _ w' ⟨rfl,i,hi,rfl⟩;dsimp only;have h1:=h.ext he0
 by_cases hlt:i<n
 ·refine zf (decide_eq_true (by omega)) ?_;refine zg5 h1 (by omega) (by omega) ?_;have hidx:ixor .u8 (wrap .u8 ((upd T s (bs.take i)).toNat:Int)) ((bs.getD (Int.toNat (i:Int)) 0).toNat:Int)=((((upd T s (bs.take i)).setWidth 8) ^^^ (bs.getD i 0).toBitVec).toNat:Int):=by
   rw[zg6,zin,zqI];rfl
  rw[hidx];have hx:(((upd T s (bs.take i)).setWidth 8) ^^^ (bs.getD i 0).toBitVec).toNat<256:=(((upd T s (bs.take i)).setWidth 8) ^^^ (bs.getD i 0).toBitVec).isLt;refine⟨⟨by omega,by omega⟩,?_⟩;rw[Int.toNat_natCast,Nat.mul_one,zC,Nat.zero_add];refine zl hb0 (znr (by omega)) ?_;rw[uP (by omega) (by omega)];refine⟨⟨rfl,i+1,by omega,?_⟩,by omega⟩;rw[show ishr .u32 ((upd T s (bs.take i)).toNat:Int) (8:Int)=((upd T s (bs.take i) >>> 8).toNat:Int) from zkQ _ 8 (by omega),zkP];have e:upd T s (bs.take (i+1))=Crc.step T (upd T s (bs.take i)) (bs.getD i 0):=by
   rw[take_succ_eq_append_getElem (by omega)];simp only [upd,List.foldl_append,foldl_cons,List.foldl_nil];rw[getD_eq_getElem?_getD,List.getElem?_eq_getElem (by omega)];rfl
  rw[e];rfl
 ·obtain rfl:i=n:=by omega
  refine zd (decide_eq_false (by omega)) ?_;rw[take_of_length_le (by omega)];exact⟨rfl,he0⟩
theorem ziu (w:World):Calls prog 201 #[] w (Ret fun v w'=>v=.agg (xN table).toArray/\Ext w w'):=by
 apply zm6;unfold S201;apply yJ;have hz:(zbo prog 287).toList=List.replicate 256 (.int .u32 0):=by kernel_rfl
 have hb0:Blk (w.alloc (.cells (zbo prog 287) 287)) w.heap.size (List.replicate 256 (.int .u32 0)) 287:=by rw[<- hz];exact Blk.new w _ _
 have he0:Ext w (w.alloc (.cells (zbo prog 287) 287)):=(Ext.refl w).alloc _;generalize w.alloc (.cells (zbo prog 287) 287)=w1 at hb0 he0 ⊢;refine zw (fun x w'=>Ext w w'/\∃ i:Nat,i<=256/\x=((i:Int),())/\Blk w' w.heap.size (xN (table.take i)++List.replicate (256-i) (.int .u32 0)) 287) (fun x=>(256-x.1).toNat) ⟨he0,0,by omega,rfl,hb0⟩ ?_;rintro _ w' ⟨he,i,hi,rfl,hb⟩;dsimp only
 by_cases hlt:i<256
 ·refine zf (decide_eq_true (by omega)) ?_;have e0:wrap .u32 (i:Int)=((BitVec.ofNat 32 i).toNat:Int):=by
   rw[wrap_u32,BitVec.toNat_ofNat];simp only [Nat.reducePow];omega
  rw[e0];refine zw (fun x w''=>w''=w'/\∃ k:Nat,k<=8/\x=(((bsteps k (BitVec.ofNat 32 i)).toNat:Int),(k:Int),())) (fun x=>(8-x.2.1).toNat) ⟨rfl,0,by omega,rfl⟩ ?_;rintro _ _ ⟨rfl,k,hk,rfl⟩;dsimp only
  by_cases hk8:k<8
  ·refine zf (decide_eq_true (by omega)) ?_;rw[uP (by omega) (by omega)];refine⟨⟨rfl,k+1,by omega,?_⟩,by omega⟩;generalize hv:bsteps k (BitVec.ofNat 32 i)=v;have e1:bsteps (k+1) (BitVec.ofNat 32 i)=bstep v:=by rw[bsteps_add,hv];rfl
   rw[e1];have e2:(v&&& 1#32)=if v.getLsbD 0 then 1#32 else 0#32:=by
    have:v.getLsbD 0=v.toNat.testBit 0:=rfl;apply BitVec.eq_of_toNat_eq;rw[BitVec.toNat_and,this,Nat.testBit_zero];simp only [BitVec.toNat_ofNat,Nat.reducePow,Nat.reduceMod,Nat.and_one_is_mod]
    by_cases h:v.toNat % 2=1
    ·simp[h]
    ·simp[show v.toNat % 2=0 by omega]
   have e3:wrap .u32 ((2197175160:Int)*(iand .u32 (v.toNat:Int) (1:Int)))=((if v.getLsbD 0 then poly else 0#32).toNat:Int):=by
    rw[show iand .u32 (v.toNat:Int) (1:Int)=((v&&& 1#32).toNat:Int) from zqd v 1#32,e2];cases v.getLsbD 0<;>decide
   rw[e3,show ishr .u32 (v.toNat:Int) (1:Int)=((v >>> 1).toNat:Int) from zkQ v 1 (by omega),zkP];rfl
  ·obtain rfl:k=8:=by omega
   refine zd (decide_eq_false (by omega)) ?_;refine⟨⟨by omega,by omega⟩,?_⟩;rw[Int.toNat_natCast,Nat.mul_one,zC,Nat.zero_add];refine zQ hb (by simp[vR,table];omega) ?_;rw[uP (by omega) (by omega)];refine⟨⟨he.set (by simp) _,i+1,by omega,rfl,?_⟩,by omega⟩;have h2:=hb.set i (.int .u32 ((bsteps 8 (BitVec.ofNat 32 i)).toNat:Int));have e3:(xN (table.take i)++List.replicate (256-i) (Value.int .u32 0)).set i (.int .u32 ((bsteps 8 (BitVec.ofNat 32 i)).toNat:Int))=xN (table.take (i+1))++List.replicate (256-(i+1)) (Value.int .u32 0):=by
    have ht:(xN (table.take i)).length=i:=by simp[vR,table];omega
    rw[List.set_append_right _ _ (by omega),ht,Nat.sub_self,show 256-i=(256-(i+1))+1 by omega,List.replicate_succ,List.set_cons_zero];rw[take_add_one,show table[i]?=some (entry i) by simp[table,hlt]];simp[xN,entry]
   rw[e3]at h2;exact h2
 ·obtain rfl:i=256:=by omega
  refine zd (decide_eq_false (by omega)) ?_;have hb2:Blk w' w.heap.size (xN table) 287:=by
   have:table.take 256=table:=take_of_length_le (by simp[table]);rw[this]at hb
   simpa using hb
  have hlen:(xN table).length=256:=by simp[vR,table]
  have hone:∀ v∈xN table,v.oneCell'=true:=by
   intro v hv;obtain⟨t,_,rfl⟩:=mem_map.1 hv;rfl
  generalize xN table=TT at hb2 hlen hone ⊢;refine⟨TT.toArray,by simpa using hlen,hb2.jz,by simpa using hlen,?_,?_⟩
  ·exact hb2.qB TT 0 (by omega) hone
  ·have hb3:=hb2.setCells TT rfl;exact⟨TT.toArray,by simpa using hlen,hb3.jz,rfl,he.setCells (by simp) _ _ _⟩
theorem zk1 {w:World} {T:List W32} {A:Option Addr} {n c:Nat} {bs:List UInt8} (hT:T.length=256) (h:Sl w A n (bV bs)):
  Calls prog 200 #[.agg (xN T).toArray,.slice A n c] w (Ret fun v w'=>v=.int .u32 ((sum T bs).toNat:Int)/\Ext w w'):=by
 apply zm5;unfold S200;apply yJ;have hb0:Blk (w.alloc (.cells (xN T).toArray 287)) w.heap.size (xN T) 287:=by simpa using Blk.new w (xN T).toArray _
 have he0:Ext w (w.alloc (.cells (xN T).toArray 287)):=(Ext.refl w).alloc _;have hlen:(xN T).length=256:=by rw[vR,hT]
 generalize w.alloc (.cells (xN T).toArray 287)=w1 at hb0 he0 ⊢;refine zov (cs:=(xN T).toArray) hb0 (by simpa using hlen) ?_;have hc:=zhi (w:=w1) (T:=T) (s:=4294967295#32) (c:=c) hT (h.ext he0);refine zb hc ?_;rintro _ w2 ⟨rfl,he⟩;refine⟨_,rfl,?_⟩;rw[zqe];exact⟨rfl,he0.trans he⟩
theorem zf2 {w:World} {A:Option Addr} {n c:Nat} {bs:List UInt8} (h:Sl w A n (bV bs)):Calls prog 165 #[.slice A n c] w (Ret fun v w'=>v=.int .u32 ((crc bs).toNat:Int)/\Ext w w'):=by
 apply zmN;unfold S165;refine zb (ziu w) ?_;rintro _ w1 ⟨rfl,he⟩;refine⟨(xN table).toArray,rfl,?_⟩;refine zb (zk1 (by simp[table]) (h.ext he)) ?_;rintro _ w2 ⟨rfl,he2⟩;exact⟨_,rfl,rfl,he.trans he2⟩
end V
/- Frames:plain,and the contracts of the package frame. -/
namespace V
open Go Go.Proofs Go.RowKit Crc
abbrev Fra:=UInt8×Nat×ByteArray
def ui:Fra:=(0,0,ByteArray.empty)
def fT (f:Fra):Int×Int×ByteArray×Unit:=((f.1.toNat:Int),(f.2.1:Int),f.2.2,())
def fV (f:Fra):List Value:=[.int .u8 (f.1.toNat:Int),.int .u64 (f.2.1:Int),.string f.2.2]
theorem zk2 (f:Fra):∀ v∈fV f,v.oneCell'=true:=by
 intro v hv;simp only [fV,mem_cons,not_mem_nil,or_false]at hv;rcases hv with rfl|rfl|rfl<;>rfl
def kE (f:Fra):List UInt8:=[f.1,0]++le 2 (B f.2.2).length++le 8 f.2.1
def xV (size:Nat) (f:Fra):List UInt8:=kE f++B f.2.2++List.replicate (size-16-(B f.2.2).length) 0
def yF (size:Nat) (f:Fra):List UInt8:=xV size f++le 4 (crc (xV size f)).toNat
def xy (size:Int) (f:Fra):List UInt8×Int:=if zI size=0 then ([],2) else if ((B f.2.2).length:Int)>zI size then ([],3) else (yF size.toNat f,0)
def xq (bs:List UInt8):Fra:=(bs.getD 0 0,lev ((bs.drop 4).take 8),⟨((bs.drop 12).take (lev ((bs.drop 2).take 2))).toArray⟩)
def yn (bs:List UInt8):Fra×Int:=
 if zI bs.length=0 then (ui,2)
 else if (crc (bs.take (bs.length-4))).toNat≠lev (bs.drop (bs.length-4)) then (ui,10)
 else if (lev ((bs.drop 2).take 2):Int)>zI bs.length then (ui,4)
 else if xy bs.length (xq bs)=(bs,0) then (xq bs,0) else (ui,4)
def zap (bs:List UInt8) (tag:UInt8):Fra×Int:=if (yn bs).2=0/\(yn bs).1.1≠tag then (ui,11) else yn bs
theorem uU (f:Fra):(kE f).length=12:=by simp[kE,zx]
theorem uW {size:Nat} {f:Fra} (h:(B f.2.2).length+16<=size):(xV size f).length=size-4:=by
 simp only [xV,length_append,uU,length_replicate];omega
theorem ku {size:Nat} {f:Fra} (h:(B f.2.2).length+16<=size):(yF size f).length=size:=by
 simp only [yF,length_append,uW h,zx];omega
theorem uX (size:Int):zI size=0\/(zI size=size-16/\128<=size/\size<=4096/\yc size 8=true):=by
 unfold zI;cases h:yc size 8 with
 |false=>left;rfl
 |true=>
  right;have h2:=h;unfold yc at h2;have h2:=of_decide_eq_true h2;exact⟨rfl,by omega,by omega,rfl⟩
theorem zfq {size:Int} {f:Fra} (h:(xy size f).2=0):zI size=size-16/\128<=size/\size<=4096/\(B f.2.2).length+16<=size.toNat/\(xy size f).1=yF size.toNat f:=by
 unfold xy at h ⊢;rcases uX size with h0|⟨h0,h1,h2,_⟩
 ·rw[if_pos h0]at h;cases h
 ·rw[if_neg (by omega)]at h ⊢;split at h
  ·cases h
  ·rename_i hr;rw[if_neg hr];exact⟨h0,h1,h2,by omega,rfl⟩
theorem zi8 {n:Nat} (h:n<65536):lev (le 2 n)=n:=by rw[uR];omega
theorem zi9 {n:Nat} (h:n<18446744073709551616):lev (le 8 n)=n:=by rw[uR];omega
theorem zf3 {size:Nat} {f:Fra} (hr:zI size=(size:Int)-16) (h1:128<=size) (h2:size<=4096) (hd:(B f.2.2).length+16<=size) (hg:f.2.1<18446744073709551616):yn (yF size f)=(f,0):=by
 have hlen:=ku hd;have hbl:=uW hd;have hlt:=(crc (xV size f)).isLt;have e1:(yF size f).take (size-4)=xV size f:=by unfold yF;rw[take_left' hbl]
 have e2:(yF size f).drop (size-4)=le 4 (crc (xV size f)).toNat:=by unfold yF;rw[drop_left' hbl]
 have e3:lev (le 4 (crc (xV size f)).toNat)=(crc (xV size f)).toNat:=by rw[uR];omega
 have epre:yF size f=[f.1,0]++(le 2 (B f.2.2).length++(le 8 f.2.1++(B f.2.2++(List.replicate (size-16-(B f.2.2).length) 0++le 4 (crc (xV size f)).toNat)))):=by
  simp[yF,xV,kE]
 have e4:((yF size f).drop 2).take 2=le 2 (B f.2.2).length:=by
  rw[epre,drop_left' (i:=2) (l₁:=[f.1,0]) (show [f.1,0].length=2 from rfl),take_left' (zx _ _)]
 have e5:((yF size f).drop 4).take 8=le 8 f.2.1:=by
  rw[epre,<- append_assoc,drop_left' (by simp[zx]),take_left' (zx _ _)]
 have e6:((yF size f).drop 12).take (B f.2.2).length=B f.2.2:=by
  rw[epre,<- append_assoc,<- append_assoc,drop_left' (by simp[zx]),take_left' rfl]
 have e7:(yF size f).getD 0 0=f.1:=by rw[epre];rfl
 have e8:lev (((yF size f).drop 2).take 2)=(B f.2.2).length:=by rw[e4];exact zi8 (by omega)
 have ef:xq (yF size f)=f:=by
  unfold xq;rw[e8,e6,e7,e5,zi9 hg];rfl
 unfold yn;rw[hlen,e1,e2,e3,e8,ef,if_neg (by omega),if_neg (by simp),if_neg (by omega)];have:xy size f=(yF size f,0):=by
  unfold xy;rw[if_neg (by omega),if_neg (by omega),Int.toNat_natCast]
 rw[if_pos this]
theorem uF {bs:List UInt8} (h:(yn bs).2=0):(yn bs).1=xq bs/\xy bs.length (xq bs)=(bs,0):=by
 unfold yn at h ⊢;split at h
 ·cases h
 ·split at h
  ·cases h
  ·split at h
   ·cases h
   ·split at h
    ·rename_i h1 h2 h3 h4;rw[if_neg h1,if_neg h2,if_neg h3,if_pos h4];exact⟨rfl,h4⟩
    ·cases h
theorem zns {bs:List UInt8} (h:(yn bs).2≠0):(yn bs).1=ui:=by
 unfold yn at h ⊢;split
 ·rfl
 ·split
  ·rfl
  ·split
   ·rfl
   ·split
    ·rename_i h1 h2 h3 h4;rw[if_neg h1,if_neg h2,if_neg h3,if_pos h4]at h;exact absurd rfl h
    ·rfl
theorem zeO (bs:List UInt8):(xq bs).2.1<18446744073709551616:=by
 have h:=jM ((bs.drop 4).take 8);have h2:((bs.drop 4).take 8).length<=8:=by simp;omega
 have:256 ^ ((bs.drop 4).take 8).length<=256 ^ 8:=Nat.pow_le_pow_right (by omega) h2;unfold xq;dsimp only;omega
theorem znt (bs:List UInt8):(yn bs).1.2.1<18446744073709551616:=by
 by_cases h:(yn bs).2=0
 ·rw[(uF h).1];exact zeO bs
 ·rw[zns h];decide
theorem uY {w:World} {b o n c v k:Nat} {cs:List Value} {t:TypeId} (hb:Blk w b cs t) (ho:o+c<=cs.length) (hn:n+k<=c) (hc:c<=9223372036854775000) (hv:v<18446744073709551616) (hk1:1<=k) (hk:k<=8):
  Calls prog 42 #[.slice (some ⟨b,o,none⟩) n c,.int .u64 (v:Int),.int .i64 (k:Int)] w (Ret fun r w'=>r=.slice (some ⟨b,o,none⟩) (n+k) c/\Blk w' b (cs.take (o+n)++bV (le k v)++cs.drop (o+n+k)) t/\w.grownBy w' (some b)):=by
 apply zi6;unfold S42;refine zd (decide_eq_false (by omega)) ?_;refine zd (decide_eq_false (by omega)) ?_;refine zw (fun x w'=>∃ i:Nat,i<=k/\x=((some ⟨b,o,none⟩,n+i,c),(i:Int),())/\Blk w' b (cs.take (o+n)++bV (le i v)++cs.drop (o+n+i)) t/\w.grownBy w' (some b)) (fun x=>(k-x.2.1).toNat)
  ⟨0,by omega,rfl,by simpa [le,bV] using hb,xJ _ _⟩ ?_
 rintro _ w' ⟨i,hi,rfl,hbi,hg⟩;dsimp only;have hlen:(cs.take (o+n)++bV (le i v)++cs.drop (o+n+i)).length=cs.length:=by
  simp only [length_append,length_take,length_drop,yX,zx];omega
 by_cases hlt:i<k
 ·refine zf (decide_eq_true (by omega)) ?_;have e1:wrap .i64 ((8:Int)*(i:Int))=((8*i:Nat):Int):=by
   rw[wrap_i64 (by omega) (by omega)];omega
  rw[e1];refine⟨by omega,?_⟩;rw[zg9 .u64 v (8*i) (by simp[IntKind.bits];omega),qq,Nat.pow_mul,show(2:Nat) ^ 8=256 from rfl];refine zce (ys:=bV [UInt8.ofNat (v / 256 ^ i)]) qC hbi (by omega) (by simp[bV];omega) (by omega) (za1 _) ?_;intro w2 hb2 hg2;refine⟨⟨i+1,by omega,?_,?_,xg hg hg2 (fun j hj=>.inl hj)⟩,?_⟩
  ·rw[wrap_i64 (by omega) (by omega)];rfl
  ·have hpl:(cs.take (o+n)++bV (le i v)).length=o+(n+i):=by
    simp only [length_append,length_take,yX,zx];omega
   have e2:(cs.take (o+n)++bV (le i v)++cs.drop (o+n+i)).take (o+(n+i))=cs.take (o+n)++bV (le i v):=take_left' hpl;have e3:(cs.take (o+n)++bV (le i v)++cs.drop (o+n+i)).drop (o+(n+i)+(bV [UInt8.ofNat (v / 256 ^ i)]).length)=cs.drop (o+n+(i+1)):=by
    rw[<- drop_drop,drop_left' hpl,drop_drop];rfl
   rw[e2,e3]at hb2;rw[le_succ,xl,<- append_assoc];exact hb2
  ·rw[wrap_i64 (by omega) (by omega)];omega
 ·obtain rfl:i=k:=by omega
  refine zd (decide_eq_false (by omega)) ?_;exact⟨rfl,hbi,hg⟩
theorem zbH (w:World) (size:Int) {f:Fra} (hg:f.2.1<18446744073709551616):Calls prog 123 #[.int .i64 size,.agg (fV f).toArray] w (Ret fun v w'=>v=.tuple #[.string ⟨(xy size f).1.toArray⟩,.int .i64 (xy size f).2]/\Ext w w'):=by
 apply zmp;unfold S123 xy;refine zq fun r1 w1 hb1 he1 hr1 _=>?_;refine zb (jq w1 size) ?_;rintro _ w2 ⟨rfl,he2⟩;refine⟨_,rfl,?_⟩;have he2:=he1.trans he2;have hb1:=hb1.ext (by assumption);have hds:=yi f.2.2;rcases uX size with h0|⟨h0,h1,h2,hgeo⟩
 ·rw[h0,if_pos rfl];exact zf (by rfl) ⟨rfl,he2⟩
 rw[if_neg (by omega)];refine zd (by rw[beq_eq_false_iff_ne];omega) ?_;refine zm 2 f.2.2 hb1 (by rfl) ?_;refine zg (fun hlong=>?_) (fun hfit=>?_)
 ·have hlong:=of_decide_eq_true hlong;rw[if_pos (by omega)];exact⟨rfl,he2⟩
 have hfit:=of_decide_eq_false hfit;rw[if_neg (by omega)];obtain⟨sz,rfl⟩:∃ sz:Nat,size=sz:=⟨size.toNat,by omega⟩;rw[Int.toNat_natCast];generalize hd:(B f.2.2).length=d at *;refine vG (B:=w2.heap.size) qC rfl (Nat.le_refl _) (by omega) (by omega) ?_;intro w3 ho3 hg3;have hrow:Blk w3 w2.heap.size (List.replicate sz (.int .u8 0)) 5:=zbz ho3;have he3:Ext w w3:=he2.none hg3;have h23:Ext w2 w3:=(Ext.refl w2).none hg3;have hb1:=hb1.ext h23;have hsz:=he2.size;have hr1lt:=he1.size;have hw1:r1<w2.heap.size:=by have:=(hb1).lt;have:=he2.size;have hh:w1.heap.size<=w2.heap.size:=(by assumption:Ext w1 w2).size;omega
 generalize hbb:w2.heap.size=b at *;have ez:(List.replicate sz (Value.int .u8 0))=bV (List.replicate sz 0):=by simp[bV]
 rw[ez]at hrow;refine zK fun w4 he4 _ _=>?_;have hrow:=hrow.ext he4;have hb1:=hb1.ext he4;have he4:=he3.trans he4;refine zL ⟨by omega,by omega,by dsimp only;omega⟩ ?_;refine zF (f.1.toNat:Int) hb1 (by rfl) ?_;have hcut:zo (some (aD b)) 0 (Int.toNat 12) 1=some ⟨b,0,none⟩:=rfl;dsimp only;rw[hcut,show Int.toNat 0=0 from rfl,show Int.toNat 12=12 from rfl];have e0:#[Value.int .u8 (f.1.toNat:Int),Value.int .u8 0]=(bV [f.1,0]).toArray:=rfl;rw[e0];have grow:∀ {w' w'':World},Ext w w'->w'.grownBy w'' (some b)->Ext w w'':=fun he hg=>he.grown hg (fun j hj=>by injection hj with hj;omega);have keep:∀ {w' w'':World} {cs:List Value} {t:TypeId},Blk w' r1 cs t->w'.grownBy w'' (some b)->Blk w'' r1 cs t:=fun h hg=>h.grown hg (by simp;omega);have hrl:∀ k:Nat,(bV (List.replicate k (0:UInt8))).length=k:=fun k=>by rw[yX,length_replicate]
 refine zce (ys:=bV [f.1,0]) (n:=0) (c:=12) qC hrow (by rw[hrl];omega) (by simp[bV]) (by omega) (za1 _) ?_;intro w5 hrow5 hg5;have he5:=grow he4 hg5;have hb1:=keep hb1 hg5;have s5:(bV (List.replicate sz (0:UInt8))).take (0+0)++bV [f.1,0]++(bV (List.replicate sz (0:UInt8))).drop (0+0+(bV [f.1,0]).length)=bV ([f.1,0]++List.replicate (sz-2) 0):=by
  rw[xl];simp[bV]
 rw[s5]at hrow5;dsimp only;refine zm 2 f.2.2 hb1 (by rfl) ?_;rw[hds,zD (by omega)];refine zb (uY (o:=0) (n:=0+(bV [f.1,0]).length) (c:=12) (k:=2) hrow5 (by rw[yX];simp;omega) (by simp[bV]) (by omega) (by omega) (by omega) (by omega)) ?_;rintro _ w6 ⟨rfl,hrow6,hg6⟩;refine⟨(some ⟨b,0,none⟩,0+(bV [f.1,0]).length+2,12),rfl,?_⟩;have he6:=grow he5 hg6;have hb1:=keep hb1 hg6;have s6:(bV ([f.1,0]++List.replicate (sz-2) 0)).take (0+(0+(bV [f.1,0]).length))++bV (le 2 d)++(bV ([f.1,0]++List.replicate (sz-2) 0)).drop (0+(0+(bV [f.1,0]).length)+2)=bV (([f.1,0]++le 2 d)++List.replicate (sz-2-2) 0):=by
  have:=zeN [f.1,0] (le 2 d) (sz-2) (by rw[zx];omega);rw[zx]at this;rw[jf,vF,<- xl,<- xl];exact congrArg bV this
 rw[s6]at hrow6;dsimp only;refine zm 1 (f.2.1:Int) hb1 (by rfl) ?_;refine zb (uY (o:=0) (c:=12) (k:=8) hrow6 (by rw[yX];simp[zx];omega) (by simp[bV]) (by omega) hg (by omega) (by omega)) ?_;rintro _ w7 ⟨rfl,hrow7,hg7⟩;refine⟨(some ⟨b,0,none⟩,0+(bV [f.1,0]).length+2+8,12),rfl,?_⟩;have he7:=grow he6 hg7;have hb1:=keep hb1 hg7;have s7:(bV (([f.1,0]++le 2 d)++List.replicate (sz-2-2) 0)).take (0+(0+(bV [f.1,0]).length+2))++bV (le 8 f.2.1)++(bV (([f.1,0]++le 2 d)++List.replicate (sz-2-2) 0)).drop (0+(0+(bV [f.1,0]).length+2)+8)=bV (kE f++List.replicate (sz-12) 0):=by
  have:=zeN ([f.1,0]++le 2 d) (le 8 f.2.1) (sz-2-2) (by rw[zx];omega);rw[zx]at this;have hh:kE f=[f.1,0]++le 2 d++le 8 f.2.1:=by unfold kE;rw[hd]
  have hl4:([f.1,0]++le 2 d).length=4:=by simp[zx]
  rw[hl4]at this;rw[hh,show sz-12=sz-2-2-8 by omega,<- this,jf,vF,<- xl,<- xl];rfl
 rw[s7]at hrow7;refine zK fun w8 he8 _ _=>?_;have hrow8:=hrow7.ext he8;have hb1:=hb1.ext he8;have he8:=he7.trans he8;refine zL ⟨by omega,by omega⟩ ?_;refine zm 2 f.2.2 hb1 (by rfl) ?_;have hcut2:zo (some (aD b)) 12 sz 1=some ⟨b,12,none⟩:=by
  unfold zo;rw[if_neg (by show ¬sz=12;omega)];show some ((aD b).add 12)=_;rw[zC,Nat.zero_add]
 rw[hcut2];refine znp qC hrow8 (by rw[yX,length_append,uU,length_replicate];omega) ?_;intro w9 hrow9 hg9;have he9:=grow he8 hg9;have s9:(bV (kE f++List.replicate (sz-12) 0)).take 12++bV ((B f.2.2).take (sz-12))++(bV (kE f++List.replicate (sz-12) 0)).drop (12+min (B f.2.2).length (sz-12))=bV (xV sz f++List.replicate 4 0):=by
  have:=zeN (kE f) (B f.2.2) (sz-12) (by omega);rw[uU]at this;rw[take_of_length_le (show(B f.2.2).length<=sz-12 by omega),Nat.min_eq_left (by omega),jf,vF,<- xl,<- xl,this];congr 1;unfold xV;rw[append_assoc (kE f++B f.2.2),hd,List.replicate_append_replicate];congr 2;omega
 rw[s9]at hrow9;have hbody:(xV sz f).length=sz-4:=uW (by omega);refine zK fun w10 he10 _ _=>?_;have hrow10:=hrow9.ext he10;have he10:=he9.trans he10;rw[wrap_i64 (x:=(sz:Int)-4) (by omega) (by omega),show Int.toNat ((sz:Int)-4)=sz-4 by omega];refine zL ⟨by omega,by omega,by omega,by omega⟩ (zL ⟨by omega,by omega⟩ ?_);have hsl:Sl w10 (zo (some ⟨b,0,none⟩) 0 sz 1) (sz-4) (bV (xV sz f)):=by
  have:=(Sl.xC hrow10 (n:=sz) (by rw[yX,length_append,hbody,length_replicate];omega) (by omega)).zfl (k:=sz-4) (m:=sz) (by omega) (by omega);rw[jf,take_left' hbody]at this;exact this
 refine zb (zf2 hsl) ?_;rintro _ w11 ⟨rfl,he11⟩;refine⟨_,rfl,?_⟩;have hrow11:=hrow10.ext he11;have he11:=he10.trans he11;have hclt:=(crc (xV sz f)).isLt;rw[zD (by omega)];have hcut3:zo (some (aD b)) (sz-4) sz 1=some ⟨b,sz-4,none⟩:=by
  unfold zo;rw[if_neg (by omega)];show some ((aD b).add ((sz-4)*1))=_;rw[zC,Nat.zero_add,Nat.mul_one]
 rw[hcut3,Nat.sub_self,show sz-(sz-4)=4 by omega];refine zb (uY (o:=sz-4) (n:=0) (c:=4) (k:=4) hrow11 (by rw[yX,length_append,hbody,length_replicate];omega) (by omega) (by omega) (by omega) (by omega) (by omega)) ?_;rintro _ w12 ⟨rfl,hrow12,hg12⟩;refine⟨(some ⟨b,sz-4,none⟩,0+4,4),rfl,?_⟩;have he12:=grow he11 hg12;have s12:(bV (xV sz f++List.replicate 4 0)).take (sz-4+0)++bV (le 4 (crc (xV sz f)).toNat)++(bV (xV sz f++List.replicate 4 0)).drop (sz-4+0+4)=bV (yF sz f):=by
  have:=zeN (xV sz f) (le 4 (crc (xV sz f)).toNat) 4 (by rw[zx];omega);rw[hbody,zx]at this;rw[jf,vF,<- xl,<- xl,Nat.add_zero,this];simp[yF]
 rw[s12]at hrow12;refine qS (e:=5) (by kernel_rfl) (by kernel_rfl) (by kernel_rfl) (Sl.xC hrow12 (by rw[yX,ku (by omega)]) (by omega)) ?_;exact⟨rfl,he12⟩
end V
/- Rules and words that several seats share. -/
namespace V
open Go Go.Proofs Go.RowKit
section
variable {α:Type} {P:Program} {t e:TypeId} {z:Value} {bytes:Nat} {E:Enc α}
theorem zfr {w:World} {A:Option Addr} {n c:Nat} {xs:List α} {K:Value->WP} (hE:jI P t e z E.k bytes) (h:Sli E w A n xs) (hlen:n*bytes<=140737488355328) (hb:0<bytes)
  (hK:∀ A' c' w',Owni E e w' w.heap.size A' n c' xs->Ext w w'->K (.slice A' n c') w'):
  (za (Option.isNone A) (K (.slice none 0 0))<|
   zi (.cells #[] e) fun(r1:Nat)=>zy P (Builtin.append_ #[t,t] t #[.slice (some (aD r1)) 0 0,.slice A n c]) .slc fun(u2:SLC)=>K (.slice u2.1 u2.2.1 u2.2.2)) w:=by
 refine zg (fun hA=>?_) (fun hA=>?_)
 ·have hA:A=none:=by simpa using hA
  subst hA;obtain rfl:n=0:=by
   rcases Nat.eq_zero_or_pos n with h0|h0
   ·exact h0
   ·obtain⟨a,h1,_⟩:=h.2.2 h0;cases h1
  obtain rfl:xs=[]:=eq_nil_of_length_eq_zero h.1;exact hK none 0 w (Owni.nil _ _ _) (Ext.refl w)
 ·apply yJ;have he:Ext w (w.alloc (.cells #[] e)):=(Ext.refl w).alloc _;have ho:Owni E e (w.alloc (.cells #[] e)) w.heap.size (some ⟨w.heap.size,0,none⟩) 0 0 ([]:List α):=Owni.lit (xs:=[]) (n:=0) rfl (Nat.le_refl _) (by omega);refine xu hE ho (by simp) (h.ext he) (by rw[Nat.zero_add];exact hlen) hb ?_;intro A' c' w' ho' hg _;rw[Nat.zero_add]at ho' ⊢;exact hK A' c' w' (by simpa using ho') (Ext.grown he hg.1 (fun j hj=>by injection hj with hj;subst hj;exact Nat.le_refl _))
theorem zja {w:World} {b o n c m d:Nat} {ty u t2:TypeId} {X:Option Addr} {cs ys:List Value} {K:Int->WP} (hE:Elem P t e z bytes) (hb:Blk w b cs t2) (hx:Sl w X m ys) (hys:∀ y∈ys,y.oneCell'=true) (ho:o+min m n<=cs.length) (hX:X≠none)
  (hK:∀ w',Blk w' b (cs.take o++ys.take (min m n)++cs.drop (o+min m n)) t2->w.grownBy w' (some b)->K ((min m n:Nat):Int) w'):
  zy P (Builtin.copy_ #[t,u] ty #[.slice (some ⟨b,o,none⟩) n c,.slice X m d]) (.int .i64) K w:=by
 obtain⟨ht,hi,hz⟩:=hE;obtain⟨i,hi,hii⟩:=Option.map_eq_some_iff.1 hi;simp only [Prod.mk.injEq]at hii;obtain⟨hz0,hz1,hz2⟩:=hii;have hl:=hx.len;obtain⟨a,rfl⟩:=Option.ne_none_iff_exists'.1 hX;have hlen:(ys.take (min m n)).length=min m n:=by rw[length_take];omega
 have hsrc:∀ j v,(ys.take (min m n))[j]?=some v->w.cell? (a.add j)=some v:=fun j v hj=>by
  rw[List.getElem?_take]at hj;split at hj
  ·rcases Nat.eq_zero_or_pos m with h0|h0
   ·omega
   ·obtain⟨a',h1,h2⟩:=hx.2.2 h0;cases h1;exact h2 j v hj
  ·cases hj
 have hr:=run_copy_row (P:=P) w t u ty e b o n c a m d cs.toArray t2 (ys.take (min m n)) ht (by rw[hi];simp[hz1]) hb hlen hsrc (by rw[hlen];simpa using ho) (fun v hv=>hys v (List.mem_of_mem_take hv));rw[hlen]at hr;refine⟨((min m n:Nat):Int),_,hr,hK _ ?_ ?_⟩
 ·have hb':w.heap[b]?=some (.cells cs.toArray t2 (0,0)):=hb;show(w.heap.modify b _)[b]?=_;rw[Array.getElem?_modify,if_pos rfl,hb'];simp
 ·refine⟨rfl,rfl,rfl,by simp[World.setRow],fun k hk hne=>?_⟩;simp[World.setRow];rw[Array.getElem?_modify];split
  ·exact absurd (by subst_vars;rfl) hne
  ·rfl
end
theorem kv {α:Type} {E:Enc α} {e:TypeId} {w:World} {B b n:Nat} {xs:List α} (h:Blk w b (E.flat xs) e) (hn:xs.length=n) (hm:n<=9223372036854775807) (hB:B<=b):Owni E e w B (some ⟨b,0,none⟩) n n xs:=by
 refine⟨by rw[E.xf,hn],.inr ⟨b,n,(E.flat xs).toArray,rfl,hB,h,Nat.le_refl _,by simpa [maxLen] using hm,by simp[E.xf,hn],?_⟩⟩;rw[take_of_length_le (by simp[E.xf,hn])]
def mkB (bs:List UInt8):ByteArray:=⟨bs.toArray⟩
theorem xv (bs:List UInt8):B (mkB bs)=bs:=jN bs
theorem zjO (s:ByteArray):mkB (B s)=s:=kD (xv _)
theorem xz (bs:List UInt8):(mkB bs).size=bs.length:=by rw[yi,xv]
theorem za9 {w:World} {b:Nat} {x y:Value} {t:TypeId} (h:Blk w b [x,y] t):∀ p∈[((aD b).add 0,x),((aD b).add 1,y)],w.cell? p.1=some p.2:=by
 intro p hp;simp only [mem_cons,not_mem_nil,or_false]at hp;rcases hp with rfl|rfl<;>simp[zC,h.cell]
theorem yS {w:World} {b o:Nat} {cs:List Value} {v:Value} {t:TypeId} (h:Blk w b cs t) (hv:cs[o]?=some v):∀ p∈[((aD b).add o,v)],w.cell? p.1=some p.2:=by
 intro p hp;obtain rfl:=mem_singleton.1 hp;show w.cell? ((aD b).add o)=_;rw[zC,h.cell,Nat.zero_add,hv]
theorem yh {w:World} {b:Nat} {cs:List Value} {v:Value} {t:TypeId} (h:Blk w b cs t) (hv:cs[0]?=some v):∀ p∈[((aD b),v)],w.cell? p.1=some p.2:=by
 intro p hp;obtain rfl:=mem_singleton.1 hp;show w.cell? (aD b)=_;rw[h.cell,hv]
abbrev HL (w:World) (l:List (Addr×Value)):Prop:=∀ p∈l,w.cell? p.1=some p.2
theorem xO {w:World} {a:List (Addr×Value)} {K:WP} (ha:HL w a) (hK:K w):zt [a] K w:=
 ⟨fun l hl=>by rw[mem_singleton.1 hl];exact ha,hK⟩
theorem jD {w:World} {a b:List (Addr×Value)} {K:WP} (ha:HL w a) (hb:HL w b) (hK:K w):zt [a,b] K w:=
 ⟨fun l hl=>by
  simp only [mem_cons,not_mem_nil,or_false]at hl
  rcases hl with rfl|rfl
  ·exact ha
  ·exact hb,hK⟩
theorem zqk {w:World} {a b c:List (Addr×Value)} {K:WP} (ha:HL w a) (hb:HL w b) (hc:HL w c) (hK:K w):zt [a,b,c] K w:=
 ⟨fun l hl=>by
  simp only [mem_cons,not_mem_nil,or_false]at hl
  rcases hl with rfl|rfl|rfl
  ·exact ha
  ·exact hb
  ·exact hc,hK⟩
theorem heldc {w:World} {a:List (Addr×Value)} {H:List (List (Addr×Value))} {K:WP} (ha:HL w a) (h:zt H K w):zt (a::H) K w:=
 ⟨fun l hl=>by
  rcases mem_cons.1 hl with rfl|hl
  ·exact ha
  ·exact h.1 l hl,h.2⟩
theorem zqL {w:World} {K:WP} (h:K w):zt [] K w:=⟨(fun l hl=>by cases hl),h⟩
end V
end Go.Proofs.YtplgodmmmppmeaaGreat
