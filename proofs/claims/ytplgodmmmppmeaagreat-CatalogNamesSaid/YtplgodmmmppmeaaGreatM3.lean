/- Texts of mine, merged (wip/tool/mergep.py): S, KGeo, HI, KKit, KIter, Crc, Crc2, KCrc, KRef02, KKit2, HD, Shelf, KRead, KDev, HR2, KDev2, HH, KDev3, KDev4. -/
import Derived.Test.YtplgodmmmppmeaaGreatM1
import Derived.Test.YtplgodmmmppmeaaGreatChecked
import Derived.Test.YtplgodmmmppmeaaGreatM2
import Derived.RangeFuncRecord
import Derived.Shelf.Strings.Builder1
import Derived.Shelf.Strings.Builder2
import Derived.Shelf.Strings.OnBuilder
import Derived.Shelf.Strings.BuilderF
import Derived.Shelf.Strings.BuilderK
import Derived.Shelf.Strings.Builder2Cap
import Derived.Shelf.Strings.Prefix
import Derived.Shelf.Bits.Mul64
import Derived.Shelf.Strings.Repeat
import Derived.Shelf.Strings.BuilderCap
import Derived.Shelf.Slices.Equal
import Derived.Shelf.Slices.Empties2
import Derived.Ground.SlgnProg
import Derived.Shelf.SlicesE.Reverse
import Derived.Shelf.SlicesE.Clone
import Derived.Test.YtplgodmmmppmeaaGreatProg
import Derived.Laws.CopyRow
open Go.IntKind (wrap)
open Go.Proofs.Tryz (prog)
open List (mem_cons_self mem_cons_of_mem mem_cons length_cons map_map mem_append mem_append_left drop_drop mem_range mem_of_getElem? getElem_mem map_cons mem_map append_assoc nodup_cons foldl_cons length_nil append_nil length_map length_set eq_nil_of_length_eq_zero range_succ map_congr_left length_append drop_of_length_le take_of_length_le getD_eq_getElem?_getD mem_singleton length_take length_drop take_succ_eq_append_getElem take_add_one not_mem_nil map_append take_left' length_replicate drop_left' flatMap_cons length_range getElem_range flatMap_append length_singleton)
set_option linter.unusedVariables false
set_option linter.unusedSimpArgs false
namespace Go.Proofs.YtplgodmmmppmeaaGreat
/- The shallow forms of the functions,by a program of mine (wip/tool/gen.py). -/
set_option maxRecDepth 100000
namespace V
open Go Go.Proofs
theorem zog (x0:Option Addr) (x1:Int) {K:Value->WP} {w:World} (h:S90 x0 x1 K w):Calls prog 90 #[(.pointer x0),(.int .u32 x1)] w (Ret K):=cF an90 false Tryz.func90 h
def an95:Ann:=(AN (AR (AN (.block (.loop [(19,.sh (.one (.int .i64)))] [0,3,6,17,18,1000000] (AN (AR (AQ AP AP) (AR (.block (AN (AN (AN (AQ AO AP))))) AP)))))) (AR (AN (AN (AQ AO AP))) (AN (AR (AN (AQ AO AP)) (AR (AN (AN (AQ AO AP))) AO))))))
def S95 (x0:Option Addr) (x1:Option Addr) (AC:Int) (AD:Int) (AE:Int) (AI:Int) (AJ:Option Addr) (AK AL:Nat) (x3:Int) (K:Value->WP):WP:=
 zh (.cells #[(.int .u64 AC),(.int .i64 AD),(.int .i64 AE),(.int .u32 AI),(.slice AJ AK AL)] 79) fun(r1:Nat)=>
 ze prog 141 [(.pointer x1)] (.one (.one .slc)) fun(u2:SLC)=>
 zH (Int×Unit) ((0:Int),()) fun(y4:Int×Unit) (I3:(Int×Unit)->WP)=>
 za (decide (y4.1<((u2.2.1:Nat):Int))) (zc (0<=y4.1/\y4.1<((u2.2.1:Nat):Int))<|
 zi u2.1 fun(p5:Addr)=>
 ldW .str (p5.add (Int.toNat y4.1*1)) fun(u6:ByteArray)=>
 zA<|
 ldW .slc ((aD r1).add 4) fun(u7:SLC)=>
 zc (0<=y4.1/\y4.1<((u7.2.1:Nat):Int))<|
 zi u7.1 fun(p8:Addr)=>
 ldW (.int .u32) (p8.add (Int.toNat y4.1*1)) fun(u9:Int)=>
 ldW (.int .u64) (aD r1) fun(u10:Int)=>
 ze prog 78 [(.pointer x0),(.int .u32 u9),(.agg #[(.int .u8 (2:Int)),(.int .u64 u10),(.string u6)])] (.one (.one (.int .i64))) fun(u11:Int)=>
 za (u11 !=(0:Int)) (K (.int .i64 u11))<|I3 ((wrap .i64 (y4.1+(1:Int))),()))<|
 ze prog 142 [(.pointer x0)] (.one (.one (.int .i64))) fun(u12:Int)=>
 za (u12 !=(0:Int)) (K (.int .i64 u12))<|
 zk [(.int .u64),(.int .i64),(.int .i64),(.int .u32),.slc] (aD r1) fun(u13:(Int×Int×Int×Int×SLC×Unit))=>
 ze prog 143 [(.agg #[(.int .u64 u13.1),(.int .i64 u13.2.1),(.int .i64 u13.2.2.1),(.int .u32 u13.2.2.2.1),(.slice u13.2.2.2.2.1.1 u13.2.2.2.2.1.2.1 u13.2.2.2.2.1.2.2)])] (.many [(.one .str),(.one (.int .i64))]) fun(u14:ByteArray×Int×Unit)=>
 za (u14.2.1 !=(0:Int)) (K (.int .i64 u14.2.1))<|
 ze prog 118 [(.pointer x0),(.int .i64 x3),(.string u14.1)] (.one (.one (.int .i64))) fun(u15:Int)=>
 za (u15 !=(0:Int)) (K (.int .i64 u15))<|
 ze prog 142 [(.pointer x0)] (.one (.one (.int .i64))) fun(u16:Int)=>K (.int .i64 u16)
theorem zoh (x0:Option Addr) (x1:Option Addr) (AC:Int) (AD:Int) (AE:Int) (AI:Int) (AJ:Option Addr) (AK AL:Nat) (x3:Int) {K:Value->WP} {w:World} (h:S95 x0 x1 AC AD AE AI AJ AK AL x3 K w):Calls prog 95 #[(.pointer x0),(.pointer x1),(.agg #[(.int .u64 AC),(.int .i64 AD),(.int .i64 AE),(.int .u32 AI),(.slice AJ AK AL)]),(.int .i64 x3)] w (Ret K):=cF an95 false Tryz.func95 h
def an96:Ann:=(AN (AR (AN (AQ AO AP)) AO))
def S96 (x0:Option Addr) (K:Value->WP):WP:=
 za (Option.isNone x0) (K (.pointer none))<|
 zA<|
 zi x0 fun(p1:Addr)=>
 zk [(.int .i64),(.int .i64)] p1 fun(u2:(Int×Int×Unit))=>
 zi x0 fun(p3:Addr)=>
 ldW .slc (p3.add 2) fun(u4:SLC)=>
 ze prog 144 [(.slice u4.1 u4.2.1 u4.2.2)] (.one (.one .slc)) fun(u5:SLC)=>
 zq [[(p1.add 0,(.int .i64 u2.1)),(p1.add 1,(.int .i64 u2.2.1))]]<|
 zh (.cells #[(.int .i64 u2.1),(.int .i64 u2.2.1),(.slice u5.1 u5.2.1 u5.2.2)] 193) fun(r6:Nat)=>K (.pointer (some (aD r6)))
theorem zoi (x0:Option Addr) {K:Value->WP} {w:World} (h:S96 x0 K w):Calls prog 96 #[(.pointer x0)] w (Ret K):=cF an96 false Tryz.func96 h
def an106:Ann:=(AN (AR (AN (AQ AO AP)) (AR (AN (.block (.loop [(16,.sh (.one (.int .i64)))] [0,14,15,1000000] (AN (AR (AQ AP AP) (AR (.block (AN (AR (AN (AN (AQ AO AP))) (AN (AQ AO AP))))) AP)))))) AO)))
def S106 (a0:Option Addr) (n0 c0:Nat) (K:Value->WP):WP:=
 za (decide (((n0:Nat):Int)<(1:Int))) (K (.int .i64 (171:Int)))<|
 za (decide (((n0:Nat):Int)>(16:Int))) (K (.int .i64 (171:Int)))<|
 zH (Int×Unit) ((0:Int),()) fun(y2:Int×Unit) (I1:(Int×Unit)->WP)=>
 za (decide (y2.1<((n0:Nat):Int))) (zc (0<=y2.1/\y2.1<((n0:Nat):Int))<|
 zi a0 fun(p3:Addr)=>
 zk [.str,(.int .i64),.bool] (p3.add (Int.toNat y2.1*3)) fun(u4:(ByteArray×Int×Bool×Unit))=>
 zh (.cells #[(.string ByteArray.empty),(.int .i64 (0:Int)),(.bool false)] 62) fun(r5:Nat)=>
 zc ((#[(.string u4.1),(.int .i64 u4.2.1),(.bool u4.2.2.1)]:Array Value).size=3)<|
 zt (aD r5) [(.string u4.1),(.int .i64 u4.2.1),(.bool u4.2.2.1)]<|
 ldW .str (aD r5) fun(u6:ByteArray)=>
 ze prog 110 [(.string u6)] (.one (.one (.int .i64))) fun(u7:Int)=>
 za (u7 !=(0:Int)) (K (.int .i64 u7))<|
 ldW (.int .i64) ((aD r5).add 1) fun(u8:Int)=>
 za (decide (u8<(1:Int))) (K (.int .i64 (171:Int)))<|
 ldW (.int .i64) ((aD r5).add 1) fun(u9:Int)=>
 za (decide (u9>(3:Int))) (K (.int .i64 (171:Int)))<|
 zc (0<=y2.1/\y2.1<=((c0:Nat):Int))<|
 ze prog 154 [(.slice (zm a0 0 c0 3) (Int.toNat y2.1) c0),(.func (.func 155) #[] #[(.pointer (some (aD r5)))])] (.one (.one .bool)) fun(u10:Bool)=>
 za u10 (K (.int .i64 (171:Int)))<|I1 ((wrap .i64 (y2.1+(1:Int))),()))<|K (.int .i64 (0:Int))
theorem zld (a0:Option Addr) (n0 c0:Nat) {K:Value->WP} {w:World} (h:S106 a0 n0 c0 K w):Calls prog 106 #[(.slice a0 n0 c0)] w (Ret K):=cF an106 false Tryz.func106 h
def an107:Ann:=(AN (AR (AN (AQ AO AP)) (AR (AN (.block (.loop [(10,.sh (.one (.int .i64))),(11,.sh (.one (.int .u8)))] [] (AN (.block AP))))) AO)))
def S107 (a0:Option Addr) (n0 c0:Nat) (K:Value->WP):WP:=
 zh (.cells #[(.int .u64 (0:Int))] 42) fun(r1:Nat)=>
 za (decide (((n0:Nat):Int)>(8:Int))) (stW (aD r1) (.int .u64 (0:Int))<|
 zR prog []<|
 ldW (.int .u64) (aD r1) fun(u2:Int)=>K (.int .u64 u2))<|
 ze prog 156 [(.slice a0 n0 c0)] (.one (.one .any)) fun(u3:Value)=>
 jm prog u3 (Int×Int×Unit) (fun(t4:Int×Int×Unit)=>[(.int .i64 t4.1),(.int .u8 t4.2.1)]) (fun(t4:Int×Int×Unit) (B5:WP->WP) (N6:WP) (Q7:Code->WP)=>B5 (ldW (.int .u64) (aD r1) fun(u10:Int)=>
 stW (aD r1) (.int .u64 (ior .u64 (ishl .u64 u10 (8:Int)) (wrap .u64 t4.2.1)))<|N6)) fun(r8:Nat) (p9:Option Code)=>
 qT (ldW (.int .u64) (aD r1) fun(u11:Int)=>
 stW (aD r1) (.int .u64 u11)<|
 zR prog (⟨.collected r8,#[]⟩::[])<|
 ldW (.int .u64) (aD r1) fun(u12:Int)=>K (.int .u64 u12)) (zR prog (⟨.collected r8,#[]⟩::[])<|
 ldW (.int .u64) (aD r1) fun(u13:Int)=>K (.int .u64 u13)) [] p9
theorem zle (a0:Option Addr) (n0 c0:Nat) {K:Value->WP} {w:World} (h:S107 a0 n0 c0 K w):Calls prog 107 #[(.slice a0 n0 c0)] w (Ret K):=cF an107 true Tryz.func107 h
def an108:Ann:=(AN (.join [] [0,1,1000000] (AN (AQ AP AP)) (AR (AN (AQ AO AP)) (AN (AN AO)))))
def S108 (x0:Option Addr) (x1:Int) (K:Value->WP):WP:=
 yC (Unit) (fun(J1:(Unit)->WP)=>
 zi x0 fun(p3:Addr)=>
 ldW (.int .i64) (p3.add 1) fun(u4:Int)=>
 za (u4==(0:Int)) (zi x0 fun(p5:Addr)=>
 ldW .str p5 fun(u6:ByteArray)=>
 za (decide (x1>((u6.size:Nat):Int))) (zi x0 fun(p7:Addr)=>
 stW (p7.add 1) (.int .i64 (240:Int))<|J1 ())<|J1 ())<|J1 ()) fun(y2:Unit)=>
 zi x0 fun(p8:Addr)=>
 ldW (.int .i64) (p8.add 1) fun(u9:Int)=>
 za (u9 !=(0:Int)) (K (.string (ByteArray.mk #[])))<|
 zi x0 fun(p10:Addr)=>
 ldW .str p10 fun(u11:ByteArray)=>
 zc (0<=x1/\x1<=((u11.size:Nat):Int))<|
 zi x0 fun(p12:Addr)=>
 ldW .str p12 fun(u13:ByteArray)=>
 zc (0<=x1/\x1<=((u13.size:Nat):Int))<|
 zi x0 fun(p14:Addr)=>
 stW p14 (.string (ByteArray.extract u13 (Int.toNat x1) u13.size))<|K (.string (ByteArray.extract u11 0 (Int.toNat x1)))
theorem zlf (x0:Option Addr) (x1:Int) {K:Value->WP} {w:World} (h:S108 x0 x1 K w):Calls prog 108 #[(.pointer x0),(.int .i64 x1)] w (Ret K):=cF an108 false Tryz.func108 h
def an109:Ann:=(AN (AR (AN (AQ AO AP)) (AN (AR (AN (.block (.loop [(2,.sh (.one .slc)),(3,.sh (.one .str)),(17,.sh (.one (.int .i64)))] [16,1000000] (AN (AR (AQ AP AP) (AR (.block (AN (AR (AN (AQ AO AP)) AP))) AP)))))) (AR (AN (AQ AO AP)) AO)))))
def S109 (x0:ByteArray) (K:Value->WP):WP:=
 za (x0.toList==(ByteArray.mk #[]).toList) (K (.tuple #[(.slice none 0 0),(.string (ByteArray.mk #[])),(.int .i64 (171:Int))]))<|
 zA<|
 zc (0<=(0:Int)/\(0:Int)<((x0.size:Nat):Int))<|
 zc (0<=(1:Int)/\(1:Int)<=((x0.size:Nat):Int))<|
 zH (SLC×ByteArray×Int×Unit) ((none,0,0),(ByteArray.extract x0 (Int.toNat (1:Int)) x0.size),(0:Int),()) fun(y2:SLC×ByteArray×Int×Unit) (I1:(SLC×ByteArray×Int×Unit)->WP)=>
 za (decide (y2.2.2.1<(wrap .i64 (bt x0 (0:Int))))) (ze prog 157 [(.string y2.2.1)] (.many [(.agg [.str,(.int .i64),.bool]),(.one .str),(.one .bool)]) fun(u3:(ByteArray×Int×Bool×Unit)×ByteArray×Bool×Unit)=>
 zh (.cells #[(.string ByteArray.empty),(.int .i64 (0:Int)),(.bool false)] 62) fun(r4:Nat)=>
 zc ((#[(.string u3.1.1),(.int .i64 u3.1.2.1),(.bool u3.1.2.2.1)]:Array Value).size=3)<|
 zt (aD r4) [(.string u3.1.1),(.int .i64 u3.1.2.1),(.bool u3.1.2.2.1)]<|
 za (!u3.2.2.1) (K (.tuple #[(.slice none 0 0),(.string (ByteArray.mk #[])),(.int .i64 (171:Int))]))<|
 zk [.str,(.int .i64),.bool] (aD r4) fun(u5:(ByteArray×Int×Bool×Unit))=>
 zh (.cells #[(.string u5.1),(.int .i64 u5.2.1),(.bool u5.2.2.1)] 62) fun(r6:Nat)=>
 zw prog (Builtin.append_ #[40,40] 40 #[(.slice y2.1.1 y2.1.2.1 y2.1.2.2),(.slice (some (aD r6)) 1 1)]) .slc fun(u7:SLC)=>I1 ((u7.1,u7.2.1,u7.2.2),u3.2.1,(wrap .i64 (y2.2.2.1+(1:Int))),()))<|
 ze prog 106 [(.slice y2.1.1 y2.1.2.1 y2.1.2.2)] (.one (.one (.int .i64))) fun(u8:Int)=>
 za (u8 !=(0:Int)) (K (.tuple #[(.slice none 0 0),(.string (ByteArray.mk #[])),(.int .i64 (171:Int))]))<|K (.tuple #[(.slice y2.1.1 y2.1.2.1 y2.1.2.2),(.string y2.2.1),(.int .i64 (0:Int))])
theorem zlg (x0:ByteArray) {K:Value->WP} {w:World} (h:S109 x0 K w):Calls prog 109 #[(.string x0)] w (Ret K):=cF an109 false Tryz.func109 h
def an110:Ann:=(AN (AR (AN (AQ AO AP)) (AN (AR (AN (.block (.loop [] [14,1000000] (AN (AR (AQ AP AP) (.block (AN (.join [] [1000000] (.block (.join [(19,.sh (.one .bool))] [3,4,14,1000000] (AN (AQ AP (AN (AQ AP AP)))) (AQ AP (AN (AQ AP AP))))) AO)))))))) AO))))
def S110 (x0:ByteArray) (K:Value->WP):WP:=
 za (decide (((x0.size:Nat):Int)<(1:Int))) (K (.int .i64 (170:Int)))<|
 za (decide (((x0.size:Nat):Int)>(32:Int))) (K (.int .i64 (170:Int)))<|
 zh (.stringIter x0 0) fun(r1:Nat)=>
 zH (Unit) () fun(y3:Unit) (I2:(Unit)->WP)=>
 zm1 r1 (fun(i4 c5:Int)=>
 za true (yC (Unit) (fun(J6:(Unit)->WP)=>
 yC (Bool×Unit) (fun(J8:(Bool×Unit)->WP)=>
 za (decide (c5>=(97:Int))) (za (decide (c5<=(122:Int))) (J8 ((decide (c5<=(122:Int))),()))<|
 za (decide (c5>=(65:Int))) (za (decide (c5<=(90:Int))) (J8 ((decide (c5<=(90:Int))),()))<|J8 ((c5==(95:Int)),()))<|J8 ((c5==(95:Int)),()))<|
 za (decide (c5>=(65:Int))) (za (decide (c5<=(90:Int))) (J8 ((decide (c5<=(90:Int))),()))<|J8 ((c5==(95:Int)),()))<|J8 ((c5==(95:Int)),())) fun(y9:Bool×Unit)=>
 za y9.1 (I2 ())<|
 za (decide (i4>(0:Int))) (za (decide (c5>=(48:Int))) (za (decide (c5<=(57:Int))) (I2 ())<|J6 ())<|J6 ())<|J6 ()) fun(y7:Unit)=>K (.int .i64 (170:Int)))<|K (.int .i64 (0:Int)))<|
 za false (zl)<|K (.int .i64 (0:Int))
theorem zlh (x0:ByteArray) {K:Value->WP} {w:World} (h:S110 x0 K w):Calls prog 110 #[(.string x0)] w (Ret K):=cF an110 false Tryz.func110 h
def an111:Ann:=(AN (AR (AN (AQ AO AP)) AO))
def S111 (Aa:Int) (Af:Int) (K:Value->WP):WP:=
 zh (.cells #[(.int .i64 Aa),(.int .i64 Af)] 72) fun(r1:Nat)=>
 ldW (.int .i64) (aD r1) fun(u2:Int)=>
 za (decide (u2<(128:Int))) (K (.int .i64 (2:Int)))<|
 ldW (.int .i64) (aD r1) fun(u3:Int)=>
 za (decide (u3>(4096:Int))) (K (.int .i64 (2:Int)))<|
 ldW (.int .i64) (aD r1) fun(u4:Int)=>
 za ((Int.tmod u4 (64:Int)) !=(0:Int)) (K (.int .i64 (2:Int)))<|
 ldW (.int .i64) ((aD r1).add 1) fun(u5:Int)=>
 za (decide (u5<(8:Int))) (K (.int .i64 (2:Int)))<|
 ldW (.int .i64) ((aD r1).add 1) fun(u6:Int)=>
 za (decide (u6>(4096:Int))) (K (.int .i64 (2:Int)))<|K (.int .i64 (0:Int))
theorem zli (Aa:Int) (Af:Int) {K:Value->WP} {w:World} (h:S111 Aa Af K w):Calls prog 111 #[(.agg #[(.int .i64 Aa),(.int .i64 Af)])] w (Ret K):=cF an111 false Tryz.func111 h
def an112:Ann:=(AN (.join [] [0,1,1000000] (AN (AQ AP AP)) (AN (.join [] [0,6,1000000] (AN (AQ AP AP)) (AN (AN (AR (.block (.loop [(8,.sh (.one (.int .i64)))] [7,1000000] (AR (AN (AQ AP AP)) (.block AP)))) AO)))))))
def S112 (a0:Option Addr) (n0 c0:Nat) (x1:Int) (K:Value->WP):WP:=
 yC (Unit) (fun(J1:(Unit)->WP)=>
 za (decide (x1<(0:Int))) (zl)<|J1 ()) fun(y2:Unit)=>
 ze prog 158 [(.int .u64 (wrap .u64 ((n0:Nat):Int))),(.int .u64 (wrap .u64 x1))] (.many [(.one (.int .u64)),(.one (.int .u64))]) fun(u3:Int×Int×Unit)=>
 yC (Unit) (fun(J4:(Unit)->WP)=>
 za (decide (u3.1>(0:Int))) (zl)<|
 za (decide (u3.2.1>(9223372036854775807:Int))) (zl)<|J4 ()) fun(y5:Unit)=>
 zw prog (Instr.makeSlice 158 (.int .i64 (wrap .i64 u3.2.1)) (.int .i64 (wrap .i64 u3.2.1))) .slc fun(u6:SLC)=>
 zw prog (Builtin.copy_ #[158,158] 3 #[(.slice u6.1 u6.2.1 u6.2.2),(.slice a0 n0 c0)]) (.int .i64) fun(u7:Int)=>
 zH (Int×Unit) (u7,()) fun(y9:Int×Unit) (I8:(Int×Unit)->WP)=>
 za (decide (y9.1<((u6.2.1:Nat):Int))) (zA<|
 zc (0<=y9.1/\y9.1<=((u6.2.1:Nat):Int))<|
 zc (0<=y9.1/\y9.1<=((u6.2.2:Nat):Int))<|
 zw prog (Builtin.copy_ #[158,158] 3 #[(.slice (zm u6.1 (Int.toNat y9.1) u6.2.2 1) (u6.2.1-(Int.toNat y9.1)) (u6.2.2-(Int.toNat y9.1))),(.slice (zm u6.1 0 u6.2.2 1) (Int.toNat y9.1) u6.2.2)]) (.int .i64) fun(u10:Int)=>I8 ((wrap .i64 (y9.1+u10)),()))<|K (.slice u6.1 u6.2.1 u6.2.2)
theorem zlj (a0:Option Addr) (n0 c0:Nat) (x1:Int) {K:Value->WP} {w:World} (h:S112 a0 n0 c0 x1 K w):Calls prog 112 #[(.slice a0 n0 c0),(.int .i64 x1)] w (Ret K):=cF an112 false Tryz.func112 h
def an114:Ann:=(AN (AR (AN (AQ AO AP)) (AN (AN AO))))
def S114 (Aa:Int) (Af:Int) (K:Value->WP):WP:=
 zh (.cells #[(.int .i64 Aa),(.int .i64 Af)] 72) fun(r1:Nat)=>
 zk [(.int .i64),(.int .i64)] (aD r1) fun(u2:(Int×Int×Unit))=>
 ze prog 111 [(.agg #[(.int .i64 u2.1),(.int .i64 u2.2.1)])] (.one (.one (.int .i64))) fun(u3:Int)=>
 za (u3 !=(0:Int)) (K (.tuple #[(.pointer none),(.int .i64 (2:Int))]))<|
 zA<|
 zk [(.int .i64),(.int .i64)] (aD r1) fun(u4:(Int×Int×Unit))=>
 ldW (.int .i64) ((aD r1).add 1) fun(u5:Int)=>
 zw prog (Instr.makeSlice 191 (.int .i64 u5) (.int .i64 u5)) .slc fun(u6:SLC)=>
 zq [[((aD r1).add 0,(.int .i64 u4.1)),((aD r1).add 1,(.int .i64 u4.2.1))]]<|
 zh (.cells #[(.int .i64 u4.1),(.int .i64 u4.2.1),(.slice u6.1 u6.2.1 u6.2.2)] 193) fun(r7:Nat)=>
 zA<|
 zi (some (aD r7)) fun(p8:Addr)=>
 ldW .slc (p8.add 2) fun(u9:SLC)=>
 zi (some (aD r7)) fun(p10:Addr)=>
 ldW .slc (p10.add 2) fun(u11:SLC)=>
 zc (0<=(0:Int)/\(0:Int)<((u9.2.1:Nat):Int))<|
 zi u9.1 fun(p12:Addr)=>
 stW (p12.add (Int.toNat (0:Int)*1)) (.int .u16 (1:Int))<|
 zc (0<=(1:Int)/\(1:Int)<((u11.2.1:Nat):Int))<|
 zi u11.1 fun(p13:Addr)=>
 stW (p13.add (Int.toNat (1:Int)*1)) (.int .u16 (1:Int))<|K (.tuple #[(.pointer (some (aD r7))),(.int .i64 (0:Int))])
theorem zlk (Aa:Int) (Af:Int) {K:Value->WP} {w:World} (h:S114 Aa Af K w):Calls prog 114 #[(.agg #[(.int .i64 Aa),(.int .i64 Af)])] w (Ret K):=cF an114 false Tryz.func114 h
def an115:Ann:=(AN (AR (AN (AQ AO AP)) (AN AO)))
def S115 (Aa:Int) (Af:Int) (K:Value->WP):WP:=
 zh (.cells #[(.int .i64 Aa),(.int .i64 Af)] 72) fun(r1:Nat)=>
 zk [(.int .i64),(.int .i64)] (aD r1) fun(u2:(Int×Int×Unit))=>
 ze prog 111 [(.agg #[(.int .i64 u2.1),(.int .i64 u2.2.1)])] (.one (.one (.int .i64))) fun(u3:Int)=>
 za (u3 !=(0:Int)) (K (.int .i64 (0:Int)))<|
 ldW (.int .i64) (aD r1) fun(u4:Int)=>
 ze prog 121 [(.int .i64 u4)] (.one (.one (.int .i64))) fun(u5:Int)=>
 ldW (.int .i64) ((aD r1).add 1) fun(u6:Int)=>
 zc (u5≠0)<|K (.int .i64 (wrap .i64 (Int.tdiv (wrap .i64 ((wrap .i64 ((wrap .i64 ((2:Int)*u6))+u5))-(1:Int))) u5)))
theorem zgu (Aa:Int) (Af:Int) {K:Value->WP} {w:World} (h:S115 Aa Af K w):Calls prog 115 #[(.agg #[(.int .i64 Aa),(.int .i64 Af)])] w (Ret K):=cF an115 false Tryz.func115 h
def an116:Ann:=(AN (.join [] [0,1,1000000] (.block (AN (AQ AO (AN (AQ AO AP))))) (AR (AN (.block (.loop [(30,.sh (.one (.int .i64)))] [0,1,28,29,1000000] (AN (AR (AQ AP AP) (AR (.block (AN (AN (AQ (AN AO) AP)))) AP)))))) AO)))
def S116 (x0:Option Addr) (x1:Option Addr) (K:Value->WP):WP:=
 yC (Unit) (fun(J1:(Unit)->WP)=>
 za (Option.isNone x0) (K (.tuple #[(.int .u32 (0:Int)),(.int .i64 (1:Int))]))<|
 zA<|
 za (!(Option.isNone x1)) (zi x1 fun(p3:Addr)=>
 zk [(.int .i64),(.int .i64)] p3 fun(u4:(Int×Int×Unit))=>
 zi x0 fun(p5:Addr)=>
 zk [(.int .i64),(.int .i64)] p5 fun(u6:(Int×Int×Unit))=>
 eqW prog (eqS .neq 72 (.tmp 18) (.tmp 22) (.agg #[(.int .i64 u4.1),(.int .i64 u4.2.1)]) (.agg #[(.int .i64 u6.1),(.int .i64 u6.2.1)])) fun(b7:Bool)=>
 za b7 (K (.tuple #[(.int .u32 (0:Int)),(.int .i64 (2:Int))]))<|J1 ())<|J1 ()) fun(y2:Unit)=>
 zi x0 fun(p8:Addr)=>
 ldW .slc (p8.add 2) fun(u9:SLC)=>
 zH (Int×Unit) ((0:Int),()) fun(y11:Int×Unit) (I10:(Int×Unit)->WP)=>
 za (decide (y11.1<((u9.2.1:Nat):Int))) (zc (0<=y11.1/\y11.1<((u9.2.1:Nat):Int))<|
 zi u9.1 fun(p12:Addr)=>
 ldW (.int .u16) (p12.add (Int.toNat y11.1*1)) fun(u13:Int)=>
 za (u13==(0:Int)) (ze prog 75 [(.pointer x1),(.int .u32 (wrap .u32 y11.1))] (.one (.one (.int .i64))) fun(u14:Int)=>
 za (u14==(0:Int)) (zi x0 fun(p15:Addr)=>
 ldW .slc (p15.add 2) fun(u16:SLC)=>
 zc (0<=y11.1/\y11.1<((u16.2.1:Nat):Int))<|
 zi u16.1 fun(p17:Addr)=>
 stW (p17.add (Int.toNat y11.1*1)) (.int .u16 (1:Int))<|K (.tuple #[(.int .u32 (wrap .u32 y11.1)),(.int .i64 (0:Int))]))<|I10 ((wrap .i64 (y11.1+(1:Int))),()))<|I10 ((wrap .i64 (y11.1+(1:Int))),()))<|K (.tuple #[(.int .u32 (0:Int)),(.int .i64 (9:Int))])
theorem zll (x0:Option Addr) (x1:Option Addr) {K:Value->WP} {w:World} (h:S116 x0 x1 K w):Calls prog 116 #[(.pointer x0),(.pointer x1)] w (Ret K):=cF an116 false Tryz.func116 h
def an117:Ann:=(AN (AN (.join [] [1,3,1000000] (AN (AQ AO AP)) (AR (AN (.block (.loop [(40,.sh (.one (.int .i64)))] [1,3,38,39,1000000] (AN (AR (AQ AP AP) (AR (.block (AN (AN (AQ AO AP)))) AP)))))) (AR (AN (AQ AO AP)) AO)))))
def S117 (Aa:Int) (Af:Int) (Ag:Int) (Ar:Int) (AF:Option Addr) (AG AH:Nat) (K:Value->WP):WP:=
 zh (.cells #[(.int .u64 Aa),(.int .i64 Af),(.int .i64 Ag),(.int .u32 Ar),(.slice AF AG AH)] 79) fun(r1:Nat)=>
 yC (Unit) (fun(J2:(Unit)->WP)=>
 zA<|
 zk [(.int .i64),(.int .i64)] ((aD r1).add 1) fun(u4:(Int×Int×Unit))=>
 ze prog 111 [(.agg #[(.int .i64 u4.1),(.int .i64 u4.2.1)])] (.one (.one (.int .i64))) fun(u5:Int)=>
 za (u5 !=(0:Int)) (K (.int .i64 (2:Int)))<|
 ldW (.int .u64) (aD r1) fun(u6:Int)=>
 za (u6==(0:Int)) (K (.int .i64 (2:Int)))<|
 ldW (.int .u32) ((aD r1).add 3) fun(u7:Int)=>
 za (u7 !=(0:Int)) (ldW (.int .u32) ((aD r1).add 3) fun(u8:Int)=>
 yF prog (.func (.func 161) #[] #[(.pointer (some (aD r1)))]) [(.int .u32 u8)] (.one (.one .bool)) fun(u9:Bool)=>
 za (!u9) (K (.int .i64 (2:Int)))<|
 ldW .slc ((aD r1).add 4) fun(u10:SLC)=>
 zk [(.int .i64),(.int .i64)] ((aD r1).add 1) fun(u11:(Int×Int×Unit))=>
 ze prog 115 [(.agg #[(.int .i64 u11.1),(.int .i64 u11.2.1)])] (.one (.one (.int .i64))) fun(u12:Int)=>
 zq [[(((aD r1).add 4),(.slice u10.1 u10.2.1 u10.2.2))]]<|
 za (((u10.2.1:Nat):Int) !=u12) (K (.int .i64 (2:Int)))<|J2 ())<|
 ldW .slc ((aD r1).add 4) fun(u13:SLC)=>
 zk [(.int .i64),(.int .i64)] ((aD r1).add 1) fun(u14:(Int×Int×Unit))=>
 ze prog 115 [(.agg #[(.int .i64 u14.1),(.int .i64 u14.2.1)])] (.one (.one (.int .i64))) fun(u15:Int)=>
 zq [[(((aD r1).add 4),(.slice u13.1 u13.2.1 u13.2.2))]]<|
 za (((u13.2.1:Nat):Int) !=u15) (K (.int .i64 (2:Int)))<|J2 ()) fun(y3:Unit)=>
 ldW .slc ((aD r1).add 4) fun(u16:SLC)=>
 zH (Int×Unit) ((0:Int),()) fun(y18:Int×Unit) (I17:(Int×Unit)->WP)=>
 za (decide (y18.1<((u16.2.1:Nat):Int))) (zc (0<=y18.1/\y18.1<((u16.2.1:Nat):Int))<|
 zi u16.1 fun(p19:Addr)=>
 ldW (.int .u32) (p19.add (Int.toNat y18.1*1)) fun(u20:Int)=>
 yF prog (.func (.func 161) #[] #[(.pointer (some (aD r1)))]) [(.int .u32 u20)] (.one (.one .bool)) fun(u21:Bool)=>
 za (!u21) (K (.int .i64 (2:Int)))<|
 ldW (.int .u32) ((aD r1).add 3) fun(u22:Int)=>
 za (u20==u22) (K (.int .i64 (2:Int)))<|
 ldW .slc ((aD r1).add 4) fun(u23:SLC)=>
 zc (0<=y18.1/\y18.1<=((u23.2.2:Nat):Int))<|
 ze prog 120 [(.slice (zm u23.1 0 u23.2.2 1) (Int.toNat y18.1) u23.2.2),(.int .u32 u20)] (.one (.one .bool)) fun(u24:Bool)=>
 za u24 (K (.int .i64 (2:Int)))<|I17 ((wrap .i64 (y18.1+(1:Int))),()))<|
 zA<|
 ldW .slc ((aD r1).add 4) fun(u25:SLC)=>
 ldW (.int .i64) ((aD r1).add 1) fun(u26:Int)=>
 ze prog 121 [(.int .i64 u26)] (.one (.one (.int .i64))) fun(u27:Int)=>
 zq [[(((aD r1).add 4),(.slice u25.1 u25.2.1 u25.2.2))]]<|
 za (decide ((wrap .i64 ((14:Int)+(wrap .i64 ((4:Int)*((u25.2.1:Nat):Int)))))>u27)) (K (.int .i64 (3:Int)))<|K (.int .i64 (0:Int))
theorem zlm (Aa:Int) (Af:Int) (Ag:Int) (Ar:Int) (AF:Option Addr) (AG AH:Nat) {K:Value->WP} {w:World} (h:S117 Aa Af Ag Ar AF AG AH K w):Calls prog 117 #[(.agg #[(.int .u64 Aa),(.int .i64 Af),(.int .i64 Ag),(.int .u32 Ar),(.slice AF AG AH)])] w (Ret K):=cF an117 false Tryz.func117 h
def an118:Ann:=(AN (AR (.block (AN (AQ AO (AN (AQ AO (AN (AQ AO AP))))))) (AN AO)))
def S118 (x0:Option Addr) (x1:Int) (x2:ByteArray) (K:Value->WP):WP:=
 za (Option.isNone x0) (K (.int .i64 (1:Int)))<|
 ze prog 162 [(.pointer x0),(.int .i64 x1)] (.one (.one .bool)) fun(u1:Bool)=>
 za (!u1) (K (.int .i64 (2:Int)))<|
 zi x0 fun(p2:Addr)=>
 ldW (.int .i64) p2 fun(u3:Int)=>
 za (((x2.size:Nat):Int) !=u3) (K (.int .i64 (2:Int)))<|
 ze prog 163 [(.pointer x0)] (.one (.one .bool)) fun(u4:Bool)=>
 za (!u4) (K (.int .i64 (8:Int)))<|
 zi x0 fun(p5:Addr)=>
 ldW .slc (p5.add 3) fun(u6:SLC)=>
 zh (.cells #[(.int .i64 x1),(.string x2)] 230) fun(r7:Nat)=>
 zw prog (Builtin.append_ #[159,159] 159 #[(.slice u6.1 u6.2.1 u6.2.2),(.slice (some (aD r7)) 1 1)]) .slc fun(u8:SLC)=>
 zi x0 fun(p9:Addr)=>
 stW (p9.add 3) (.slice u8.1 u8.2.1 u8.2.2)<|K (.int .i64 (0:Int))
theorem zln (x0:Option Addr) (x1:Int) (x2:ByteArray) {K:Value->WP} {w:World} (h:S118 x0 x1 x2 K w):Calls prog 118 #[(.pointer x0),(.int .i64 x1),(.string x2)] w (Ret K):=cF an118 false Tryz.func118 h
def an119:Ann:=(AN (AR (AN (.block (.loop [(8,.sh (.one (.int .i64)))] [0,1,7,1000000] (AN (AR (AQ AP AP) (AR (.block (AN (AN (AQ AO AP)))) AP)))))) AO))
def S119 (a0:Option Addr) (n0 c0:Nat) (x1:Value) (K:Value->WP):WP:=
 zH (Int×Unit) ((0:Int),()) fun(y2:Int×Unit) (I1:(Int×Unit)->WP)=>
 za (decide (y2.1<((n0:Nat):Int))) (zc (0<=y2.1/\y2.1<((n0:Nat):Int))<|
 zi a0 fun(p3:Addr)=>
 ldW (.int .u32) (p3.add (Int.toNat y2.1*1)) fun(u4:Int)=>
 yF prog x1 [(.int .u32 u4)] (.one (.one .bool)) fun(u5:Bool)=>
 za u5 (K (.int .i64 y2.1))<|I1 ((wrap .i64 (y2.1+(1:Int))),()))<|K (.int .i64 (-1:Int))
theorem zlo (a0:Option Addr) (n0 c0:Nat) (x1:Value) {K:Value->WP} {w:World} (h:S119 a0 n0 c0 x1 K w):Calls prog 119 #[(.slice a0 n0 c0),x1] w (Ret K):=cF an119 false Tryz.func119 h
def an120:Ann:=(AN AO)
def S120 (a0:Option Addr) (n0 c0:Nat) (x1:Int) (K:Value->WP):WP:=
 ze prog 164 [(.slice a0 n0 c0),(.int .u32 x1)] (.one (.one (.int .i64))) fun(u1:Int)=>K (.bool (decide (u1>=(0:Int))))
theorem zlp (a0:Option Addr) (n0 c0:Nat) (x1:Int) {K:Value->WP} {w:World} (h:S120 a0 n0 c0 x1 K w):Calls prog 120 #[(.slice a0 n0 c0),(.int .u32 x1)] w (Ret K):=cF an120 false Tryz.func120 h
def an121:Ann:=(AN (AR (AN (AQ AO AP)) AO))
def S121 (x0:Int) (K:Value->WP):WP:=
 ze prog 111 [(.agg #[(.int .i64 x0),(.int .i64 (8:Int))])] (.one (.one (.int .i64))) fun(u1:Int)=>
 za (u1 !=(0:Int)) (K (.int .i64 (0:Int)))<|K (.int .i64 (wrap .i64 ((wrap .i64 (x0-(12:Int)))-(4:Int))))
theorem zlq (x0:Int) {K:Value->WP} {w:World} (h:S121 x0 K w):Calls prog 121 #[(.int .i64 x0)] w (Ret K):=cF an121 false Tryz.func121 h
def an122:Ann:=(AN (.block (.loop [(6,.sh (.one (.int .i64)))] [1,4,5,1000000] (AN (AR (AQ AP AP) (AR (.block AO) AP))))))
def S122 (a0:Addr) (a1:Addr) (K:Value->WP):WP:=
 ldW .slc a0 fun(u1:SLC)=>
 zH (Int×Unit) ((0:Int),()) fun(y3:Int×Unit) (I2:(Int×Unit)->WP)=>
 za (decide (y3.1<((u1.2.1:Nat):Int))) (zc (0<=y3.1/\y3.1<((u1.2.1:Nat):Int))<|
 zi u1.1 fun(p4:Addr)=>
 ldW (.int .u32) (p4.add (Int.toNat y3.1*1)) fun(u5:Int)=>
 ldW .ptr a1 fun(u6:Option Addr)=>
 zi u6 fun(p7:Addr)=>
 ldW .ptr (p7.add 8) fun(u8:Option Addr)=>
 ze prog 87 [(.pointer u8),(.int .u32 u5)] (.many [(.one (.int .i64)),(.one (.int .i64))]) fun(u9:Int×Int×Unit)=>I2 ((wrap .i64 (y3.1+(1:Int))),()))<|K (.tuple #[])
theorem zpl (a0:Addr) (a1:Addr) (K:Value->WP):uU prog Tryz.f122 an122 false [(.pointer (some a0)),(.pointer (some a1))] K=S122 a0 a1 K:=by kernel_rfl
theorem zj4 (a0:Addr) (a1:Addr) {K:Value->WP} {w:World} (h:S122 a0 a1 K w):uv prog 122 [(.pointer (some a0)),(.pointer (some a1))] w K:=uY mixed Tryz.func122 (of_decide_eq_true (by kernel_rfl)) (by rw[zpl];exact h)
def an123:Ann:=(AN (AN (AR (.block (AN (AQ AO (AN (AQ AO AP))))) (AN (AN (AN (AN (AN (AN (AN AO))))))))))
def S123 (x0:Int) (AA:Int) (AM:Int) (AB:ByteArray) (K:Value->WP):WP:=
 zh (.cells #[(.int .u8 AA),(.int .u64 AM),(.string AB)] 127) fun(r1:Nat)=>
 ze prog 121 [(.int .i64 x0)] (.one (.one (.int .i64))) fun(u2:Int)=>
 za (u2==(0:Int)) (K (.tuple #[(.string (ByteArray.mk #[])),(.int .i64 (2:Int))]))<|
 ldW .str ((aD r1).add 2) fun(u3:ByteArray)=>
 za (decide (((u3.size:Nat):Int)>u2)) (K (.tuple #[(.string (ByteArray.mk #[])),(.int .i64 (3:Int))]))<|
 zw prog (Instr.makeSlice 85 (.int .i64 x0) (.int .i64 x0)) .slc fun(u4:SLC)=>
 zA<|
 zc (0<=(0:Int)/\(0:Int)<=(12:Int)/\(12:Int)<=((u4.2.2:Nat):Int))<|
 ldW (.int .u8) (aD r1) fun(u5:Int)=>
 zh (.cells #[(.int .u8 u5),(.int .u8 (0:Int))] 5) fun(r6:Nat)=>
 zw prog (Builtin.append_ #[85,85] 85 #[(.slice (zm u4.1 0 (Int.toNat (12:Int)) 1) (Int.toNat (0:Int)) (Int.toNat (12:Int))),(.slice (some (aD r6)) 2 2)]) .slc fun(u7:SLC)=>
 ldW .str ((aD r1).add 2) fun(u8:ByteArray)=>
 ze prog 42 [(.slice u7.1 u7.2.1 u7.2.2),(.int .u64 (wrap .u64 ((u8.size:Nat):Int))),(.int .i64 (2:Int))] (.one (.one .slc)) fun(u9:SLC)=>
 ldW (.int .u64) ((aD r1).add 1) fun(u10:Int)=>
 ze prog 42 [(.slice u9.1 u9.2.1 u9.2.2),(.int .u64 u10),(.int .i64 (8:Int))] (.one (.one .slc)) fun(u11:SLC)=>
 zA<|
 zc (0<=(12:Int)/\(12:Int)<=((u4.2.1:Nat):Int))<|
 ldW .str ((aD r1).add 2) fun(u12:ByteArray)=>
 zw prog (Builtin.copy_ #[85,9] 3 #[(.slice (zm u4.1 (Int.toNat (12:Int)) u4.2.2 1) (u4.2.1-(Int.toNat (12:Int))) (u4.2.2-(Int.toNat (12:Int)))),(.string u12)]) (.int .i64) fun(u13:Int)=>
 zA<|
 zc (0<=(wrap .i64 (x0-(4:Int)))/\(wrap .i64 (x0-(4:Int)))<=(wrap .i64 (x0-(4:Int)))/\(wrap .i64 (x0-(4:Int)))<=x0/\x0<=((u4.2.2:Nat):Int))<|
 zc (0<=(wrap .i64 (x0-(4:Int)))/\(wrap .i64 (x0-(4:Int)))<=((u4.2.2:Nat):Int))<|
 ze prog 165 [(.slice (zm u4.1 0 u4.2.2 1) (Int.toNat (wrap .i64 (x0-(4:Int)))) u4.2.2)] (.one (.one (.int .u32))) fun(u14:Int)=>
 ze prog 42 [(.slice (zm u4.1 (Int.toNat (wrap .i64 (x0-(4:Int)))) (Int.toNat x0) 1) ((Int.toNat (wrap .i64 (x0-(4:Int))))-(Int.toNat (wrap .i64 (x0-(4:Int))))) ((Int.toNat x0)-(Int.toNat (wrap .i64 (x0-(4:Int)))))),(.int .u64 (wrap .u64 u14)),(.int .i64 (4:Int))] (.one (.one .slc)) fun(u15:SLC)=>
 zw prog (Go.convert 85 9 (.slice u4.1 u4.2.1 u4.2.2)) .str fun(u16:ByteArray)=>K (.tuple #[(.string u16),(.int .i64 (0:Int))])
theorem zlr (x0:Int) (AA:Int) (AM:Int) (AB:ByteArray) {K:Value->WP} {w:World} (h:S123 x0 AA AM AB K w):Calls prog 123 #[(.int .i64 x0),(.agg #[(.int .u8 AA),(.int .u64 AM),(.string AB)])] w (Ret K):=cF an123 false Tryz.func123 h
def an124:Ann:=(AN (AN (AR (.block (AN (AQ AO (AN (AQ AO (AN (AQ AO AP))))))) (AR (AN (.block (.loop [(56,.sh (.one (.int .i64)))] [0,2,3,8,10,54,55,1000000] (AN (AR (AQ AP AP) (.join [] [0,2,3,8,10,54,55,56,1000000] (.block (AN (AN (AR (AN (AQ AO AP)) (.join [(15,.sh (.one .bool))] [0,2,3,8,10,11,13,54,55,56,1000000] AP (.join [] [0,2,3,8,10,11,13,54,55,56,1000000] (AN (AQ AO AP)) (.join [] [0,2,3,8,10,13,54,55,56,1000000] (AN (AQ AP AP)) AP))))))) AP)))))) AO))))
def S124 (x0:Option Addr) (x1:Int) (x2:Int) (x3:Bool) (K:Value->WP):WP:=
 zh (.cells #[(.int .i64 (0:Int)),(.int .u64 (0:Int)),(.int .u64 (0:Int)),(.int .u8 (0:Int)),(.int .i64 (0:Int))] 197) fun(r1:Nat)=>
 ze prog 166 [(.pointer x0),(.int .u32 x1)] (.many [(.agg [(.int .u8),.slc,.slc,.slc]),(.one (.int .i64))]) fun(u2:(Int×SLC×SLC×SLC×Unit)×Int×Unit)=>
 zh (.cells #[(.int .u8 (0:Int)),(.slice none 0 0),(.slice none 0 0),(.slice none 0 0)] 215) fun(r3:Nat)=>
 zc ((#[(.int .u8 u2.1.1),(.slice u2.1.2.1.1 u2.1.2.1.2.1 u2.1.2.1.2.2),(.slice u2.1.2.2.1.1 u2.1.2.2.1.2.1 u2.1.2.2.1.2.2),(.slice u2.1.2.2.2.1.1 u2.1.2.2.2.1.2.1 u2.1.2.2.2.1.2.2)]:Array Value).size=4)<|
 zt (aD r3) [(.int .u8 u2.1.1),(.slice u2.1.2.1.1 u2.1.2.1.2.1 u2.1.2.1.2.2),(.slice u2.1.2.2.1.1 u2.1.2.2.1.2.1 u2.1.2.2.1.2.2),(.slice u2.1.2.2.2.1.1 u2.1.2.2.2.1.2.1 u2.1.2.2.2.1.2.2)]<|
 za (u2.2.1 !=(0:Int)) (zk [(.int .i64),(.int .u64),(.int .u64),(.int .u8),(.int .i64)] (aD r1) fun(u4:(Int×Int×Int×Int×Int×Unit))=>
 zc ((#[(.int .i64 u4.1),(.int .u64 u4.2.1),(.int .u64 u4.2.2.1),(.int .u8 u4.2.2.2.1),(.int .i64 u4.2.2.2.2.1)]:Array Value).size=5)<|
 zt (aD r1) [(.int .i64 u4.1),(.int .u64 u4.2.1),(.int .u64 u4.2.2.1),(.int .u8 u4.2.2.2.1),(.int .i64 u4.2.2.2.2.1)]<|
 zk [(.int .i64),(.int .u64),(.int .u64),(.int .u8),(.int .i64)] (aD r1) fun(u5:(Int×Int×Int×Int×Int×Unit))=>K (.tuple #[(.agg #[(.int .i64 u5.1),(.int .u64 u5.2.1),(.int .u64 u5.2.2.1),(.int .u8 u5.2.2.2.1),(.int .i64 u5.2.2.2.2.1)]),(.int .i64 u2.2.1)]))<|
 za (decide (x2>(16:Int))) (zk [(.int .i64),(.int .u64),(.int .u64),(.int .u8),(.int .i64)] (aD r1) fun(u6:(Int×Int×Int×Int×Int×Unit))=>
 zc ((#[(.int .i64 u6.1),(.int .u64 u6.2.1),(.int .u64 u6.2.2.1),(.int .u8 u6.2.2.2.1),(.int .i64 u6.2.2.2.2.1)]:Array Value).size=5)<|
 zt (aD r1) [(.int .i64 u6.1),(.int .u64 u6.2.1),(.int .u64 u6.2.2.1),(.int .u8 u6.2.2.2.1),(.int .i64 u6.2.2.2.2.1)]<|
 zk [(.int .i64),(.int .u64),(.int .u64),(.int .u8),(.int .i64)] (aD r1) fun(u7:(Int×Int×Int×Int×Int×Unit))=>K (.tuple #[(.agg #[(.int .i64 u7.1),(.int .u64 u7.2.1),(.int .u64 u7.2.2.1),(.int .u8 u7.2.2.2.1),(.int .i64 u7.2.2.2.2.1)]),(.int .i64 (10:Int))]))<|
 zk [(.int .u8),.slc,.slc,.slc] (aD r3) fun(u8:(Int×SLC×SLC×SLC×Unit))=>
 ze prog 167 [(.agg #[(.int .u8 u8.1),(.slice u8.2.1.1 u8.2.1.2.1 u8.2.1.2.2),(.slice u8.2.2.1.1 u8.2.2.1.2.1 u8.2.2.1.2.2),(.slice u8.2.2.2.1.1 u8.2.2.2.1.2.1 u8.2.2.2.1.2.2)])] (.one (.one .bool)) fun(u9:Bool)=>
 za (!u9) (zA<|
 ldW .slc ((aD r3).add 1) fun(u10:SLC)=>
 ldW .slc ((aD r3).add 1) fun(u11:SLC)=>
 zc (0<=(0:Int)/\(0:Int)<((u11.2.1:Nat):Int))<|
 zi u11.1 fun(p12:Addr)=>
 ldW (.int .u64) (p12.add (Int.toNat (0:Int)*1)) fun(u13:Int)=>
 ldW .slc ((aD r3).add 1) fun(u14:SLC)=>
 ldW .slc ((aD r3).add 1) fun(u15:SLC)=>
 zc (0<=(wrap .i64 (((u15.2.1:Nat):Int)-(1:Int)))/\(wrap .i64 (((u15.2.1:Nat):Int)-(1:Int)))<((u14.2.1:Nat):Int))<|
 zi u14.1 fun(p16:Addr)=>
 ldW (.int .u64) (p16.add (Int.toNat (wrap .i64 (((u15.2.1:Nat):Int)-(1:Int)))*1)) fun(u17:Int)=>
 ldW (.int .u8) (aD r3) fun(u18:Int)=>
 zc ((#[(.int .i64 ((u10.2.1:Nat):Int)),(.int .u64 u13),(.int .u64 u17),(.int .u8 u18),(.int .i64 (1:Int))]:Array Value).size=5)<|
 zt (aD r1) [(.int .i64 ((u10.2.1:Nat):Int)),(.int .u64 u13),(.int .u64 u17),(.int .u8 u18),(.int .i64 (1:Int))]<|
 zk [(.int .i64),(.int .u64),(.int .u64),(.int .u8),(.int .i64)] (aD r1) fun(u19:(Int×Int×Int×Int×Int×Unit))=>K (.tuple #[(.agg #[(.int .i64 u19.1),(.int .u64 u19.2.1),(.int .u64 u19.2.2.1),(.int .u8 u19.2.2.2.1),(.int .i64 u19.2.2.2.2.1)]),(.int .i64 (0:Int))]))<|
 ldW .slc ((aD r3).add 3) fun(u20:SLC)=>
 zH (Int×Unit) ((0:Int),()) fun(y22:Int×Unit) (I21:(Int×Unit)->WP)=>
 za (decide (y22.1<((u20.2.1:Nat):Int))) (yC (Unit) (fun(J23:(Unit)->WP)=>
 zc (0<=y22.1/\y22.1<((u20.2.1:Nat):Int))<|
 zi u20.1 fun(p25:Addr)=>
 ldW (.int .u32) (p25.add (Int.toNat y22.1*1)) fun(u26:Int)=>
 ze prog 124 [(.pointer x0),(.int .u32 u26),(.int .i64 (wrap .i64 (x2+(1:Int)))),(.bool x3)] (.many [(.agg [(.int .i64),(.int .u64),(.int .u64),(.int .u8),(.int .i64)]),(.one (.int .i64))]) fun(u27:(Int×Int×Int×Int×Int×Unit)×Int×Unit)=>
 zh (.cells #[(.int .i64 (0:Int)),(.int .u64 (0:Int)),(.int .u64 (0:Int)),(.int .u8 (0:Int)),(.int .i64 (0:Int))] 197) fun(r28:Nat)=>
 zc ((#[(.int .i64 u27.1.1),(.int .u64 u27.1.2.1),(.int .u64 u27.1.2.2.1),(.int .u8 u27.1.2.2.2.1),(.int .i64 u27.1.2.2.2.2.1)]:Array Value).size=5)<|
 zt (aD r28) [(.int .i64 u27.1.1),(.int .u64 u27.1.2.1),(.int .u64 u27.1.2.2.1),(.int .u8 u27.1.2.2.2.1),(.int .i64 u27.1.2.2.2.2.1)]<|
 za (u27.2.1 !=(0:Int)) (zk [(.int .i64),(.int .u64),(.int .u64),(.int .u8),(.int .i64)] (aD r1) fun(u29:(Int×Int×Int×Int×Int×Unit))=>
 zc ((#[(.int .i64 u29.1),(.int .u64 u29.2.1),(.int .u64 u29.2.2.1),(.int .u8 u29.2.2.2.1),(.int .i64 u29.2.2.2.2.1)]:Array Value).size=5)<|
 zt (aD r1) [(.int .i64 u29.1),(.int .u64 u29.2.1),(.int .u64 u29.2.2.1),(.int .u8 u29.2.2.2.1),(.int .i64 u29.2.2.2.2.1)]<|
 zk [(.int .i64),(.int .u64),(.int .u64),(.int .u8),(.int .i64)] (aD r1) fun(u30:(Int×Int×Int×Int×Int×Unit))=>K (.tuple #[(.agg #[(.int .i64 u30.1),(.int .u64 u30.2.1),(.int .u64 u30.2.2.1),(.int .u8 u30.2.2.2.1),(.int .i64 u30.2.2.2.2.1)]),(.int .i64 u27.2.1)]))<|
 yC (Bool×Unit) (fun(J31:(Bool×Unit)->WP)=>
 zA<|
 ldW (.int .u64) ((aD r28).add 1) fun(u33:Int)=>
 ldW .slc ((aD r3).add 1) fun(u34:SLC)=>
 zc (0<=y22.1/\y22.1<((u34.2.1:Nat):Int))<|
 zi u34.1 fun(p35:Addr)=>
 ldW (.int .u64) (p35.add (Int.toNat y22.1*1)) fun(u36:Int)=>
 za (u33 !=u36) (J31 (true,()))<|
 za (decide (y22.1>(0:Int))) (ldW (.int .u64) ((aD r1).add 2) fun(u37:Int)=>
 ldW (.int .u64) ((aD r28).add 1) fun(u38:Int)=>
 za (decide (u37>=u38)) (J31 (true,()))<|
 ldW (.int .u8) ((aD r1).add 3) fun(u39:Int)=>
 ldW (.int .u8) ((aD r28).add 3) fun(u40:Int)=>
 za (u39 !=u40) (J31 (true,()))<|
 ldW (.int .i64) ((aD r1).add 4) fun(u41:Int)=>
 ldW (.int .i64) ((aD r28).add 4) fun(u42:Int)=>J31 ((u41 !=(wrap .i64 (u42+(1:Int)))),()))<|J31 (false,())) fun(y32:Bool×Unit)=>
 yC (Unit) (fun(J43:(Unit)->WP)=>
 za x3 (za y32.1 (zk [(.int .i64),(.int .u64),(.int .u64),(.int .u8),(.int .i64)] (aD r1) fun(u45:(Int×Int×Int×Int×Int×Unit))=>
 zc ((#[(.int .i64 u45.1),(.int .u64 u45.2.1),(.int .u64 u45.2.2.1),(.int .u8 u45.2.2.2.1),(.int .i64 u45.2.2.2.2.1)]:Array Value).size=5)<|
 zt (aD r1) [(.int .i64 u45.1),(.int .u64 u45.2.1),(.int .u64 u45.2.2.1),(.int .u8 u45.2.2.2.1),(.int .i64 u45.2.2.2.2.1)]<|
 zk [(.int .i64),(.int .u64),(.int .u64),(.int .u8),(.int .i64)] (aD r1) fun(u46:(Int×Int×Int×Int×Int×Unit))=>K (.tuple #[(.agg #[(.int .i64 u46.1),(.int .u64 u46.2.1),(.int .u64 u46.2.2.1),(.int .u8 u46.2.2.2.1),(.int .i64 u46.2.2.2.2.1)]),(.int .i64 (10:Int))]))<|J43 ())<|J43 ()) fun(y44:Unit)=>
 yC (Unit) (fun(J47:(Unit)->WP)=>
 za (y22.1==(0:Int)) (ldW (.int .u64) ((aD r28).add 1) fun(u49:Int)=>
 stW ((aD r1).add 1) (.int .u64 u49)<|J47 ())<|J47 ()) fun(y48:Unit)=>
 ldW (.int .i64) (aD r1) fun(u50:Int)=>
 ldW (.int .i64) (aD r28) fun(u51:Int)=>
 ldW (.int .u64) ((aD r1).add 1) fun(u52:Int)=>
 ldW (.int .u64) ((aD r28).add 2) fun(u53:Int)=>
 ldW (.int .u8) ((aD r28).add 3) fun(u54:Int)=>
 ldW (.int .i64) ((aD r28).add 4) fun(u55:Int)=>
 zc ((#[(.int .i64 (wrap .i64 (u50+u51))),(.int .u64 u52),(.int .u64 u53),(.int .u8 u54),(.int .i64 (wrap .i64 (u55+(1:Int))))]:Array Value).size=5)<|
 zt (aD r1) [(.int .i64 (wrap .i64 (u50+u51))),(.int .u64 u52),(.int .u64 u53),(.int .u8 u54),(.int .i64 (wrap .i64 (u55+(1:Int))))]<|J23 ()) fun(y24:Unit)=>I21 ((wrap .i64 (y22.1+(1:Int))),()))<|
 zk [(.int .i64),(.int .u64),(.int .u64),(.int .u8),(.int .i64)] (aD r1) fun(u56:(Int×Int×Int×Int×Int×Unit))=>
 zc ((#[(.int .i64 u56.1),(.int .u64 u56.2.1),(.int .u64 u56.2.2.1),(.int .u8 u56.2.2.2.1),(.int .i64 u56.2.2.2.2.1)]:Array Value).size=5)<|
 zt (aD r1) [(.int .i64 u56.1),(.int .u64 u56.2.1),(.int .u64 u56.2.2.1),(.int .u8 u56.2.2.2.1),(.int .i64 u56.2.2.2.2.1)]<|
 zk [(.int .i64),(.int .u64),(.int .u64),(.int .u8),(.int .i64)] (aD r1) fun(u57:(Int×Int×Int×Int×Int×Unit))=>K (.tuple #[(.agg #[(.int .i64 u57.1),(.int .u64 u57.2.1),(.int .u64 u57.2.2.1),(.int .u8 u57.2.2.2.1),(.int .i64 u57.2.2.2.2.1)]),(.int .i64 (0:Int))])
theorem zgv (x0:Option Addr) (x1:Int) (x2:Int) (x3:Bool) {K:Value->WP} {w:World} (h:S124 x0 x1 x2 x3 K w):Calls prog 124 #[(.pointer x0),(.int .u32 x1),(.int .i64 x2),(.bool x3)] w (Ret K):=cF an124 false Tryz.func124 h
def an125:Ann:=(AN (AQ AP AP))
def S125 (x0:Value) (a1:Addr) (a2:Addr) (a3:Addr) (K:Value->WP):WP:=
 ldW .ptr a1 fun(u1:Option Addr)=>
 za (!(Option.isNone u1)) (ldW (.int .u32) a2 fun(u2:Int)=>
 za (u2 !=(0:Int)) (ldW .ptr a1 fun(u3:Option Addr)=>
 ldW (.int .u32) a2 fun(u4:Int)=>
 ldW (.int .u64) a3 fun(u5:Int)=>
 ze prog 126 [(.pointer u3),(.int .u32 u4),(.int .u64 u5),(.int .i64 (1:Int)),x0] (.one (.one .bool)) fun(u6:Bool)=>K (.tuple #[]))<|K (.tuple #[]))<|K (.tuple #[])
theorem zls (x0:Value) (a1:Addr) (a2:Addr) (a3:Addr) {K:Value->WP} {w:World} (h:S125 x0 a1 a2 a3 K w):Calls prog 125 #[x0,(.pointer (some a1)),(.pointer (some a2)),(.pointer (some a3))] w (Ret K):=cF an125 false Tryz.func125 h
def an126:Ann:=(AN (AN (AR (AN (AQ AO AP)) (AR (AN (.block (.loop [(29,.sh (.one (.int .i64)))] [0,2,3,4,11,28,1000000] (AN (AR (AQ AP AP) (AR (.block (AN (AR (AN (AQ (AR (AN (AQ AO AP)) AP) AP)) (AR (AN (AQ AP AP)) (AN (AQ AO AP)))))) AP)))))) AO))))
def S126 (x0:Option Addr) (x1:Int) (x2:Int) (x3:Int) (x4:Value) (K:Value->WP):WP:=
 ze prog 166 [(.pointer x0),(.int .u32 x1)] (.many [(.agg [(.int .u8),.slc,.slc,.slc]),(.one (.int .i64))]) fun(u1:(Int×SLC×SLC×SLC×Unit)×Int×Unit)=>
 zh (.cells #[(.int .u8 (0:Int)),(.slice none 0 0),(.slice none 0 0),(.slice none 0 0)] 215) fun(r2:Nat)=>
 zc ((#[(.int .u8 u1.1.1),(.slice u1.1.2.1.1 u1.1.2.1.2.1 u1.1.2.1.2.2),(.slice u1.1.2.2.1.1 u1.1.2.2.1.2.1 u1.1.2.2.1.2.2),(.slice u1.1.2.2.2.1.1 u1.1.2.2.2.1.2.1 u1.1.2.2.2.1.2.2)]:Array Value).size=4)<|
 zt (aD r2) [(.int .u8 u1.1.1),(.slice u1.1.2.1.1 u1.1.2.1.2.1 u1.1.2.1.2.2),(.slice u1.1.2.2.1.1 u1.1.2.2.1.2.1 u1.1.2.2.1.2.2),(.slice u1.1.2.2.2.1.1 u1.1.2.2.2.1.2.1 u1.1.2.2.2.1.2.2)]<|
 za (u1.2.1 !=(0:Int)) (K (.bool false))<|
 za (decide (x3>(16:Int))) (K (.bool false))<|
 ldW .slc ((aD r2).add 1) fun(u3:SLC)=>
 zH (Int×Unit) ((0:Int),()) fun(y5:Int×Unit) (I4:(Int×Unit)->WP)=>
 za (decide (y5.1<((u3.2.1:Nat):Int))) (zk [(.int .u8),.slc,.slc,.slc] (aD r2) fun(u6:(Int×SLC×SLC×SLC×Unit))=>
 ze prog 167 [(.agg #[(.int .u8 u6.1),(.slice u6.2.1.1 u6.2.1.2.1 u6.2.1.2.2),(.slice u6.2.2.1.1 u6.2.2.1.2.1 u6.2.2.1.2.2),(.slice u6.2.2.2.1.1 u6.2.2.2.1.2.1 u6.2.2.2.1.2.2)])] (.one (.one .bool)) fun(u7:Bool)=>
 za (!u7) (zA<|
 ldW .slc ((aD r2).add 1) fun(u8:SLC)=>
 zc (0<=y5.1/\y5.1<((u8.2.1:Nat):Int))<|
 zi u8.1 fun(p9:Addr)=>
 ldW (.int .u64) (p9.add (Int.toNat y5.1*1)) fun(u10:Int)=>
 za (decide (u10>=x2)) (ldW .slc ((aD r2).add 1) fun(u11:SLC)=>
 zc (0<=y5.1/\y5.1<((u11.2.1:Nat):Int))<|
 zi u11.1 fun(p12:Addr)=>
 ldW (.int .u64) (p12.add (Int.toNat y5.1*1)) fun(u13:Int)=>
 zk [(.int .u8),.slc,.slc,.slc] (aD r2) fun(u14:(Int×SLC×SLC×SLC×Unit))=>
 ze prog 168 [(.agg #[(.int .u8 u14.1),(.slice u14.2.1.1 u14.2.1.2.1 u14.2.1.2.2),(.slice u14.2.2.1.1 u14.2.2.1.2.1 u14.2.2.1.2.2),(.slice u14.2.2.2.1.1 u14.2.2.2.1.2.1 u14.2.2.2.1.2.2)]),(.int .i64 y5.1)] (.one (.one (.int .u64))) fun(u15:Int)=>
 zq [[((p12.add (Int.toNat y5.1*1)),(.int .u64 u13))],[(((aD r2).add 1),(.slice u11.1 u11.2.1 u11.2.2))]]<|
 yF prog x4 [(.int .u64 u13),(.int .u64 u15)] (.one (.one .bool)) fun(u16:Bool)=>
 za (!u16) (K (.bool false))<|I4 ((wrap .i64 (y5.1+(1:Int))),()))<|I4 ((wrap .i64 (y5.1+(1:Int))),()))<|
 ldW .slc ((aD r2).add 1) fun(u17:SLC)=>
 za (decide ((wrap .i64 (y5.1+(1:Int)))<((u17.2.1:Nat):Int))) (ldW .slc ((aD r2).add 1) fun(u18:SLC)=>
 zc (0<=(wrap .i64 (y5.1+(1:Int)))/\(wrap .i64 (y5.1+(1:Int)))<((u18.2.1:Nat):Int))<|
 zi u18.1 fun(p19:Addr)=>
 ldW (.int .u64) (p19.add (Int.toNat (wrap .i64 (y5.1+(1:Int)))*1)) fun(u20:Int)=>
 za (decide (u20<=x2)) (I4 ((wrap .i64 (y5.1+(1:Int))),()))<|
 ldW .slc ((aD r2).add 3) fun(u21:SLC)=>
 zc (0<=y5.1/\y5.1<((u21.2.1:Nat):Int))<|
 zi u21.1 fun(p22:Addr)=>
 ldW (.int .u32) (p22.add (Int.toNat y5.1*1)) fun(u23:Int)=>
 ze prog 126 [(.pointer x0),(.int .u32 u23),(.int .u64 x2),(.int .i64 (wrap .i64 (x3+(1:Int)))),x4] (.one (.one .bool)) fun(u24:Bool)=>
 za (!u24) (K (.bool false))<|I4 ((wrap .i64 (y5.1+(1:Int))),()))<|
 ldW .slc ((aD r2).add 3) fun(u25:SLC)=>
 zc (0<=y5.1/\y5.1<((u25.2.1:Nat):Int))<|
 zi u25.1 fun(p26:Addr)=>
 ldW (.int .u32) (p26.add (Int.toNat y5.1*1)) fun(u27:Int)=>
 ze prog 126 [(.pointer x0),(.int .u32 u27),(.int .u64 x2),(.int .i64 (wrap .i64 (x3+(1:Int)))),x4] (.one (.one .bool)) fun(u28:Bool)=>
 za (!u28) (K (.bool false))<|I4 ((wrap .i64 (y5.1+(1:Int))),()))<|K (.bool true)
theorem zgw (x0:Option Addr) (x1:Int) (x2:Int) (x3:Int) (x4:Value) {K:Value->WP} {w:World} (h:S126 x0 x1 x2 x3 x4 K w):Calls prog 126 #[(.pointer x0),(.int .u32 x1),(.int .u64 x2),(.int .i64 x3),x4] w (Ret K):=cF an126 false Tryz.func126 h
def an127:Ann:=(AN AO)
def S127 (x0:Option Addr) (x1:Int) (K:Value->WP):WP:=
 zh (.cells #[(.pointer x0)] 48) fun(r1:Nat)=>
 zh (.cells #[(.int .u32 x1)] 41) fun(r2:Nat)=>K (.func (.func 169) #[] #[(.pointer (some (aD r1))),(.pointer (some (aD r2)))])
theorem zlt (x0:Option Addr) (x1:Int) {K:Value->WP} {w:World} (h:S127 x0 x1 K w):Calls prog 127 #[(.pointer x0),(.int .u32 x1)] w (Ret K):=cF an127 false Tryz.func127 h
def an130:Ann:=(AN (.block (.loop [(3,.sh (.one (.int .u32)))] [0,1,1000000] (AR (AN (AQ AP AP)) (AR (.block (AN (AQ AP AP))) AP)))))
def S130 (x0:Value) (a1:Addr) (K:Value->WP):WP:=
 zH (Int×Unit) ((2:Int),()) fun(y2:Int×Unit) (I1:(Int×Unit)->WP)=>
 ldW .ptr a1 fun(u3:Option Addr)=>
 zi u3 fun(p4:Addr)=>
 ldW (.int .i64) (((p4.add 1).add 1).add 1) fun(u5:Int)=>
 za (decide ((wrap .i64 y2.1)<u5)) (zA<|
 ldW .ptr a1 fun(u6:Option Addr)=>
 zi u6 fun(p7:Addr)=>
 ldW .ptr (p7.add 8) fun(u8:Option Addr)=>
 ldW .ptr a1 fun(u9:Option Addr)=>
 zi u9 fun(p10:Addr)=>
 ldW .ptr (p10.add 7) fun(u11:Option Addr)=>
 ldW .ptr a1 fun(u12:Option Addr)=>
 zi u12 fun(p13:Addr)=>
 ldW .ptr (p13.add 9) fun(u14:Option Addr)=>
 ze prog 75 [(.pointer u8),(.int .u32 y2.1)] (.one (.one (.int .i64))) fun(u15:Int)=>
 zq [[((p13.add 9),(.pointer u14))],[(a1,(.pointer u12))],[((p10.add 7),(.pointer u11))],[(a1,(.pointer u9))]]<|
 ze prog 75 [(.pointer u11),(.int .u32 y2.1)] (.one (.one (.int .i64))) fun(u16:Int)=>
 zq [[((p13.add 9),(.pointer u14))],[(a1,(.pointer u12))]]<|
 ze prog 75 [(.pointer u14),(.int .u32 y2.1)] (.one (.one (.int .i64))) fun(u17:Int)=>
 za ((wrap .i64 ((wrap .i64 (u15+u16))+u17))==(0:Int)) (yF prog x0 [(.int .u32 y2.1)] (.one (.one .bool)) fun(u18:Bool)=>
 za (!u18) (K (.tuple #[]))<|I1 ((wrap .u32 (y2.1+(1:Int))),()))<|I1 ((wrap .u32 (y2.1+(1:Int))),()))<|K (.tuple #[])
theorem zlu (x0:Value) (a1:Addr) {K:Value->WP} {w:World} (h:S130 x0 a1 K w):Calls prog 130 #[x0,(.pointer (some a1))] w (Ret K):=cF an130 false Tryz.func130 h
def an131:Ann:=(AN (AN AO))
def S131 (x0:Option Addr) (K:Value->WP):WP:=
 ze prog 76 [(.pointer x0),(.int .i64 (0:Int))] (.one (.one (.int .i64))) fun(u1:Int)=>K (.int .i64 (if (if (wrap .i64 ((wrap .i64 (Int.tdiv (wrap .i64 (u1-(4:Int))) (4:Int)))*u1))<(65536:Int) then (wrap .i64 ((wrap .i64 (Int.tdiv (wrap .i64 (u1-(4:Int))) (4:Int)))*u1)) else (65536:Int))>(0:Int) then (if (wrap .i64 ((wrap .i64 (Int.tdiv (wrap .i64 (u1-(4:Int))) (4:Int)))*u1))<(65536:Int) then (wrap .i64 ((wrap .i64 (Int.tdiv (wrap .i64 (u1-(4:Int))) (4:Int)))*u1)) else (65536:Int)) else (0:Int)))
theorem zlv (x0:Option Addr) {K:Value->WP} {w:World} (h:S131 x0 K w):Calls prog 131 #[(.pointer x0)] w (Ret K):=cF an131 false Tryz.func131 h
def an132:Ann:=(AN (AQ (AN (.block (.loop [(9,.sh (.one (.int .i64)))] [2,7,8,1000000] (AN (AR (AQ AP AP) (AR (.block AO) AP)))))) AP))
def S132 (a0:Addr) (a1:Addr) (a2:Addr) (K:Value->WP):WP:=
 ldW (.int .i64) a0 fun(u1:Int)=>
 za (u1 !=(0:Int)) (ldW .slc a1 fun(u2:SLC)=>
 zH (Int×Unit) ((0:Int),()) fun(y4:Int×Unit) (I3:(Int×Unit)->WP)=>
 za (decide (y4.1<((u2.2.1:Nat):Int))) (zc (0<=y4.1/\y4.1<((u2.2.1:Nat):Int))<|
 zi u2.1 fun(p5:Addr)=>
 ldW (.int .u32) (p5.add (Int.toNat y4.1*1)) fun(u6:Int)=>
 ldW .ptr a2 fun(u7:Option Addr)=>
 ze prog 28 [(.pointer u7),(.int .u32 u6)] (.one (.one (.int .i64))) fun(u8:Int)=>I3 ((wrap .i64 (y4.1+(1:Int))),()))<|K (.tuple #[]))<|K (.tuple #[])
theorem zpm (a0:Addr) (a1:Addr) (a2:Addr) (K:Value->WP):uU prog Tryz.f132 an132 false [(.pointer (some a0)),(.pointer (some a1)),(.pointer (some a2))] K=S132 a0 a1 a2 K:=by kernel_rfl
theorem zj5 (a0:Addr) (a1:Addr) (a2:Addr) {K:Value->WP} {w:World} (h:S132 a0 a1 a2 K w):uv prog 132 [(.pointer (some a0)),(.pointer (some a1)),(.pointer (some a2))] w K:=uY mixed Tryz.func132 (of_decide_eq_true (by kernel_rfl)) (by rw[zpm];exact h)
def an133:Ann:=(AN (AR (AN (AQ AO AP)) AO))
def S133 (x0:Bool) (K:Value->WP):WP:=
 za x0 (K (.int .u8 (5:Int)))<|K (.int .u8 (4:Int))
theorem zlw (x0:Bool) {K:Value->WP} {w:World} (h:S133 x0 K w):Calls prog 133 #[(.bool x0)] w (Ret K):=cF an133 false Tryz.func133 h
def an134:Ann:=(AN (AR (AN (AQ AO AP)) (AR (AN (.block (AN (AQ AO (AN (AQ AO AP)))))) AO)))
def S134 (x0:Option Addr) (x1:Int) (K:Value->WP):WP:=
 za (decide (x1>(4294967295:Int))) (K (.bool false))<|
 ze prog 90 [(.pointer x0),(.int .u32 (wrap .u32 x1))] (.one (.one (.int .i64))) fun(u1:Int)=>
 za (u1==(0:Int)) (ze prog 28 [(.pointer x0),(.int .u32 (wrap .u32 x1))] (.one (.one (.int .i64))) fun(u2:Int)=>K (.bool (u2==(0:Int))))<|
 za (u1==(12:Int)) (K (.bool true))<|K (.bool false)
theorem zlx (x0:Option Addr) (x1:Int) {K:Value->WP} {w:World} (h:S134 x0 x1 K w):Calls prog 134 #[(.pointer x0),(.int .u64 x1)] w (Ret K):=cF an134 false Tryz.func134 h
def an135:Ann:=(AN (.join [] [1,2,3,1000000] (.block (AN (AQ AO (AN (AQ AO (AN (AQ AO AP))))))) (AN (AR (AN (AQ AO AP)) AO))))
def S135 (Aa:Int) (Ab:Option Addr) (Ac Ae:Nat) (Ah:Option Addr) (Ai Aj:Nat) (Ak:Option Addr) (Al Am:Nat) (x1:Option Addr) (x2:Int) (K:Value->WP):WP:=
 zh (.cells #[(.int .u8 Aa),(.slice Ab Ac Ae),(.slice Ah Ai Aj),(.slice Ak Al Am)] 215) fun(r1:Nat)=>
 yC (Unit) (fun(J2:(Unit)->WP)=>
 ldW .slc ((aD r1).add 1) fun(u4:SLC)=>
 za (((u4.2.1:Nat):Int)==(0:Int)) (K (.tuple #[(.int .u32 (0:Int)),(.int .i64 (0:Int))]))<|
 zk [(.int .u8),.slc,.slc,.slc] (aD r1) fun(u5:(Int×SLC×SLC×SLC×Unit))=>
 ze prog 167 [(.agg #[(.int .u8 u5.1),(.slice u5.2.1.1 u5.2.1.2.1 u5.2.1.2.2),(.slice u5.2.2.1.1 u5.2.2.1.2.1 u5.2.2.1.2.2),(.slice u5.2.2.2.1.1 u5.2.2.2.1.2.1 u5.2.2.2.1.2.2)])] (.one (.one .bool)) fun(u6:Bool)=>
 za u6 (ldW .slc ((aD r1).add 3) fun(u7:SLC)=>
 za (((u7.2.1:Nat):Int)==(1:Int)) (ldW .slc ((aD r1).add 3) fun(u8:SLC)=>
 zc (0<=(0:Int)/\(0:Int)<((u8.2.1:Nat):Int))<|
 zi u8.1 fun(p9:Addr)=>
 ldW (.int .u32) (p9.add (Int.toNat (0:Int)*1)) fun(u10:Int)=>K (.tuple #[(.int .u32 u10),(.int .i64 (0:Int))]))<|
 za (decide (x2>(16:Int))) (K (.tuple #[(.int .u32 (0:Int)),(.int .i64 (12:Int))]))<|J2 ())<|
 za (decide (x2>(16:Int))) (K (.tuple #[(.int .u32 (0:Int)),(.int .i64 (12:Int))]))<|J2 ()) fun(y3:Unit)=>
 zk [(.int .u8),.slc,.slc,.slc] (aD r1) fun(u11:(Int×SLC×SLC×SLC×Unit))=>
 ze prog 172 [(.agg #[(.int .u8 u11.1),(.slice u11.2.1.1 u11.2.1.2.1 u11.2.1.2.2),(.slice u11.2.2.1.1 u11.2.2.1.2.1 u11.2.2.1.2.2),(.slice u11.2.2.2.1.1 u11.2.2.2.1.2.1 u11.2.2.2.1.2.2)]),(.pointer x1)] (.many [(.one .slc),(.one .slc),(.one (.int .i64))]) fun(u12:SLC×SLC×Int×Unit)=>
 za (u12.2.2.1 !=(0:Int)) (K (.tuple #[(.int .u32 (0:Int)),(.int .i64 u12.2.2.1)]))<|
 ze prog 135 [(.agg #[(.int .u8 (3:Int)),(.slice u12.1.1 u12.1.2.1 u12.1.2.2),(.slice none 0 0),(.slice u12.2.1.1 u12.2.1.2.1 u12.2.1.2.2)]),(.pointer x1),(.int .i64 (wrap .i64 (x2+(1:Int))))] (.many [(.one (.int .u32)),(.one (.int .i64))]) fun(u13:Int×Int×Unit)=>K (.tuple #[(.int .u32 u13.1),(.int .i64 u13.2.1)])
theorem zds (Aa:Int) (Ab:Option Addr) (Ac Ae:Nat) (Ah:Option Addr) (Ai Aj:Nat) (Ak:Option Addr) (Al Am:Nat) (x1:Option Addr) (x2:Int) {K:Value->WP} {w:World} (h:S135 Aa Ab Ac Ae Ah Ai Aj Ak Al Am x1 x2 K w):Calls prog 135 #[(.agg #[(.int .u8 Aa),(.slice Ab Ac Ae),(.slice Ah Ai Aj),(.slice Ak Al Am)]),(.pointer x1),(.int .i64 x2)] w (Ret K):=cF an135 false Tryz.func135 h
def an136:Ann:=(AN (AR (.block (AN (AQ AO (AN (AQ AO (AN (AQ AO AP))))))) AO))
def S136 (x0:Option Addr) (x1:Int) (K:Value->WP):WP:=
 za (Option.isNone x0) (K (.tuple #[(.pointer none),(.int .i64 (1:Int))]))<|
 za (decide (x1<(2:Int))) (K (.tuple #[(.pointer none),(.int .i64 (2:Int))]))<|
 zi x0 fun(p1:Addr)=>
 ldW .slc (p1.add 2) fun(u2:SLC)=>
 za (decide ((wrap .u64 x1)>=(wrap .u64 ((u2.2.1:Nat):Int)))) (K (.tuple #[(.pointer none),(.int .i64 (2:Int))]))<|
 zi x0 fun(p3:Addr)=>
 ldW .slc (p3.add 2) fun(u4:SLC)=>
 zc (0<=x1/\x1<((u4.2.1:Nat):Int))<|
 zi u4.1 fun(p5:Addr)=>
 ldW (.int .u16) (p5.add (Int.toNat x1*1)) fun(u6:Int)=>
 za (u6==(0:Int)) (K (.tuple #[(.pointer none),(.int .i64 (8:Int))]))<|
 zi x0 fun(p7:Addr)=>
 ldW .slc (p7.add 2) fun(u8:SLC)=>
 zc (0<=x1/\x1<((u8.2.1:Nat):Int))<|
 zi u8.1 fun(p9:Addr)=>K (.tuple #[(.pointer (some (p9.add (Int.toNat x1*1)))),(.int .i64 (0:Int))])
theorem zly (x0:Option Addr) (x1:Int) {K:Value->WP} {w:World} (h:S136 x0 x1 K w):Calls prog 136 #[(.pointer x0),(.int .u32 x1)] w (Ret K):=cF an136 false Tryz.func136 h
def an137:Ann:=(AN (AR (.block (AN (AQ AO (AN (AQ AO AP))))) (AR (AN (.block (.loop [(18,.sh (.one (.int .i64))),(19,.sh (.agg [(.int .i64),.str]))] [] (AN (.block (AN (AQ AO AP))))))) AO)))
def S137 (x0:Option Addr) (x1:Int) (K:Value->WP):WP:=
 zh (.cells #[(.int .i64 x1)] 3) fun(r1:Nat)=>
 zh (.cells #[(.string ByteArray.empty)] 9) fun(r2:Nat)=>
 zh (.cells #[(.int .i64 (0:Int))] 28) fun(r3:Nat)=>
 za (Option.isNone x0) (stW (aD r2) (.string (ByteArray.mk #[]))<|
 stW (aD r3) (.int .i64 (1:Int))<|
 zR prog []<|
 ldW .str (aD r2) fun(u4:ByteArray)=>
 ldW (.int .i64) (aD r3) fun(u5:Int)=>K (.tuple #[(.string u4),(.int .i64 u5)]))<|
 ldW (.int .i64) (aD r1) fun(u6:Int)=>
 ze prog 162 [(.pointer x0),(.int .i64 u6)] (.one (.one .bool)) fun(u7:Bool)=>
 za (!u7) (stW (aD r2) (.string (ByteArray.mk #[]))<|
 stW (aD r3) (.int .i64 (2:Int))<|
 zR prog []<|
 ldW .str (aD r2) fun(u8:ByteArray)=>
 ldW (.int .i64) (aD r3) fun(u9:Int)=>K (.tuple #[(.string u8),(.int .i64 u9)]))<|
 ze prog 173 [(.pointer x0)] (.one (.one .any)) fun(u10:Value)=>
 jm prog u10 (Int×(Int×ByteArray×Unit)×Unit) (fun(t11:Int×(Int×ByteArray×Unit)×Unit)=>[(.int .i64 t11.1),(.agg #[(.int .i64 t11.2.1.1),(.string t11.2.1.2.1)])]) (fun(t11:Int×(Int×ByteArray×Unit)×Unit) (B12:WP->WP) (N13:WP) (Q14:Code->WP)=>
 zh (.cells #[(.int .i64 (0:Int)),(.string ByteArray.empty)] 230) fun(r17:Nat)=>
 zc ((#[(.int .i64 t11.2.1.1),(.string t11.2.1.2.1)]:Array Value).size=2)<|
 zt (aD r17) [(.int .i64 t11.2.1.1),(.string t11.2.1.2.1)]<|B12 (ldW (.int .i64) (aD r17) fun(u18:Int)=>
 ldW (.int .i64) (aD r1) fun(u19:Int)=>
 za (u18==u19) (ldW .str ((aD r17).add 1) fun(u20:ByteArray)=>
 stW (aD r2) (.string u20)<|
 stW (aD r3) (.int .i64 (0:Int))<|Q14 .ret)<|N13)) fun(r15:Nat) (p16:Option Code)=>
 qT (zA<|
 zi x0 fun(p21:Addr)=>
 ldW .slc (p21.add 2) fun(u22:SLC)=>
 ldW (.int .i64) (aD r1) fun(u23:Int)=>
 zc (0<=u23/\u23<((u22.2.1:Nat):Int))<|
 zi u22.1 fun(p24:Addr)=>
 ldW .str (p24.add (Int.toNat u23*1)) fun(u25:ByteArray)=>
 stW (aD r2) (.string u25)<|
 stW (aD r3) (.int .i64 (0:Int))<|
 zR prog (⟨.collected r15,#[]⟩::[])<|
 ldW .str (aD r2) fun(u26:ByteArray)=>
 ldW (.int .i64) (aD r3) fun(u27:Int)=>K (.tuple #[(.string u26),(.int .i64 u27)])) (zR prog (⟨.collected r15,#[]⟩::[])<|
 ldW .str (aD r2) fun(u28:ByteArray)=>
 ldW (.int .i64) (aD r3) fun(u29:Int)=>K (.tuple #[(.string u28),(.int .i64 u29)])) [] p16
theorem zlz (x0:Option Addr) (x1:Int) {K:Value->WP} {w:World} (h:S137 x0 x1 K w):Calls prog 137 #[(.pointer x0),(.int .i64 x1)] w (Ret K):=cF an137 true Tryz.func137 h
def an138:Ann:=(AN (AN (AR (AN (AQ AO AP)) (AN (AN (AR (AN (AQ AO AP)) (AN (AR (AN (.block (.loop [(41,.sh (.one (.int .u64)))] [0,4,7,40,1000000] (AN (AR (AQ AP AP) (AR (.block (AN (AR (AN (AQ AO AP)) AP))) AP)))))) (AN (AN AO))))))))))
def S138 (x0:Option Addr) (x1:ByteArray) (K:Value->WP):WP:=
 zh (.cells #[(.int .u8 (0:Int)),(.slice none 0 0),(.string ByteArray.empty)] 56) fun(r1:Nat)=>
 ze prog 174 [(.string x1)] (.many [(.agg [(.int .u8),(.int .u64),.str]),(.one (.int .i64))]) fun(u2:(Int×Int×ByteArray×Unit)×Int×Unit)=>
 zh (.cells #[(.int .u8 (0:Int)),(.int .u64 (0:Int)),(.string ByteArray.empty)] 127) fun(r3:Nat)=>
 zc ((#[(.int .u8 u2.1.1),(.int .u64 u2.1.2.1),(.string u2.1.2.2.1)]:Array Value).size=3)<|
 zt (aD r3) [(.int .u8 u2.1.1),(.int .u64 u2.1.2.1),(.string u2.1.2.2.1)]<|
 za (u2.2.1 !=(0:Int)) (zk [(.int .u8),.slc,.str] (aD r1) fun(u4:(Int×SLC×ByteArray×Unit))=>
 zc ((#[(.int .u8 u4.1),(.slice u4.2.1.1 u4.2.1.2.1 u4.2.1.2.2),(.string u4.2.2.1)]:Array Value).size=3)<|
 zt (aD r1) [(.int .u8 u4.1),(.slice u4.2.1.1 u4.2.1.2.1 u4.2.1.2.2),(.string u4.2.2.1)]<|
 zk [(.int .u8),.slc,.str] (aD r1) fun(u5:(Int×SLC×ByteArray×Unit))=>K (.tuple #[(.agg #[(.int .u8 u5.1),(.slice u5.2.1.1 u5.2.1.2.1 u5.2.1.2.2),(.string u5.2.2.1)]),(.int .i64 (10:Int))]))<|
 ldW (.int .u8) (aD r3) fun(u6:Int)=>
 za (decide (u6<(3:Int))) (zk [(.int .u8),.slc,.str] (aD r1) fun(u7:(Int×SLC×ByteArray×Unit))=>
 zc ((#[(.int .u8 u7.1),(.slice u7.2.1.1 u7.2.1.2.1 u7.2.1.2.2),(.string u7.2.2.1)]:Array Value).size=3)<|
 zt (aD r1) [(.int .u8 u7.1),(.slice u7.2.1.1 u7.2.1.2.1 u7.2.1.2.2),(.string u7.2.2.1)]<|
 zk [(.int .u8),.slc,.str] (aD r1) fun(u8:(Int×SLC×ByteArray×Unit))=>K (.tuple #[(.agg #[(.int .u8 u8.1),(.slice u8.2.1.1 u8.2.1.2.1 u8.2.1.2.2),(.string u8.2.2.1)]),(.int .i64 (10:Int))]))<|
 ldW .str ((aD r3).add 2) fun(u9:ByteArray)=>
 zw prog (Go.convert 9 85 (.string u9)) .slc fun(u10:SLC)=>
 ze prog 175 [(.slice u10.1 u10.2.1 u10.2.2)] (.one (.one .ptr)) fun(u11:Option Addr)=>
 ze prog 176 [(.pointer u11),(.int .i64 (2:Int))] (.many [(.one (.int .u64)),(.one (.int .i64))]) fun(u12:Int×Int×Unit)=>
 za (u12.2.1 !=(0:Int)) (zk [(.int .u8),.slc,.str] (aD r1) fun(u13:(Int×SLC×ByteArray×Unit))=>
 zc ((#[(.int .u8 u13.1),(.slice u13.2.1.1 u13.2.1.2.1 u13.2.1.2.2),(.string u13.2.2.1)]:Array Value).size=3)<|
 zt (aD r1) [(.int .u8 u13.1),(.slice u13.2.1.1 u13.2.1.2.1 u13.2.1.2.2),(.string u13.2.2.1)]<|
 zk [(.int .u8),.slc,.str] (aD r1) fun(u14:(Int×SLC×ByteArray×Unit))=>K (.tuple #[(.agg #[(.int .u8 u14.1),(.slice u14.2.1.1 u14.2.1.2.1 u14.2.1.2.2),(.string u14.2.2.1)]),(.int .i64 (10:Int))]))<|
 ldW (.int .u8) (aD r3) fun(u15:Int)=>
 stW (aD r1) (.int .u8 u15)<|
 zH (Int×Unit) ((0:Int),()) fun(y17:Int×Unit) (I16:(Int×Unit)->WP)=>
 za (decide (y17.1<u12.1)) (ze prog 176 [(.pointer u11),(.int .i64 (4:Int))] (.many [(.one (.int .u64)),(.one (.int .i64))]) fun(u18:Int×Int×Unit)=>
 za (u18.2.1 !=(0:Int)) (zc ((#[(.int .u8 (0:Int)),(.slice none 0 0),(.string ByteArray.empty)]:Array Value).size=3)<|
 zt (aD r1) [(.int .u8 (0:Int)),(.slice none 0 0),(.string ByteArray.empty)]<|
 zk [(.int .u8),.slc,.str] (aD r1) fun(u19:(Int×SLC×ByteArray×Unit))=>K (.tuple #[(.agg #[(.int .u8 u19.1),(.slice u19.2.1.1 u19.2.1.2.1 u19.2.1.2.2),(.string u19.2.2.1)]),(.int .i64 (10:Int))]))<|
 za (decide (u18.1<(2:Int))) (zc ((#[(.int .u8 (0:Int)),(.slice none 0 0),(.string ByteArray.empty)]:Array Value).size=3)<|
 zt (aD r1) [(.int .u8 (0:Int)),(.slice none 0 0),(.string ByteArray.empty)]<|
 zk [(.int .u8),.slc,.str] (aD r1) fun(u20:(Int×SLC×ByteArray×Unit))=>K (.tuple #[(.agg #[(.int .u8 u20.1),(.slice u20.2.1.1 u20.2.1.2.1 u20.2.1.2.2),(.string u20.2.2.1)]),(.int .i64 (10:Int))]))<|
 zi x0 fun(p21:Addr)=>
 ldW (.int .i64) (((p21.add 1).add 1).add 1) fun(u22:Int)=>
 za (decide (u18.1>=(wrap .u64 u22))) (zc ((#[(.int .u8 (0:Int)),(.slice none 0 0),(.string ByteArray.empty)]:Array Value).size=3)<|
 zt (aD r1) [(.int .u8 (0:Int)),(.slice none 0 0),(.string ByteArray.empty)]<|
 zk [(.int .u8),.slc,.str] (aD r1) fun(u23:(Int×SLC×ByteArray×Unit))=>K (.tuple #[(.agg #[(.int .u8 u23.1),(.slice u23.2.1.1 u23.2.1.2.1 u23.2.1.2.2),(.string u23.2.2.1)]),(.int .i64 (10:Int))]))<|
 ldW .slc ((aD r1).add 1) fun(u24:SLC)=>
 zh (.cells #[(.int .u32 (wrap .u32 u18.1))] 41) fun(r25:Nat)=>
 zw prog (Builtin.append_ #[54,54] 54 #[(.slice u24.1 u24.2.1 u24.2.2),(.slice (some (aD r25)) 1 1)]) .slc fun(u26:SLC)=>
 stW ((aD r1).add 1) (.slice u26.1 u26.2.1 u26.2.2)<|I16 ((wrap .u64 (y17.1+(1:Int))),()))<|
 ze prog 178 [(.pointer u11)] (.one (.one (.int .i64))) fun(u27:Int)=>
 ze prog 177 [(.pointer u11),(.int .i64 u27)] (.many [(.one .slc),(.one (.int .i64))]) fun(u28:SLC×Int×Unit)=>
 zw prog (Go.convert 85 9 (.slice u28.1.1 u28.1.2.1 u28.1.2.2)) .str fun(u29:ByteArray)=>
 stW ((aD r1).add 2) (.string u29)<|
 zk [(.int .u8),.slc,.str] (aD r1) fun(u30:(Int×SLC×ByteArray×Unit))=>
 zc ((#[(.int .u8 u30.1),(.slice u30.2.1.1 u30.2.1.2.1 u30.2.1.2.2),(.string u30.2.2.1)]:Array Value).size=3)<|
 zt (aD r1) [(.int .u8 u30.1),(.slice u30.2.1.1 u30.2.1.2.1 u30.2.1.2.2),(.string u30.2.2.1)]<|
 zk [(.int .u8),.slc,.str] (aD r1) fun(u31:(Int×SLC×ByteArray×Unit))=>K (.tuple #[(.agg #[(.int .u8 u31.1),(.slice u31.2.1.1 u31.2.1.2.1 u31.2.1.2.2),(.string u31.2.2.1)]),(.int .i64 u28.2.1)])
theorem zlA (x0:Option Addr) (x1:ByteArray) {K:Value->WP} {w:World} (h:S138 x0 x1 K w):Calls prog 138 #[(.pointer x0),(.string x1)] w (Ret K):=cF an138 false Tryz.func138 h
def an139:Ann:=(AN (AN (AR (AN (AQ AO AP)) (AR (AN (AQ AO AP)) (AN AO)))))
def S139 (x0:Option Addr) (x1:Int) (K:Value->WP):WP:=
 ze prog 136 [(.pointer x0),(.int .u32 x1)] (.many [(.one .ptr),(.one (.int .i64))]) fun(u1:Option Addr×Int×Unit)=>
 za (u1.2.1 !=(0:Int)) (K (.int .i64 u1.2.1))<|
 zi u1.1 fun(p2:Addr)=>
 ldW (.int .u16) p2 fun(u3:Int)=>
 za (u3==(65535:Int)) (K (.int .i64 (12:Int)))<|
 zi u1.1 fun(p4:Addr)=>
 ldW (.int .u16) p4 fun(u5:Int)=>
 zi u1.1 fun(p6:Addr)=>
 stW p6 (.int .u16 (wrap .u16 (u5+(1:Int))))<|K (.int .i64 (0:Int))
theorem zlB (x0:Option Addr) (x1:Int) {K:Value->WP} {w:World} (h:S139 x0 x1 K w):Calls prog 139 #[(.pointer x0),(.int .u32 x1)] w (Ret K):=cF an139 false Tryz.func139 h
def an141:Ann:=(AN (AR (AN (AQ AO AP)) (AR (AN (.block (.loop [(21,.sh (.one .slc))] [] (AN (.block (AN (AR (AN (.block (.loop [(4,.sh (.one .slc)),(24,.sh (.one (.int .i64)))] [2,22,23,1000000] (AN (AR (AQ AP AP) (AR (.block AO) AP)))))) AP))))))) AO)))
def S141 (x0:Option Addr) (K:Value->WP):WP:=
 zh (.cells #[(.slice none 0 0)] 158) fun(r1:Nat)=>
 za (Option.isNone x0) (stW (aD r1) (.slice none 0 0)<|
 zR prog []<|
 ldW .slc (aD r1) fun(u2:SLC)=>K (.slice u2.1 u2.2.1 u2.2.2))<|
 zA<|
 zi x0 fun(p3:Addr)=>
 ldW .slc (p3.add 2) fun(u4:SLC)=>
 zi x0 fun(p5:Addr)=>
 ldW (.int .i64) p5 fun(u6:Int)=>
 ze prog 121 [(.int .i64 u6)] (.one (.one (.int .i64))) fun(u7:Int)=>
 zq [[((p3.add 2),(.slice u4.1 u4.2.1 u4.2.2))]]<|
 ze prog 181 [(.slice u4.1 u4.2.1 u4.2.2),(.int .i64 (wrap .i64 (Int.tdiv u7 (2:Int))))] (.one (.one .any)) fun(u8:Value)=>
 jm prog u8 (SLC×Unit) (fun(t9:SLC×Unit)=>[(.slice t9.1.1 t9.1.2.1 t9.1.2.2)]) (fun(t9:SLC×Unit) (B10:WP->WP) (N11:WP) (Q12:Code->WP)=>B10 (zH (SLC×Int×Unit) ((none,0,0),(0:Int),()) fun(y16:SLC×Int×Unit) (I15:(SLC×Int×Unit)->WP)=>
 za (decide (y16.2.1<((t9.1.2.1:Nat):Int))) (zc (0<=y16.2.1/\y16.2.1<((t9.1.2.1:Nat):Int))<|
 zi t9.1.1 fun(p17:Addr)=>
 ldW (.int .u16) (p17.add (Int.toNat y16.2.1*1)) fun(u18:Int)=>
 ze prog 42 [(.slice y16.1.1 y16.1.2.1 y16.1.2.2),(.int .u64 (wrap .u64 u18)),(.int .i64 (2:Int))] (.one (.one .slc)) fun(u19:SLC)=>I15 ((u19.1,u19.2.1,u19.2.2),(wrap .i64 (y16.2.1+(1:Int))),()))<|
 ldW .slc (aD r1) fun(u20:SLC)=>
 zw prog (Go.convert 85 9 (.slice y16.1.1 y16.1.2.1 y16.1.2.2)) .str fun(u21:ByteArray)=>
 zh (.cells #[(.string u21)] 9) fun(r22:Nat)=>
 zw prog (Builtin.append_ #[158,158] 158 #[(.slice u20.1 u20.2.1 u20.2.2),(.slice (some (aD r22)) 1 1)]) .slc fun(u23:SLC)=>
 stW (aD r1) (.slice u23.1 u23.2.1 u23.2.2)<|N11)) fun(r13:Nat) (p14:Option Code)=>
 qT (ldW .slc (aD r1) fun(u24:SLC)=>
 stW (aD r1) (.slice u24.1 u24.2.1 u24.2.2)<|
 zR prog (⟨.collected r13,#[]⟩::[])<|
 ldW .slc (aD r1) fun(u25:SLC)=>K (.slice u25.1 u25.2.1 u25.2.2)) (zR prog (⟨.collected r13,#[]⟩::[])<|
 ldW .slc (aD r1) fun(u26:SLC)=>K (.slice u26.1 u26.2.1 u26.2.2)) [] p14
theorem zlC (x0:Option Addr) {K:Value->WP} {w:World} (h:S141 x0 K w):Calls prog 141 #[(.pointer x0)] w (Ret K):=cF an141 true Tryz.func141 h
def an142:Ann:=(AN (AR (.block (AN (AQ AO (AN (AQ AO AP))))) (AR (AN (.block (.loop [(17,.sh (.one (.int .i64)))] [0,15,16,1000000] (AN (AR (AQ AP AP) (AR (.block AO) AP)))))) (AN AO))))
def S142 (x0:Option Addr) (K:Value->WP):WP:=
 za (Option.isNone x0) (K (.int .i64 (1:Int)))<|
 ze prog 163 [(.pointer x0)] (.one (.one .bool)) fun(u1:Bool)=>
 za (!u1) (K (.int .i64 (8:Int)))<|
 zi x0 fun(p2:Addr)=>
 ldW .slc (p2.add 3) fun(u3:SLC)=>
 zH (Int×Unit) ((0:Int),()) fun(y5:Int×Unit) (I4:(Int×Unit)->WP)=>
 za (decide (y5.1<((u3.2.1:Nat):Int))) (zc (0<=y5.1/\y5.1<((u3.2.1:Nat):Int))<|
 zi u3.1 fun(p6:Addr)=>
 zk [(.int .i64),.str] (p6.add (Int.toNat y5.1*2)) fun(u7:(Int×ByteArray×Unit))=>
 zh (.cells #[(.int .i64 (0:Int)),(.string ByteArray.empty)] 230) fun(r8:Nat)=>
 zc ((#[(.int .i64 u7.1),(.string u7.2.1)]:Array Value).size=2)<|
 zt (aD r8) [(.int .i64 u7.1),(.string u7.2.1)]<|
 zA<|
 zi x0 fun(p9:Addr)=>
 ldW .slc (p9.add 2) fun(u10:SLC)=>
 ldW (.int .i64) (aD r8) fun(u11:Int)=>
 ldW .str ((aD r8).add 1) fun(u12:ByteArray)=>
 zc (0<=u11/\u11<((u10.2.1:Nat):Int))<|
 zi u10.1 fun(p13:Addr)=>
 stW (p13.add (Int.toNat u11*1)) (.string u12)<|I4 ((wrap .i64 (y5.1+(1:Int))),()))<|
 zi x0 fun(p14:Addr)=>
 stW (p14.add 3) (.slice none 0 0)<|K (.int .i64 (0:Int))
theorem zlD (x0:Option Addr) {K:Value->WP} {w:World} (h:S142 x0 K w):Calls prog 142 #[(.pointer x0)] w (Ret K):=cF an142 false Tryz.func142 h
def an143:Ann:=(AN (AR (AN (AN (AQ AO AP))) (AN (AR (AN (.block (.loop [(5,.sh (.one .slc)),(28,.sh (.one (.int .i64)))] [1,26,27,1000000] (AN (AR (AQ AP AP) (AR (.block AO) AP)))))) (AN (AR (AN (.block (.loop [(5,.sh (.one .slc)),(45,.sh (.one (.int .i64)))] [1,43,44,1000000] (AN (AR (AQ AP AP) (AR (.block AO) AP)))))) AO))))))
def S143 (Aa:Int) (Af:Int) (Ag:Int) (Ar:Int) (AF:Option Addr) (AG AH:Nat) (K:Value->WP):WP:=
 zh (.cells #[(.int .u64 Aa),(.int .i64 Af),(.int .i64 Ag),(.int .u32 Ar),(.slice AF AG AH)] 79) fun(r1:Nat)=>
 zk [(.int .u64),(.int .i64),(.int .i64),(.int .u32),.slc] (aD r1) fun(u2:(Int×Int×Int×Int×SLC×Unit))=>
 ze prog 117 [(.agg #[(.int .u64 u2.1),(.int .i64 u2.2.1),(.int .i64 u2.2.2.1),(.int .u32 u2.2.2.2.1),(.slice u2.2.2.2.2.1.1 u2.2.2.2.2.1.2.1 u2.2.2.2.2.1.2.2)])] (.one (.one (.int .i64))) fun(u3:Int)=>
 za (u3 !=(0:Int)) (K (.tuple #[(.string (ByteArray.mk #[])),(.int .i64 u3)]))<|
 ldW (.int .i64) ((aD r1).add 1) fun(u4:Int)=>
 ldW (.int .i64) (((aD r1).add 1).add 1) fun(u5:Int)=>
 ldW (.int .u32) ((aD r1).add 3) fun(u6:Int)=>
 zh (.cells #[(.int .u64 (wrap .u64 u4)),(.int .u64 (wrap .u64 u5)),(.int .u64 (wrap .u64 u6))] 42) fun(r7:Nat)=>
 zH (SLC×Int×Unit) ((none,0,0),(0:Int),()) fun(y9:SLC×Int×Unit) (I8:(SLC×Int×Unit)->WP)=>
 za (decide (y9.2.1<((3:Nat):Int))) (zc (0<=y9.2.1/\y9.2.1<((3:Nat):Int))<|
 zi (some (aD r7)) fun(p10:Addr)=>
 ldW (.int .u64) (p10.add (Int.toNat y9.2.1*1)) fun(u11:Int)=>
 ze prog 42 [(.slice y9.1.1 y9.1.2.1 y9.1.2.2),(.int .u64 u11),(.int .i64 (4:Int))] (.one (.one .slc)) fun(u12:SLC)=>I8 ((u12.1,u12.2.1,u12.2.2),(wrap .i64 (y9.2.1+(1:Int))),()))<|
 ldW .slc ((aD r1).add 4) fun(u13:SLC)=>
 ze prog 42 [(.slice y9.1.1 y9.1.2.1 y9.1.2.2),(.int .u64 (wrap .u64 ((u13.2.1:Nat):Int))),(.int .i64 (2:Int))] (.one (.one .slc)) fun(u14:SLC)=>
 ldW .slc ((aD r1).add 4) fun(u15:SLC)=>
 zH (SLC×Int×Unit) ((u14.1,u14.2.1,u14.2.2),(0:Int),()) fun(y17:SLC×Int×Unit) (I16:(SLC×Int×Unit)->WP)=>
 za (decide (y17.2.1<((u15.2.1:Nat):Int))) (zc (0<=y17.2.1/\y17.2.1<((u15.2.1:Nat):Int))<|
 zi u15.1 fun(p18:Addr)=>
 ldW (.int .u32) (p18.add (Int.toNat y17.2.1*1)) fun(u19:Int)=>
 ze prog 42 [(.slice y17.1.1 y17.1.2.1 y17.1.2.2),(.int .u64 (wrap .u64 u19)),(.int .i64 (4:Int))] (.one (.one .slc)) fun(u20:SLC)=>I16 ((u20.1,u20.2.1,u20.2.2),(wrap .i64 (y17.2.1+(1:Int))),()))<|
 ldW (.int .i64) ((aD r1).add 1) fun(u21:Int)=>
 ldW (.int .u64) (aD r1) fun(u22:Int)=>
 zw prog (Go.convert 85 9 (.slice y17.1.1 y17.1.2.1 y17.1.2.2)) .str fun(u23:ByteArray)=>
 ze prog 123 [(.int .i64 u21),(.agg #[(.int .u8 (1:Int)),(.int .u64 u22),(.string u23)])] (.many [(.one .str),(.one (.int .i64))]) fun(u24:ByteArray×Int×Unit)=>K (.tuple #[(.string u24.1),(.int .i64 u24.2.1)])
theorem zlE (Aa:Int) (Af:Int) (Ag:Int) (Ar:Int) (AF:Option Addr) (AG AH:Nat) {K:Value->WP} {w:World} (h:S143 Aa Af Ag Ar AF AG AH K w):Calls prog 143 #[(.agg #[(.int .u64 Aa),(.int .i64 Af),(.int .i64 Ag),(.int .u32 Ar),(.slice AF AG AH)])] w (Ret K):=cF an143 false Tryz.func143 h
def an144:Ann:=(AN (AR (AN (AQ AO AP)) AO))
def S144 (a0:Option Addr) (n0 c0:Nat) (K:Value->WP):WP:=
 za (Option.isNone a0) (K (.slice none 0 0))<|
 zh (.cells #[] 194) fun(r1:Nat)=>
 zw prog (Builtin.append_ #[191,191] 191 #[(.slice (some (aD r1)) 0 0),(.slice a0 n0 c0)]) .slc fun(u2:SLC)=>K (.slice u2.1 u2.2.1 u2.2.2)
theorem zlF (a0:Option Addr) (n0 c0:Nat) {K:Value->WP} {w:World} (h:S144 a0 n0 c0 K w):Calls prog 144 #[(.slice a0 n0 c0)] w (Ret K):=cF an144 false Tryz.func144 h
def an154:Ann:=(AN AO)
def S154 (a0:Option Addr) (n0 c0:Nat) (x1:Value) (K:Value->WP):WP:=
 ze prog 195 [(.slice a0 n0 c0),x1] (.one (.one (.int .i64))) fun(u1:Int)=>K (.bool (decide (u1>=(0:Int))))
theorem zlG (a0:Option Addr) (n0 c0:Nat) (x1:Value) {K:Value->WP} {w:World} (h:S154 a0 n0 c0 x1 K w):Calls prog 154 #[(.slice a0 n0 c0),x1] w (Ret K):=cF an154 false Tryz.func154 h
def an155:Ann:=(AN AO)
def S155 (Aa:ByteArray) (Af:Int) (Ag:Bool) (a1:Addr) (K:Value->WP):WP:=
 zh (.cells #[(.string Aa),(.int .i64 Af),(.bool Ag)] 62) fun(r1:Nat)=>
 ldW .str (aD r1) fun(u2:ByteArray)=>
 ldW .str a1 fun(u3:ByteArray)=>K (.bool (u2.toList==u3.toList))
theorem zlH (Aa:ByteArray) (Af:Int) (Ag:Bool) (a1:Addr) {K:Value->WP} {w:World} (h:S155 Aa Af Ag a1 K w):Calls prog 155 #[(.agg #[(.string Aa),(.int .i64 Af),(.bool Ag)]),(.pointer (some a1))] w (Ret K):=cF an155 false Tryz.func155 h
def an156:Ann:=(AN AO)
def S156 (a0:Option Addr) (n0 c0:Nat) (K:Value->WP):WP:=
 zh (.cells #[(.slice a0 n0 c0)] 85) fun(r1:Nat)=>K (.func (.func 196) #[] #[(.pointer (some (aD r1)))])
theorem zlI (a0:Option Addr) (n0 c0:Nat) {K:Value->WP} {w:World} (h:S156 a0 n0 c0 K w):Calls prog 156 #[(.slice a0 n0 c0)] w (Ret K):=cF an156 false Tryz.func156 h
def an157:Ann:=(AN (AR (AN (AQ AO AP)) (AN AO)))
def S157 (x0:ByteArray) (K:Value->WP):WP:=
 zh (.cells #[(.string ByteArray.empty),(.int .i64 (0:Int)),(.bool false)] 62) fun(r1:Nat)=>
 za (decide (((x0.size:Nat):Int)<(2:Int))) (zc ((#[(.string ByteArray.empty),(.int .i64 (0:Int)),(.bool false)]:Array Value).size=3)<|
 zt (aD r1) [(.string ByteArray.empty),(.int .i64 (0:Int)),(.bool false)]<|
 zk [.str,(.int .i64),.bool] (aD r1) fun(u2:(ByteArray×Int×Bool×Unit))=>K (.tuple #[(.agg #[(.string u2.1),(.int .i64 u2.2.1),(.bool u2.2.2.1)]),(.string (ByteArray.mk #[])),(.bool false)]))<|
 zc (0<=(1:Int)/\(1:Int)<((x0.size:Nat):Int))<|
 za (decide ((wrap .i64 (((x0.size:Nat):Int)-(2:Int)))<(wrap .i64 (bt x0 (1:Int))))) (zc ((#[(.string ByteArray.empty),(.int .i64 (0:Int)),(.bool false)]:Array Value).size=3)<|
 zt (aD r1) [(.string ByteArray.empty),(.int .i64 (0:Int)),(.bool false)]<|
 zk [.str,(.int .i64),.bool] (aD r1) fun(u3:(ByteArray×Int×Bool×Unit))=>K (.tuple #[(.agg #[(.string u3.1),(.int .i64 u3.2.1),(.bool u3.2.2.1)]),(.string (ByteArray.mk #[])),(.bool false)]))<|
 zc (0<=(1:Int)/\(1:Int)<((x0.size:Nat):Int))<|
 zA<|
 zc (0<=(2:Int)/\(2:Int)<=(wrap .i64 ((2:Int)+(wrap .i64 (bt x0 (1:Int)))))/\(wrap .i64 ((2:Int)+(wrap .i64 (bt x0 (1:Int)))))<=((x0.size:Nat):Int))<|
 zc (0<=(0:Int)/\(0:Int)<((x0.size:Nat):Int))<|
 zc (0<=(0:Int)/\(0:Int)<((x0.size:Nat):Int))<|
 zc (0<=(wrap .i64 ((2:Int)+(wrap .i64 (bt x0 (1:Int)))))/\(wrap .i64 ((2:Int)+(wrap .i64 (bt x0 (1:Int)))))<=((x0.size:Nat):Int))<|
 zc ((#[(.string (ByteArray.extract x0 (Int.toNat (2:Int)) (Int.toNat (wrap .i64 ((2:Int)+(wrap .i64 (bt x0 (1:Int)))))))),(.int .i64 (wrap .i64 (iandn .u8 (bt x0 (0:Int)) (128:Int)))),(.bool ((iand .u8 (bt x0 (0:Int)) (128:Int)) !=(0:Int)))]:Array Value).size=3)<|
 zt (aD r1) [(.string (ByteArray.extract x0 (Int.toNat (2:Int)) (Int.toNat (wrap .i64 ((2:Int)+(wrap .i64 (bt x0 (1:Int)))))))),(.int .i64 (wrap .i64 (iandn .u8 (bt x0 (0:Int)) (128:Int)))),(.bool ((iand .u8 (bt x0 (0:Int)) (128:Int)) !=(0:Int)))]<|
 zk [.str,(.int .i64),.bool] (aD r1) fun(u4:(ByteArray×Int×Bool×Unit))=>K (.tuple #[(.agg #[(.string u4.1),(.int .i64 u4.2.1),(.bool u4.2.2.1)]),(.string (ByteArray.extract x0 (Int.toNat (wrap .i64 ((2:Int)+(wrap .i64 (bt x0 (1:Int)))))) x0.size)),(.bool true)])
theorem zlJ (x0:ByteArray) {K:Value->WP} {w:World} (h:S157 x0 K w):Calls prog 157 #[(.string x0)] w (Ret K):=cF an157 false Tryz.func157 h
def an161:Ann:=(AN AO)
def S161 (x0:Int) (a1:Addr) (K:Value->WP):WP:=
 za (decide (x0>=(2:Int))) (ldW (.int .i64) ((a1.add 1).add 1) fun(u1:Int)=>K (.bool (decide ((wrap .u64 x0)<(wrap .u64 u1)))))<|K (.bool false)
theorem zlK (x0:Int) (a1:Addr) {K:Value->WP} {w:World} (h:S161 x0 a1 K w):Calls prog 161 #[(.int .u32 x0),(.pointer (some a1))] w (Ret K):=cF an161 false Tryz.func161 h
def an162:Ann:=(AN AO)
def S162 (x0:Option Addr) (x1:Int) (K:Value->WP):WP:=
 za (decide (x1>=(0:Int))) (zi x0 fun(p1:Addr)=>
 ldW (.int .i64) (p1.add 1) fun(u2:Int)=>K (.bool (decide (x1<u2))))<|K (.bool false)
theorem zlL (x0:Option Addr) (x1:Int) {K:Value->WP} {w:World} (h:S162 x0 x1 K w):Calls prog 162 #[(.pointer x0),(.int .i64 x1)] w (Ret K):=cF an162 false Tryz.func162 h
def an163:Ann:=(AN (AR (AN (AQ AO AP)) (AN (AN AO))))
def S163 (x0:Option Addr) (K:Value->WP):WP:=
 zi x0 fun(p1:Addr)=>
 ldW (.int .i64) (p1.add 5) fun(u2:Int)=>
 za (u2==(0:Int)) (K (.bool false))<|
 zi x0 fun(p3:Addr)=>
 ldW (.int .i64) (p3.add 5) fun(u4:Int)=>
 zi x0 fun(p5:Addr)=>
 stW (p5.add 5) (.int .i64 (if (wrap .i64 (u4-(1:Int)))>(-1:Int) then (wrap .i64 (u4-(1:Int))) else (-1:Int)))<|
 zi x0 fun(p6:Addr)=>
 ldW (.int .i64) (p6.add 4) fun(u7:Int)=>
 zi x0 fun(p8:Addr)=>
 stW (p8.add 4) (.int .i64 (wrap .i64 (u7+(1:Int))))<|K (.bool true)
theorem zlM (x0:Option Addr) {K:Value->WP} {w:World} (h:S163 x0 K w):Calls prog 163 #[(.pointer x0)] w (Ret K):=cF an163 false Tryz.func163 h
def an164:Ann:=(AN (AR (AN (.block (.loop [(8,.sh (.one (.int .i64)))] [0,1,7,1000000] (AN (AR (AQ AP AP) (AR (.block (AN (AN (AQ AO AP)))) AP)))))) AO))
def S164 (a0:Option Addr) (n0 c0:Nat) (x1:Int) (K:Value->WP):WP:=
 zH (Int×Unit) ((0:Int),()) fun(y2:Int×Unit) (I1:(Int×Unit)->WP)=>
 za (decide (y2.1<((n0:Nat):Int))) (zc (0<=y2.1/\y2.1<((n0:Nat):Int))<|
 zi a0 fun(p3:Addr)=>
 ldW (.int .u32) (p3.add (Int.toNat y2.1*1)) fun(u4:Int)=>
 za (x1==u4) (K (.int .i64 y2.1))<|I1 ((wrap .i64 (y2.1+(1:Int))),()))<|K (.int .i64 (-1:Int))
theorem zlN (a0:Option Addr) (n0 c0:Nat) (x1:Int) {K:Value->WP} {w:World} (h:S164 a0 n0 c0 x1 K w):Calls prog 164 #[(.slice a0 n0 c0),(.int .u32 x1)] w (Ret K):=cF an164 false Tryz.func164 h
def an165:Ann:=(AN AO)
def S165 (a0:Option Addr) (n0 c0:Nat) (K:Value->WP):WP:=
 ze prog 201 [] (.one (.arr 256)) fun(u1:Array Value)=>
 ze prog 200 [(.agg u1),(.slice a0 n0 c0)] (.one (.one (.int .u32))) fun(u2:Int)=>K (.int .u32 u2)
theorem zlO (a0:Option Addr) (n0 c0:Nat) {K:Value->WP} {w:World} (h:S165 a0 n0 c0 K w):Calls prog 165 #[(.slice a0 n0 c0)] w (Ret K):=cF an165 false Tryz.func165 h
def an166:Ann:=(AN (AN (AR (AN (AQ AO AP)) AO)))
def S166 (x0:Option Addr) (x1:Int) (K:Value->WP):WP:=
 zh (.cells #[(.int .u8 (0:Int)),(.slice none 0 0),(.slice none 0 0),(.slice none 0 0)] 215) fun(r1:Nat)=>
 ze prog 88 [(.pointer x0),(.int .u32 x1)] (.many [(.agg [(.int .u8),.slc,.str]),(.one (.int .i64))]) fun(u2:(Int×SLC×ByteArray×Unit)×Int×Unit)=>
 zh (.cells #[(.int .u8 (0:Int)),(.slice none 0 0),(.string ByteArray.empty)] 56) fun(r3:Nat)=>
 zc ((#[(.int .u8 u2.1.1),(.slice u2.1.2.1.1 u2.1.2.1.2.1 u2.1.2.1.2.2),(.string u2.1.2.2.1)]:Array Value).size=3)<|
 zt (aD r3) [(.int .u8 u2.1.1),(.slice u2.1.2.1.1 u2.1.2.1.2.1 u2.1.2.1.2.2),(.string u2.1.2.2.1)]<|
 za (u2.2.1 !=(0:Int)) (zc ((#[(.int .u8 (0:Int)),(.slice none 0 0),(.slice none 0 0),(.slice none 0 0)]:Array Value).size=4)<|
 zt (aD r1) [(.int .u8 (0:Int)),(.slice none 0 0),(.slice none 0 0),(.slice none 0 0)]<|
 zk [(.int .u8),.slc,.slc,.slc] (aD r1) fun(u4:(Int×SLC×SLC×SLC×Unit))=>K (.tuple #[(.agg #[(.int .u8 u4.1),(.slice u4.2.1.1 u4.2.1.2.1 u4.2.1.2.2),(.slice u4.2.2.1.1 u4.2.2.1.2.1 u4.2.2.1.2.2),(.slice u4.2.2.2.1.1 u4.2.2.2.1.2.1 u4.2.2.2.1.2.2)]),(.int .i64 u2.2.1)]))<|
 zk [(.int .u8),.slc,.str] (aD r3) fun(u5:(Int×SLC×ByteArray×Unit))=>
 ze prog 202 [(.agg #[(.int .u8 u5.1),(.slice u5.2.1.1 u5.2.1.2.1 u5.2.1.2.2),(.string u5.2.2.1)])] (.many [(.agg [(.int .u8),.slc,.slc,.slc]),(.one (.int .i64))]) fun(u6:(Int×SLC×SLC×SLC×Unit)×Int×Unit)=>
 zc ((#[(.int .u8 u6.1.1),(.slice u6.1.2.1.1 u6.1.2.1.2.1 u6.1.2.1.2.2),(.slice u6.1.2.2.1.1 u6.1.2.2.1.2.1 u6.1.2.2.1.2.2),(.slice u6.1.2.2.2.1.1 u6.1.2.2.2.1.2.1 u6.1.2.2.2.1.2.2)]:Array Value).size=4)<|
 zt (aD r1) [(.int .u8 u6.1.1),(.slice u6.1.2.1.1 u6.1.2.1.2.1 u6.1.2.1.2.2),(.slice u6.1.2.2.1.1 u6.1.2.2.1.2.1 u6.1.2.2.1.2.2),(.slice u6.1.2.2.2.1.1 u6.1.2.2.2.1.2.1 u6.1.2.2.2.1.2.2)]<|
 zk [(.int .u8),.slc,.slc,.slc] (aD r1) fun(u7:(Int×SLC×SLC×SLC×Unit))=>K (.tuple #[(.agg #[(.int .u8 u7.1),(.slice u7.2.1.1 u7.2.1.2.1 u7.2.1.2.2),(.slice u7.2.2.1.1 u7.2.2.1.2.1 u7.2.2.1.2.2),(.slice u7.2.2.2.1.1 u7.2.2.2.1.2.1 u7.2.2.2.1.2.2)]),(.int .i64 u6.2.1)])
theorem zlP (x0:Option Addr) (x1:Int) {K:Value->WP} {w:World} (h:S166 x0 x1 K w):Calls prog 166 #[(.pointer x0),(.int .u32 x1)] w (Ret K):=cF an166 false Tryz.func166 h
def an167:Ann:=(AN AO)
def S167 (Aa:Int) (Ab:Option Addr) (Ac Ae:Nat) (Ah:Option Addr) (Ai Aj:Nat) (Ak:Option Addr) (Al Am:Nat) (K:Value->WP):WP:=
 zh (.cells #[(.int .u8 Aa),(.slice Ab Ac Ae),(.slice Ah Ai Aj),(.slice Ak Al Am)] 215) fun(r1:Nat)=>
 ldW (.int .u8) (aD r1) fun(u2:Int)=>K (.bool (u2==(3:Int)))
theorem zlQ (Aa:Int) (Ab:Option Addr) (Ac Ae:Nat) (Ah:Option Addr) (Ai Aj:Nat) (Ak:Option Addr) (Al Am:Nat) {K:Value->WP} {w:World} (h:S167 Aa Ab Ac Ae Ah Ai Aj Ak Al Am K w):Calls prog 167 #[(.agg #[(.int .u8 Aa),(.slice Ab Ac Ae),(.slice Ah Ai Aj),(.slice Ak Al Am)])] w (Ret K):=cF an167 false Tryz.func167 h
def an168:Ann:=(AN (AR (AN (AQ AO AP)) AO))
def S168 (Aa:Int) (Ab:Option Addr) (Ac Ae:Nat) (Ah:Option Addr) (Ai Aj:Nat) (Ak:Option Addr) (Al Am:Nat) (x1:Int) (K:Value->WP):WP:=
 zh (.cells #[(.int .u8 Aa),(.slice Ab Ac Ae),(.slice Ah Ai Aj),(.slice Ak Al Am)] 215) fun(r1:Nat)=>
 zk [(.int .u8),.slc,.slc,.slc] (aD r1) fun(u2:(Int×SLC×SLC×SLC×Unit))=>
 ze prog 203 [(.agg #[(.int .u8 u2.1),(.slice u2.2.1.1 u2.2.1.2.1 u2.2.1.2.2),(.slice u2.2.2.1.1 u2.2.2.1.2.1 u2.2.2.1.2.2),(.slice u2.2.2.2.1.1 u2.2.2.2.1.2.1 u2.2.2.2.1.2.2)])] (.one (.one .bool)) fun(u3:Bool)=>
 za u3 (ldW .slc ((aD r1).add 3) fun(u4:SLC)=>
 zc (0<=x1/\x1<((u4.2.1:Nat):Int))<|
 zi u4.1 fun(p5:Addr)=>
 ldW (.int .u32) (p5.add (Int.toNat x1*1)) fun(u6:Int)=>K (.int .u64 (wrap .u64 u6)))<|
 ldW .slc ((aD r1).add 2) fun(u7:SLC)=>
 zc (0<=x1/\x1<((u7.2.1:Nat):Int))<|
 zi u7.1 fun(p8:Addr)=>
 ldW (.int .u64) (p8.add (Int.toNat x1*1)) fun(u9:Int)=>K (.int .u64 u9)
theorem zlR (Aa:Int) (Ab:Option Addr) (Ac Ae:Nat) (Ah:Option Addr) (Ai Aj:Nat) (Ak:Option Addr) (Al Am:Nat) (x1:Int) {K:Value->WP} {w:World} (h:S168 Aa Ab Ac Ae Ah Ai Aj Ak Al Am x1 K w):Calls prog 168 #[(.agg #[(.int .u8 Aa),(.slice Ab Ac Ae),(.slice Ah Ai Aj),(.slice Ak Al Am)]),(.int .i64 x1)] w (Ret K):=cF an168 false Tryz.func168 h
def an169:Ann:=(AN (AR (AN (AQ AO AP)) (AN (.block (.loop [(4,.sh (.one (.int .i64))),(26,.sh (.one (.int .i64)))] [0,1,24,25,1000000] (AN (AR (AQ AP AP) (AR (.block (AN (AN (AN (AN (.join [(11,.sh (.one (.int .i64)))] [0,1,4,10,24,25,26,1000000] (AN (AQ AP AP)) (AR (AN (AQ AO AP)) (AN (AQ AP AP))))))))) AP))))))))
def S169 (x0:Value) (a1:Addr) (a2:Addr) (K:Value->WP):WP:=
 ldW .ptr a1 fun(u1:Option Addr)=>
 ldW (.int .u32) a2 fun(u2:Int)=>
 ze prog 170 [(.pointer u1),(.int .u32 u2)] (.many [(.one (.int .i64)),(.one .slc),(.one (.int .i64))]) fun(u3:Int×SLC×Int×Unit)=>
 za (u3.2.2.1 !=(0:Int)) (yF prog x0 [(.string (ByteArray.mk #[])),(.int .i64 u3.2.2.1)] (.one (.one .bool)) fun(u4:Bool)=>K (.tuple #[]))<|
 zH (Int×Int×Unit) (u3.1,(0:Int),()) fun(y6:Int×Int×Unit) (I5:(Int×Int×Unit)->WP)=>
 za (decide (y6.2.1<((u3.2.1.2.1:Nat):Int))) (zc (0<=y6.2.1/\y6.2.1<((u3.2.1.2.1:Nat):Int))<|
 zi u3.2.1.1 fun(p7:Addr)=>
 ldW (.int .u32) (p7.add (Int.toNat y6.2.1*1)) fun(u8:Int)=>
 ldW .ptr a1 fun(u9:Option Addr)=>
 ze prog 76 [(.pointer u9),(.int .i64 (0:Int))] (.one (.one (.int .i64))) fun(u10:Int)=>
 ldW .ptr a1 fun(u11:Option Addr)=>
 ze prog 88 [(.pointer u11),(.int .u32 u8)] (.many [(.agg [(.int .u8),.slc,.str]),(.one (.int .i64))]) fun(u12:(Int×SLC×ByteArray×Unit)×Int×Unit)=>
 zh (.cells #[(.int .u8 (0:Int)),(.slice none 0 0),(.string ByteArray.empty)] 56) fun(r13:Nat)=>
 zc ((#[(.int .u8 u12.1.1),(.slice u12.1.2.1.1 u12.1.2.1.2.1 u12.1.2.1.2.2),(.string u12.1.2.2.1)]:Array Value).size=3)<|
 zt (aD r13) [(.int .u8 u12.1.1),(.slice u12.1.2.1.1 u12.1.2.1.2.1 u12.1.2.1.2.2),(.string u12.1.2.2.1)]<|
 yC (Int×Unit) (fun(J14:(Int×Unit)->WP)=>
 za (u12.2.1==(0:Int)) (ldW (.int .u8) (aD r13) fun(u16:Int)=>
 za (u16 !=(7:Int)) (J14 ((10:Int),()))<|
 ldW .slc ((aD r13).add 1) fun(u17:SLC)=>
 za (decide (((u17.2.1:Nat):Int)>(0:Int))) (J14 ((10:Int),()))<|
 ldW .str ((aD r13).add 2) fun(u18:ByteArray)=>
 za (((u18.size:Nat):Int) !=(if u10<y6.1 then u10 else y6.1)) (J14 ((10:Int),()))<|J14 (u12.2.1,()))<|J14 (u12.2.1,())) fun(y15:Int×Unit)=>
 za (y15.1 !=(0:Int)) (yF prog x0 [(.string (ByteArray.mk #[])),(.int .i64 y15.1)] (.one (.one .bool)) fun(u19:Bool)=>K (.tuple #[]))<|
 ldW .str ((aD r13).add 2) fun(u20:ByteArray)=>
 yF prog x0 [(.string u20),(.int .i64 (0:Int))] (.one (.one .bool)) fun(u21:Bool)=>
 za (!u21) (K (.tuple #[]))<|I5 ((wrap .i64 (y6.1-(if u10<y6.1 then u10 else y6.1))),(wrap .i64 (y6.2.1+(1:Int))),()))<|K (.tuple #[])
theorem zlS (x0:Value) (a1:Addr) (a2:Addr) {K:Value->WP} {w:World} (h:S169 x0 a1 a2 K w):Calls prog 169 #[x0,(.pointer (some a1)),(.pointer (some a2))] w (Ret K):=cF an169 false Tryz.func169 h
def an170:Ann:=(AN (AN (AR (.block (AN (AQ AO (AN (AQ AO (AN (AQ AO AP))))))) (AN (AN (AR (AN (AQ AO AP)) AO))))))
def S170 (x0:Option Addr) (x1:Int) (K:Value->WP):WP:=
 ze prog 88 [(.pointer x0),(.int .u32 x1)] (.many [(.agg [(.int .u8),.slc,.str]),(.one (.int .i64))]) fun(u1:(Int×SLC×ByteArray×Unit)×Int×Unit)=>
 zh (.cells #[(.int .u8 (0:Int)),(.slice none 0 0),(.string ByteArray.empty)] 56) fun(r2:Nat)=>
 zc ((#[(.int .u8 u1.1.1),(.slice u1.1.2.1.1 u1.1.2.1.2.1 u1.1.2.1.2.2),(.string u1.1.2.2.1)]:Array Value).size=3)<|
 zt (aD r2) [(.int .u8 u1.1.1),(.slice u1.1.2.1.1 u1.1.2.1.2.1 u1.1.2.1.2.2),(.string u1.1.2.2.1)]<|
 za (u1.2.1 !=(0:Int)) (K (.tuple #[(.int .i64 (0:Int)),(.slice none 0 0),(.int .i64 u1.2.1)]))<|
 ldW (.int .u8) (aD r2) fun(u3:Int)=>
 za (u3 !=(6:Int)) (K (.tuple #[(.int .i64 (0:Int)),(.slice none 0 0),(.int .i64 (11:Int))]))<|
 ldW .str ((aD r2).add 2) fun(u4:ByteArray)=>
 za (((u4.size:Nat):Int) !=(4:Int)) (K (.tuple #[(.int .i64 (0:Int)),(.slice none 0 0),(.int .i64 (10:Int))]))<|
 ldW .str ((aD r2).add 2) fun(u5:ByteArray)=>
 zw prog (Go.convert 9 85 (.string u5)) .slc fun(u6:SLC)=>
 ze prog 107 [(.slice u6.1 u6.2.1 u6.2.2)] (.one (.one (.int .u64))) fun(u7:Int)=>
 ze prog 76 [(.pointer x0),(.int .i64 (0:Int))] (.one (.one (.int .i64))) fun(u8:Int)=>
 zA<|
 za (decide ((wrap .i64 u7)>(65536:Int))) (K (.tuple #[(.int .i64 (0:Int)),(.slice none 0 0),(.int .i64 (10:Int))]))<|
 zc (u8≠0)<|
 ldW .slc ((aD r2).add 1) fun(u9:SLC)=>
 za ((wrap .i64 (Int.tdiv (wrap .i64 ((wrap .i64 ((wrap .i64 u7)+u8))-(1:Int))) u8)) !=((u9.2.1:Nat):Int)) (K (.tuple #[(.int .i64 (0:Int)),(.slice none 0 0),(.int .i64 (10:Int))]))<|
 zA<|
 ldW .slc ((aD r2).add 1) fun(u10:SLC)=>K (.tuple #[(.int .i64 (wrap .i64 u7)),(.slice u10.1 u10.2.1 u10.2.2),(.int .i64 (0:Int))])
theorem zlT (x0:Option Addr) (x1:Int) {K:Value->WP} {w:World} (h:S170 x0 x1 K w):Calls prog 170 #[(.pointer x0),(.int .u32 x1)] w (Ret K):=cF an170 false Tryz.func170 h
def an172:Ann:=(AN (AN (AR (AN (AQ AO AP)) (AN (AR (AN (.block (.loop [(4,.sh (.one .slc)),(5,.sh (.one .slc)),(28,.sh (.one (.int .i64)))] [1,2,8,27,1000000] (AN (AR (AQ AP AP) (AR (.block (AN (AN (AN (AR (AN (AQ AO AP)) AP))))) AP)))))) AO)))))
def S172 (Aa:Int) (Ab:Option Addr) (Ac Ae:Nat) (Ah:Option Addr) (Ai Aj:Nat) (Ak:Option Addr) (Al Am:Nat) (x1:Option Addr) (K:Value->WP):WP:=
 zh (.cells #[(.int .u8 Aa),(.slice Ab Ac Ae),(.slice Ah Ai Aj),(.slice Ak Al Am)] 215) fun(r1:Nat)=>
 ldW (.int .u8) (aD r1) fun(u2:Int)=>
 ze prog 205 [(.pointer x1),(.int .u8 u2)] (.one (.one (.int .i64))) fun(u3:Int)=>
 za (decide (u3<(2:Int))) (K (.tuple #[(.slice none 0 0),(.slice none 0 0),(.int .i64 (3:Int))]))<|
 ldW .slc ((aD r1).add 1) fun(u4:SLC)=>
 zc (u3≠0)<|
 zH (SLC×SLC×Int×Unit) ((none,0,0),(none,0,0),(0:Int),()) fun(y6:SLC×SLC×Int×Unit) (I5:(SLC×SLC×Int×Unit)->WP)=>
 za (decide (y6.2.2.1<(wrap .i64 (Int.tdiv (wrap .i64 ((wrap .i64 (((u4.2.1:Nat):Int)+u3))-(1:Int))) u3)))) (zA<|
 zk [(.int .u8),.slc,.slc,.slc] (aD r1) fun(u7:(Int×SLC×SLC×SLC×Unit))=>
 ldW .slc ((aD r1).add 1) fun(u8:SLC)=>
 zc ((wrap .i64 (Int.tdiv (wrap .i64 ((wrap .i64 (((u4.2.1:Nat):Int)+u3))-(1:Int))) u3))≠0)<|
 ldW .slc ((aD r1).add 1) fun(u9:SLC)=>
 zc ((wrap .i64 (Int.tdiv (wrap .i64 ((wrap .i64 (((u4.2.1:Nat):Int)+u3))-(1:Int))) u3))≠0)<|
 kO (ze prog 206 [(.agg #[(.int .u8 u7.1),(.slice u7.2.1.1 u7.2.1.2.1 u7.2.1.2.2),(.slice u7.2.2.1.1 u7.2.2.1.2.1 u7.2.2.1.2.2),(.slice u7.2.2.2.1.1 u7.2.2.2.1.2.1 u7.2.2.2.1.2.2)]),(.int .i64 (wrap .i64 (Int.tdiv (wrap .i64 (y6.2.2.1*((u8.2.1:Nat):Int))) (wrap .i64 (Int.tdiv (wrap .i64 ((wrap .i64 (((u4.2.1:Nat):Int)+u3))-(1:Int))) u3))))),(.int .i64 (wrap .i64 (Int.tdiv (wrap .i64 ((wrap .i64 (y6.2.2.1+(1:Int)))*((u9.2.1:Nat):Int))) (wrap .i64 (Int.tdiv (wrap .i64 ((wrap .i64 (((u4.2.1:Nat):Int)+u3))-(1:Int))) u3)))))] (.one (.agg [(.int .u8),.slc,.slc,.slc])) fun(u10:(Int×SLC×SLC×SLC×Unit))=>
 zh (.cells #[(.int .u8 (0:Int)),(.slice none 0 0),(.slice none 0 0),(.slice none 0 0)] 215) fun(r11:Nat)=>
 zq [[(((aD r1).add 1),(.slice u9.1 u9.2.1 u9.2.2))],[(((aD r1).add 1),(.slice u8.1 u8.2.1 u8.2.2))],[((aD r1).add 0,(.int .u8 u7.1)),((aD r1).add 1,(.slice u7.2.1.1 u7.2.1.2.1 u7.2.1.2.2)),((aD r1).add 2,(.slice u7.2.2.1.1 u7.2.2.1.2.1 u7.2.2.1.2.2)),((aD r1).add 3,(.slice u7.2.2.2.1.1 u7.2.2.2.1.2.1 u7.2.2.2.1.2.2))]]<|
 zc ((#[(.int .u8 u10.1),(.slice u10.2.1.1 u10.2.1.2.1 u10.2.1.2.2),(.slice u10.2.2.1.1 u10.2.2.1.2.1 u10.2.2.1.2.2),(.slice u10.2.2.2.1.1 u10.2.2.2.1.2.1 u10.2.2.2.1.2.2)]:Array Value).size=4)<|
 zt (aD r11) [(.int .u8 u10.1),(.slice u10.2.1.1 u10.2.1.2.1 u10.2.1.2.2),(.slice u10.2.2.1.1 u10.2.2.1.2.1 u10.2.2.1.2.2),(.slice u10.2.2.2.1.1 u10.2.2.2.1.2.1 u10.2.2.2.1.2.2)]<|
 zk [(.int .u8),.slc,.slc,.slc] (aD r11) fun(u12:(Int×SLC×SLC×SLC×Unit))=>
 ze prog 207 [(.agg #[(.int .u8 u12.1),(.slice u12.2.1.1 u12.2.1.2.1 u12.2.1.2.2),(.slice u12.2.2.1.1 u12.2.2.1.2.1 u12.2.2.1.2.2),(.slice u12.2.2.2.1.1 u12.2.2.2.1.2.1 u12.2.2.2.1.2.2)]),(.pointer x1)] (.many [(.one (.int .u32)),(.one (.int .i64))]) fun(u13:Int×Int×Unit)=>
 za (u13.2.1 !=(0:Int)) (K (.tuple #[(.slice none 0 0),(.slice none 0 0),(.int .i64 u13.2.1)]))<|
 ldW .slc ((aD r11).add 1) fun(u14:SLC)=>
 zc (0<=(0:Int)/\(0:Int)<((u14.2.1:Nat):Int))<|
 zi u14.1 fun(p15:Addr)=>
 ldW (.int .u64) (p15.add (Int.toNat (0:Int)*1)) fun(u16:Int)=>
 zh (.cells #[(.int .u64 u16)] 42) fun(r17:Nat)=>
 zw prog (Builtin.append_ #[129,129] 129 #[(.slice y6.1.1 y6.1.2.1 y6.1.2.2),(.slice (some (aD r17)) 1 1)]) .slc fun(u18:SLC)=>
 zh (.cells #[(.int .u32 u13.1)] 41) fun(r19:Nat)=>
 zw prog (Builtin.append_ #[54,54] 54 #[(.slice y6.2.1.1 y6.2.1.2.1 y6.2.1.2.2),(.slice (some (aD r19)) 1 1)]) .slc fun(u20:SLC)=>I5 ((u18.1,u18.2.1,u18.2.2),(u20.1,u20.2.1,u20.2.2),(wrap .i64 (y6.2.2.1+(1:Int))),()))<|
 zh (.cells #[(.int .u8 (0:Int)),(.slice none 0 0),(.slice none 0 0),(.slice none 0 0)] 215) fun(r21:Nat)=>
 zq [[(((aD r1).add 1),(.slice u9.1 u9.2.1 u9.2.2))],[(((aD r1).add 1),(.slice u8.1 u8.2.1 u8.2.2))],[((aD r1).add 0,(.int .u8 u7.1)),((aD r1).add 1,(.slice u7.2.1.1 u7.2.1.2.1 u7.2.1.2.2)),((aD r1).add 2,(.slice u7.2.2.1.1 u7.2.2.1.2.1 u7.2.2.1.2.2)),((aD r1).add 3,(.slice u7.2.2.2.1.1 u7.2.2.2.1.2.1 u7.2.2.2.1.2.2))]]<|
 ze prog 206 [(.agg #[(.int .u8 u7.1),(.slice u7.2.1.1 u7.2.1.2.1 u7.2.1.2.2),(.slice u7.2.2.1.1 u7.2.2.1.2.1 u7.2.2.1.2.2),(.slice u7.2.2.2.1.1 u7.2.2.2.1.2.1 u7.2.2.2.1.2.2)]),(.int .i64 (wrap .i64 (Int.tdiv (wrap .i64 (y6.2.2.1*((u8.2.1:Nat):Int))) (wrap .i64 (Int.tdiv (wrap .i64 ((wrap .i64 (((u4.2.1:Nat):Int)+u3))-(1:Int))) u3))))),(.int .i64 (wrap .i64 (Int.tdiv (wrap .i64 ((wrap .i64 (y6.2.2.1+(1:Int)))*((u9.2.1:Nat):Int))) (wrap .i64 (Int.tdiv (wrap .i64 ((wrap .i64 (((u4.2.1:Nat):Int)+u3))-(1:Int))) u3)))))] (.one (.agg [(.int .u8),.slc,.slc,.slc])) fun(u22:(Int×SLC×SLC×SLC×Unit))=>
 zc ((#[(.int .u8 u22.1),(.slice u22.2.1.1 u22.2.1.2.1 u22.2.1.2.2),(.slice u22.2.2.1.1 u22.2.2.1.2.1 u22.2.2.1.2.2),(.slice u22.2.2.2.1.1 u22.2.2.2.1.2.1 u22.2.2.2.1.2.2)]:Array Value).size=4)<|
 zt (aD r21) [(.int .u8 u22.1),(.slice u22.2.1.1 u22.2.1.2.1 u22.2.1.2.2),(.slice u22.2.2.1.1 u22.2.2.1.2.1 u22.2.2.1.2.2),(.slice u22.2.2.2.1.1 u22.2.2.2.1.2.1 u22.2.2.2.1.2.2)]<|
 zk [(.int .u8),.slc,.slc,.slc] (aD r21) fun(u23:(Int×SLC×SLC×SLC×Unit))=>
 ze prog 207 [(.agg #[(.int .u8 u23.1),(.slice u23.2.1.1 u23.2.1.2.1 u23.2.1.2.2),(.slice u23.2.2.1.1 u23.2.2.1.2.1 u23.2.2.1.2.2),(.slice u23.2.2.2.1.1 u23.2.2.2.1.2.1 u23.2.2.2.1.2.2)]),(.pointer x1)] (.many [(.one (.int .u32)),(.one (.int .i64))]) fun(u24:Int×Int×Unit)=>
 za (u24.2.1 !=(0:Int)) (K (.tuple #[(.slice none 0 0),(.slice none 0 0),(.int .i64 u24.2.1)]))<|
 ldW .slc ((aD r21).add 1) fun(u25:SLC)=>
 zc (0<=(0:Int)/\(0:Int)<((u25.2.1:Nat):Int))<|
 zi u25.1 fun(p26:Addr)=>
 ldW (.int .u64) (p26.add (Int.toNat (0:Int)*1)) fun(u27:Int)=>
 zh (.cells #[(.int .u64 u27)] 42) fun(r28:Nat)=>
 zw prog (Builtin.append_ #[129,129] 129 #[(.slice y6.1.1 y6.1.2.1 y6.1.2.2),(.slice (some (aD r28)) 1 1)]) .slc fun(u29:SLC)=>
 zh (.cells #[(.int .u32 u24.1)] 41) fun(r30:Nat)=>
 zw prog (Builtin.append_ #[54,54] 54 #[(.slice y6.2.1.1 y6.2.1.2.1 y6.2.1.2.2),(.slice (some (aD r30)) 1 1)]) .slc fun(u31:SLC)=>I5 ((u29.1,u29.2.1,u29.2.2),(u31.1,u31.2.1,u31.2.2),(wrap .i64 (y6.2.2.1+(1:Int))),()))<|K (.tuple #[(.slice y6.1.1 y6.1.2.1 y6.1.2.2),(.slice y6.2.1.1 y6.2.1.2.1 y6.2.1.2.2),(.int .i64 (0:Int))])
theorem zlU (Aa:Int) (Ab:Option Addr) (Ac Ae:Nat) (Ah:Option Addr) (Ai Aj:Nat) (Ak:Option Addr) (Al Am:Nat) (x1:Option Addr) {K:Value->WP} {w:World} (h:S172 Aa Ab Ac Ae Ah Ai Aj Ak Al Am x1 K w):Calls prog 172 #[(.agg #[(.int .u8 Aa),(.slice Ab Ac Ae),(.slice Ah Ai Aj),(.slice Ak Al Am)]),(.pointer x1)] w (Ret K):=cF an172 false Tryz.func172 h
def an173:Ann:=(AN AO)
def S173 (x0:Option Addr) (K:Value->WP):WP:=
 zi x0 fun(p1:Addr)=>
 ldW .slc (p1.add 3) fun(u2:SLC)=>
 ze prog 208 [(.slice u2.1 u2.2.1 u2.2.2)] (.one (.one .any)) fun(u3:Value)=>K u3
theorem zlV (x0:Option Addr) {K:Value->WP} {w:World} (h:S173 x0 K w):Calls prog 173 #[(.pointer x0)] w (Ret K):=cF an173 false Tryz.func173 h
def an174:Ann:=(AN (AN (AR (AN (AQ AO AP)) (AN (AN (AR (AN (AQ AO AP)) (AN (AR (AN (AQ AO AP)) (AN (AR (AN (AN (AQ AO AP))) AO))))))))))
def S174 (x0:ByteArray) (K:Value->WP):WP:=
 zh (.cells #[(.int .u8 (0:Int)),(.int .u64 (0:Int)),(.string ByteArray.empty)] 127) fun(r1:Nat)=>
 ze prog 121 [(.int .i64 ((x0.size:Nat):Int))] (.one (.one (.int .i64))) fun(u2:Int)=>
 za (u2==(0:Int)) (zk [(.int .u8),(.int .u64),.str] (aD r1) fun(u3:(Int×Int×ByteArray×Unit))=>
 zc ((#[(.int .u8 u3.1),(.int .u64 u3.2.1),(.string u3.2.2.1)]:Array Value).size=3)<|
 zt (aD r1) [(.int .u8 u3.1),(.int .u64 u3.2.1),(.string u3.2.2.1)]<|
 zk [(.int .u8),(.int .u64),.str] (aD r1) fun(u4:(Int×Int×ByteArray×Unit))=>K (.tuple #[(.agg #[(.int .u8 u4.1),(.int .u64 u4.2.1),(.string u4.2.2.1)]),(.int .i64 (2:Int))]))<|
 zw prog (Go.convert 9 85 (.string x0)) .slc fun(u5:SLC)=>
 zA<|
 zc (0<=(wrap .i64 (((u5.2.1:Nat):Int)-(4:Int)))/\(wrap .i64 (((u5.2.1:Nat):Int)-(4:Int)))<=((u5.2.2:Nat):Int))<|
 zc (0<=(wrap .i64 (((u5.2.1:Nat):Int)-(4:Int)))/\(wrap .i64 (((u5.2.1:Nat):Int)-(4:Int)))<=((u5.2.1:Nat):Int))<|
 ze prog 165 [(.slice (zm u5.1 0 u5.2.2 1) (Int.toNat (wrap .i64 (((u5.2.1:Nat):Int)-(4:Int)))) u5.2.2)] (.one (.one (.int .u32))) fun(u6:Int)=>
 ze prog 107 [(.slice (zm u5.1 (Int.toNat (wrap .i64 (((u5.2.1:Nat):Int)-(4:Int)))) u5.2.2 1) (u5.2.1-(Int.toNat (wrap .i64 (((u5.2.1:Nat):Int)-(4:Int))))) (u5.2.2-(Int.toNat (wrap .i64 (((u5.2.1:Nat):Int)-(4:Int))))))] (.one (.one (.int .u64))) fun(u7:Int)=>
 za ((wrap .u64 u6) !=u7) (zk [(.int .u8),(.int .u64),.str] (aD r1) fun(u8:(Int×Int×ByteArray×Unit))=>
 zc ((#[(.int .u8 u8.1),(.int .u64 u8.2.1),(.string u8.2.2.1)]:Array Value).size=3)<|
 zt (aD r1) [(.int .u8 u8.1),(.int .u64 u8.2.1),(.string u8.2.2.1)]<|
 zk [(.int .u8),(.int .u64),.str] (aD r1) fun(u9:(Int×Int×ByteArray×Unit))=>K (.tuple #[(.agg #[(.int .u8 u9.1),(.int .u64 u9.2.1),(.string u9.2.2.1)]),(.int .i64 (10:Int))]))<|
 zc (0<=(2:Int)/\(2:Int)<=(4:Int)/\(4:Int)<=((u5.2.2:Nat):Int))<|
 ze prog 107 [(.slice (zm u5.1 (Int.toNat (2:Int)) u5.2.2 1) ((Int.toNat (4:Int))-(Int.toNat (2:Int))) (u5.2.2-(Int.toNat (2:Int))))] (.one (.one (.int .u64))) fun(u10:Int)=>
 za (decide ((wrap .i64 u10)>u2)) (zk [(.int .u8),(.int .u64),.str] (aD r1) fun(u11:(Int×Int×ByteArray×Unit))=>
 zc ((#[(.int .u8 u11.1),(.int .u64 u11.2.1),(.string u11.2.2.1)]:Array Value).size=3)<|
 zt (aD r1) [(.int .u8 u11.1),(.int .u64 u11.2.1),(.string u11.2.2.1)]<|
 zk [(.int .u8),(.int .u64),.str] (aD r1) fun(u12:(Int×Int×ByteArray×Unit))=>K (.tuple #[(.agg #[(.int .u8 u12.1),(.int .u64 u12.2.1),(.string u12.2.2.1)]),(.int .i64 (4:Int))]))<|
 zA<|
 zc (0<=(0:Int)/\(0:Int)<((u5.2.1:Nat):Int))<|
 zi u5.1 fun(p13:Addr)=>
 ldW (.int .u8) (p13.add (Int.toNat (0:Int)*1)) fun(u14:Int)=>
 zc (0<=(4:Int)/\(4:Int)<=(12:Int)/\(12:Int)<=((u5.2.2:Nat):Int))<|
 zc (0<=(12:Int)/\(12:Int)<=(wrap .i64 ((12:Int)+(wrap .i64 u10)))/\(wrap .i64 ((12:Int)+(wrap .i64 u10)))<=((x0.size:Nat):Int))<|
 ze prog 107 [(.slice (zm u5.1 (Int.toNat (4:Int)) u5.2.2 1) ((Int.toNat (12:Int))-(Int.toNat (4:Int))) (u5.2.2-(Int.toNat (4:Int))))] (.one (.one (.int .u64))) fun(u15:Int)=>
 zq [[((p13.add (Int.toNat (0:Int)*1)),(.int .u8 u14))]]<|
 zc ((#[(.int .u8 u14),(.int .u64 u15),(.string (ByteArray.extract x0 (Int.toNat (12:Int)) (Int.toNat (wrap .i64 ((12:Int)+(wrap .i64 u10))))))]:Array Value).size=3)<|
 zt (aD r1) [(.int .u8 u14),(.int .u64 u15),(.string (ByteArray.extract x0 (Int.toNat (12:Int)) (Int.toNat (wrap .i64 ((12:Int)+(wrap .i64 u10))))))]<|
 zk [(.int .u8),(.int .u64),.str] (aD r1) fun(u16:(Int×Int×ByteArray×Unit))=>
 ze prog 123 [(.int .i64 ((x0.size:Nat):Int)),(.agg #[(.int .u8 u16.1),(.int .u64 u16.2.1),(.string u16.2.2.1)])] (.many [(.one .str),(.one (.int .i64))]) fun(u17:ByteArray×Int×Unit)=>
 za (u17.2.1 !=(0:Int)) (zc ((#[(.int .u8 (0:Int)),(.int .u64 (0:Int)),(.string ByteArray.empty)]:Array Value).size=3)<|
 zt (aD r1) [(.int .u8 (0:Int)),(.int .u64 (0:Int)),(.string ByteArray.empty)]<|
 zk [(.int .u8),(.int .u64),.str] (aD r1) fun(u18:(Int×Int×ByteArray×Unit))=>K (.tuple #[(.agg #[(.int .u8 u18.1),(.int .u64 u18.2.1),(.string u18.2.2.1)]),(.int .i64 (4:Int))]))<|
 za (!(u17.1.toList==x0.toList)) (zc ((#[(.int .u8 (0:Int)),(.int .u64 (0:Int)),(.string ByteArray.empty)]:Array Value).size=3)<|
 zt (aD r1) [(.int .u8 (0:Int)),(.int .u64 (0:Int)),(.string ByteArray.empty)]<|
 zk [(.int .u8),(.int .u64),.str] (aD r1) fun(u19:(Int×Int×ByteArray×Unit))=>K (.tuple #[(.agg #[(.int .u8 u19.1),(.int .u64 u19.2.1),(.string u19.2.2.1)]),(.int .i64 (4:Int))]))<|
 zk [(.int .u8),(.int .u64),.str] (aD r1) fun(u20:(Int×Int×ByteArray×Unit))=>
 zc ((#[(.int .u8 u20.1),(.int .u64 u20.2.1),(.string u20.2.2.1)]:Array Value).size=3)<|
 zt (aD r1) [(.int .u8 u20.1),(.int .u64 u20.2.1),(.string u20.2.2.1)]<|
 zk [(.int .u8),(.int .u64),.str] (aD r1) fun(u21:(Int×Int×ByteArray×Unit))=>K (.tuple #[(.agg #[(.int .u8 u21.1),(.int .u64 u21.2.1),(.string u21.2.2.1)]),(.int .i64 (0:Int))])
theorem zlW (x0:ByteArray) {K:Value->WP} {w:World} (h:S174 x0 K w):Calls prog 174 #[(.string x0)] w (Ret K):=cF an174 false Tryz.func174 h
def an175:Ann:=(AN AO)
def S175 (a0:Option Addr) (n0 c0:Nat) (K:Value->WP):WP:=
 ze prog 209 [(.slice a0 n0 c0)] (.one (.one .slc)) fun(u1:SLC)=>
 zh (.cells #[(.slice u1.1 u1.2.1 u1.2.2)] 298) fun(r2:Nat)=>K (.pointer (some (aD r2)))
theorem zlX (a0:Option Addr) (n0 c0:Nat) {K:Value->WP} {w:World} (h:S175 a0 n0 c0 K w):Calls prog 175 #[(.slice a0 n0 c0)] w (Ret K):=cF an175 false Tryz.func175 h
def an176:Ann:=(AN (AR (.block (AN (AQ AO (AN (AQ AO AP))))) (AN AO)))
def S176 (x0:Option Addr) (x1:Int) (K:Value->WP):WP:=
 za (Option.isNone x0) (K (.tuple #[(.int .u64 (0:Int)),(.int .i64 (1:Int))]))<|
 za (decide (x1<(1:Int))) (K (.tuple #[(.int .u64 (0:Int)),(.int .i64 (2:Int))]))<|
 za (decide (x1>(8:Int))) (K (.tuple #[(.int .u64 (0:Int)),(.int .i64 (2:Int))]))<|
 ze prog 210 [(.pointer x0),(.int .i64 x1)] (.many [(.one .slc),(.one (.int .i64))]) fun(u1:SLC×Int×Unit)=>
 ze prog 107 [(.slice u1.1.1 u1.1.2.1 u1.1.2.2)] (.one (.one (.int .u64))) fun(u2:Int)=>K (.tuple #[(.int .u64 u2),(.int .i64 u1.2.1)])
theorem zlY (x0:Option Addr) (x1:Int) {K:Value->WP} {w:World} (h:S176 x0 x1 K w):Calls prog 176 #[(.pointer x0),(.int .i64 x1)] w (Ret K):=cF an176 false Tryz.func176 h
def an177:Ann:=(AN (AR (.block (AN (AQ AO (AN (AQ AO AP))))) (AN AO)))
def S177 (x0:Option Addr) (x1:Int) (K:Value->WP):WP:=
 za (Option.isNone x0) (K (.tuple #[(.slice none 0 0),(.int .i64 (1:Int))]))<|
 za (decide (x1<(0:Int))) (K (.tuple #[(.slice none 0 0),(.int .i64 (2:Int))]))<|
 ze prog 210 [(.pointer x0),(.int .i64 x1)] (.many [(.one .slc),(.one (.int .i64))]) fun(u1:SLC×Int×Unit)=>
 ze prog 209 [(.slice u1.1.1 u1.1.2.1 u1.1.2.2)] (.one (.one .slc)) fun(u2:SLC)=>K (.tuple #[(.slice u2.1 u2.2.1 u2.2.2),(.int .i64 u1.2.1)])
theorem zlZ (x0:Option Addr) (x1:Int) {K:Value->WP} {w:World} (h:S177 x0 x1 K w):Calls prog 177 #[(.pointer x0),(.int .i64 x1)] w (Ret K):=cF an177 false Tryz.func177 h
def an178:Ann:=(AN (AR (AN (AQ AO AP)) AO))
def S178 (x0:Option Addr) (K:Value->WP):WP:=
 za (Option.isNone x0) (K (.int .i64 (0:Int)))<|
 zi x0 fun(p1:Addr)=>
 ldW .slc p1 fun(u2:SLC)=>K (.int .i64 ((u2.2.1:Nat):Int))
theorem zl0 (x0:Option Addr) {K:Value->WP} {w:World} (h:S178 x0 K w):Calls prog 178 #[(.pointer x0)] w (Ret K):=cF an178 false Tryz.func178 h
def an181:Ann:=(AN (AR (AN (AQ AP AP)) AO))
def S181 (a0:Option Addr) (n0 c0:Nat) (x1:Int) (K:Value->WP):WP:=
 zh (.cells #[(.slice a0 n0 c0)] 191) fun(r1:Nat)=>
 zh (.cells #[(.int .i64 x1)] 3) fun(r2:Nat)=>
 ldW (.int .i64) (aD r2) fun(u3:Int)=>
 za (decide (u3<(1:Int))) (zl)<|K (.func (.func 211) #[] #[(.pointer (some (aD r1))),(.pointer (some (aD r2)))])
theorem zl1 (a0:Option Addr) (n0 c0:Nat) (x1:Int) {K:Value->WP} {w:World} (h:S181 a0 n0 c0 x1 K w):Calls prog 181 #[(.slice a0 n0 c0),(.int .i64 x1)] w (Ret K):=cF an181 false Tryz.func181 h
def an195:Ann:=(AN (AR (AN (.block (.loop [(8,.sh (.one (.int .i64)))] [0,1,7,1000000] (AN (AR (AQ AP AP) (AR (.block (AN (AN (AQ AO AP)))) AP)))))) AO))
def S195 (a0:Option Addr) (n0 c0:Nat) (x1:Value) (K:Value->WP):WP:=
 zH (Int×Unit) ((0:Int),()) fun(y2:Int×Unit) (I1:(Int×Unit)->WP)=>
 za (decide (y2.1<((n0:Nat):Int))) (zc (0<=y2.1/\y2.1<((n0:Nat):Int))<|
 zi a0 fun(p3:Addr)=>
 zk [.str,(.int .i64),.bool] (p3.add (Int.toNat y2.1*3)) fun(u4:(ByteArray×Int×Bool×Unit))=>
 yF prog x1 [(.agg #[(.string u4.1),(.int .i64 u4.2.1),(.bool u4.2.2.1)])] (.one (.one .bool)) fun(u5:Bool)=>
 za u5 (K (.int .i64 y2.1))<|I1 ((wrap .i64 (y2.1+(1:Int))),()))<|K (.int .i64 (-1:Int))
theorem zl2 (a0:Option Addr) (n0 c0:Nat) (x1:Value) {K:Value->WP} {w:World} (h:S195 a0 n0 c0 x1 K w):Calls prog 195 #[(.slice a0 n0 c0),x1] w (Ret K):=cF an195 false Tryz.func195 h
def an196:Ann:=(AN (.block (.loop [(3,.sh (.one (.int .i64)))] [0,1,1000000] (AR (AN (AQ AP AP)) (AR (.block (AN (AQ AP AP))) AP)))))
def S196 (x0:Value) (a1:Addr) (K:Value->WP):WP:=
 ldW .slc a1 fun(u1:SLC)=>
 zH (Int×Unit) ((wrap .i64 (((u1.2.1:Nat):Int)-(1:Int))),()) fun(y3:Int×Unit) (I2:(Int×Unit)->WP)=>
 za (decide (y3.1>=(0:Int))) (ldW .slc a1 fun(u4:SLC)=>
 zc (0<=y3.1/\y3.1<((u4.2.1:Nat):Int))<|
 zi u4.1 fun(p5:Addr)=>
 ldW (.int .u8) (p5.add (Int.toNat y3.1*1)) fun(u6:Int)=>
 yF prog x0 [(.int .i64 y3.1),(.int .u8 u6)] (.one (.one .bool)) fun(u7:Bool)=>
 za (!u7) (K (.tuple #[]))<|I2 ((wrap .i64 (y3.1-(1:Int))),()))<|K (.tuple #[])
theorem zl3 (x0:Value) (a1:Addr) {K:Value->WP} {w:World} (h:S196 x0 a1 K w):Calls prog 196 #[x0,(.pointer (some a1))] w (Ret K):=cF an196 false Tryz.func196 h
def an200:Ann:=(AN AO)
def S200 (x0:Array Value) (a1:Option Addr) (n1 c1:Nat) (K:Value->WP):WP:=
 zh (.cells x0 287) fun(r1:Nat)=>
 zdf 256 (aD r1) fun(u2:Array Value)=>
 ze prog 216 [(.agg u2),(.int .u32 (4294967295:Int)),(.slice a1 n1 c1)] (.one (.one (.int .u32))) fun(u3:Int)=>K (.int .u32 (inot .u32 u3))
theorem zl4 (x0:Array Value) (a1:Option Addr) (n1 c1:Nat) {K:Value->WP} {w:World} (h:S200 x0 a1 n1 c1 K w):Calls prog 200 #[(.agg x0),(.slice a1 n1 c1)] w (Ret K):=cF an200 false Tryz.func200 h
def an201:Ann:=(AN (AR (AN (.block (.loop [(3,.sh (.one (.int .i64)))] [0,1000000] (AN (AR (AQ AP AP) (AR (.block (AN (AN (AR (AN (.block (.loop [(2,.sh (.one (.int .u32))),(8,.sh (.one (.int .i64)))] [0,1,3,1000000] (AN (AR (AQ AP AP) (AR (.block AP) AP)))))) AP)))) AP)))))) AO))
def S201  (K:Value->WP):WP:=
 zh (.cells (zdN prog 287) 287) fun(r1:Nat)=>
 zH (Int×Unit) ((0:Int),()) fun(y3:Int×Unit) (I2:(Int×Unit)->WP)=>
 za (decide (y3.1<(256:Int))) (zH (Int×Int×Unit) ((wrap .u32 y3.1),(0:Int),()) fun(y5:Int×Int×Unit) (I4:(Int×Int×Unit)->WP)=>
 za (decide (y5.2.1<(8:Int))) (I4 ((ixor .u32 (ishr .u32 y5.1 (1:Int)) (wrap .u32 ((2197175160:Int)*(iand .u32 y5.1 (1:Int))))),(wrap .i64 (y5.2.1+(1:Int))),()))<|
 zc (0<=y3.1/\y3.1<((256:Nat):Int))<|
 stW ((aD r1).add (Int.toNat y3.1*1)) (.int .u32 y5.1)<|I2 ((wrap .i64 (y3.1+(1:Int))),()))<|
 zdf 256 (aD r1) fun(u6:Array Value)=>
 zc (u6.size=256)<|
 zt (aD r1) u6.toList<|
 zdf 256 (aD r1) fun(u7:Array Value)=>K (.agg u7)
theorem zl5  {K:Value->WP} {w:World} (h:S201  K w):Calls prog 201 #[] w (Ret K):=cF an201 false Tryz.func201 h
def an202:Ann:=(AN (AN (AN (AN (.join [(5,.sh (.one .bool)),(6,.sh (.one (.int .i64))),(1000000,.ds)] [2] (AN (.block (AN (AQ (AN (AR (AN (.block (.loop [(28,.sh (.one .slc))] [] (AN (.block AO))))) AP)) (AN (AQ AO (AN (AQ AP AP)))))))) (AR (AN (.block (.loop [(5,.sh (.one .bool)),(8,.sh (.one (.int .i64)))] [2,6,1000000] (AR (AN (AQ AP AP)) (AR (.block AP) AP))))) (AR (AN (AQ AO AP)) AO)))))))
def S202 (Aa:Int) (Ab:Option Addr) (Ac Ae:Nat) (Ag:ByteArray) (K:Value->WP):WP:=
 zh (.cells #[(.int .u8 Aa),(.slice Ab Ac Ae),(.string Ag)] 56) fun(r1:Nat)=>
 zh (.cells #[(.int .u8 (0:Int)),(.slice none 0 0),(.slice none 0 0),(.slice none 0 0)] 215) fun(r2:Nat)=>
 ldW .str ((aD r1).add 2) fun(u3:ByteArray)=>
 ze prog 217 [(.string u3)] (.many [(.one .slc),(.one .bool)]) fun(u4:SLC×Bool×Unit)=>
 ldW (.int .u8) (aD r1) fun(u5:Int)=>
 ldW .slc ((aD r1).add 1) fun(u6:SLC)=>
 zc ((#[(.int .u8 u5),(.slice u4.1.1 u4.1.2.1 u4.1.2.2),(.slice none 0 0),(.slice u6.1 u6.2.1 u6.2.2)]:Array Value).size=4)<|
 zt (aD r2) [(.int .u8 u5),(.slice u4.1.1 u4.1.2.1 u4.1.2.2),(.slice none 0 0),(.slice u6.1 u6.2.1 u6.2.2)]<|
 yC (Bool×Int×List Deferred×Unit) (fun(J7:(Bool×Int×List Deferred×Unit)->WP)=>
 ldW (.int .u8) (aD r1) fun(u9:Int)=>
 za (u9==(4:Int)) (stW ((aD r2).add 1) (.slice none 0 0)<|
 ze prog 218 [(.slice u4.1.1 u4.1.2.1 u4.1.2.2),(.int .i64 (2:Int))] (.one (.one .any)) fun(u10:Value)=>
 jm prog u10 (SLC×Unit) (fun(t11:SLC×Unit)=>[(.slice t11.1.1 t11.1.2.1 t11.1.2.2)]) (fun(t11:SLC×Unit) (B12:WP->WP) (N13:WP) (Q14:Code->WP)=>B12 (zA<|
 ldW .slc ((aD r2).add 1) fun(u17:SLC)=>
 zc (0<=(0:Int)/\(0:Int)<((t11.1.2.1:Nat):Int))<|
 zi t11.1.1 fun(p18:Addr)=>
 ldW (.int .u64) (p18.add (Int.toNat (0:Int)*1)) fun(u19:Int)=>
 zh (.cells #[(.int .u64 u19)] 42) fun(r20:Nat)=>
 zq [[(((aD r2).add 1),(.slice u17.1 u17.2.1 u17.2.2))]]<|
 zw prog (Builtin.append_ #[129,129] 129 #[(.slice u17.1 u17.2.1 u17.2.2),(.slice (some (aD r20)) 1 1)]) .slc fun(u21:SLC)=>
 stW ((aD r2).add 1) (.slice u21.1 u21.2.1 u21.2.2)<|
 zA<|
 ldW .slc ((aD r2).add 2) fun(u22:SLC)=>
 zc (0<=(wrap .i64 (((t11.1.2.1:Nat):Int)-(1:Int)))/\(wrap .i64 (((t11.1.2.1:Nat):Int)-(1:Int)))<((t11.1.2.1:Nat):Int))<|
 zi t11.1.1 fun(p23:Addr)=>
 ldW (.int .u64) (p23.add (Int.toNat (wrap .i64 (((t11.1.2.1:Nat):Int)-(1:Int)))*1)) fun(u24:Int)=>
 zh (.cells #[(.int .u64 u24)] 42) fun(r25:Nat)=>
 zq [[(((aD r2).add 2),(.slice u22.1 u22.2.1 u22.2.2))]]<|
 zw prog (Builtin.append_ #[129,129] 129 #[(.slice u22.1 u22.2.1 u22.2.2),(.slice (some (aD r25)) 1 1)]) .slc fun(u26:SLC)=>
 stW ((aD r2).add 2) (.slice u26.1 u26.2.1 u26.2.2)<|N13)) fun(r15:Nat) (p16:Option Code)=>
 qT (za u4.2.1 (za ((Int.tmod ((u4.1.2.1:Nat):Int) (2:Int))==(0:Int)) (ldW .slc ((aD r1).add 1) fun(u27:SLC)=>J7 ((((u27.2.1:Nat):Int)==(0:Int)),(1:Int),(⟨.collected r15,#[]⟩::[]),()))<|J7 (false,(1:Int),(⟨.collected r15,#[]⟩::[]),()))<|J7 (false,(1:Int),(⟨.collected r15,#[]⟩::[]),())) (zR prog (⟨.collected r15,#[]⟩::[])<|
 zk [(.int .u8),.slc,.slc,.slc] (aD r2) fun(u28:(Int×SLC×SLC×SLC×Unit))=>K (.tuple #[(.agg #[(.int .u8 u28.1),(.slice u28.2.1.1 u28.2.1.2.1 u28.2.1.2.2),(.slice u28.2.2.1.1 u28.2.2.1.2.1 u28.2.2.1.2.2),(.slice u28.2.2.2.1.1 u28.2.2.2.1.2.1 u28.2.2.2.1.2.2)]),(.int .i64 (0:Int))])) [] p16)<|
 za (u9==(3:Int)) (za u4.2.1 (ldW .slc ((aD r1).add 1) fun(u29:SLC)=>J7 ((((u4.1.2.1:Nat):Int)==((u29.2.1:Nat):Int)),(2:Int),[],()))<|J7 (false,(2:Int),[],()))<|
 za (u9==(5:Int)) (za u4.2.1 (ldW .slc ((aD r1).add 1) fun(u30:SLC)=>J7 ((((u4.1.2.1:Nat):Int)==((u30.2.1:Nat):Int)),(1:Int),[],()))<|J7 (false,(1:Int),[],()))<|J7 (false,(1:Int),[],())) fun(y8:Bool×Int×List Deferred×Unit)=>
 zH (Bool×Int×Unit) (y8.1,(1:Int),()) fun(y32:Bool×Int×Unit) (I31:(Bool×Int×Unit)->WP)=>
 ldW .slc ((aD r2).add 1) fun(u33:SLC)=>
 za (decide (y32.2.1<((u33.2.1:Nat):Int))) (zA<|
 za y32.1 (ldW .slc ((aD r2).add 1) fun(u34:SLC)=>
 zc (0<=(wrap .i64 (y32.2.1-(1:Int)))/\(wrap .i64 (y32.2.1-(1:Int)))<((u34.2.1:Nat):Int))<|
 zi u34.1 fun(p35:Addr)=>
 ldW (.int .u64) (p35.add (Int.toNat (wrap .i64 (y32.2.1-(1:Int)))*1)) fun(u36:Int)=>
 ldW .slc ((aD r2).add 1) fun(u37:SLC)=>
 zc (0<=y32.2.1/\y32.2.1<((u37.2.1:Nat):Int))<|
 zi u37.1 fun(p38:Addr)=>
 ldW (.int .u64) (p38.add (Int.toNat y32.2.1*1)) fun(u39:Int)=>I31 ((decide (u36<u39)),(wrap .i64 (y32.2.1+(1:Int))),()))<|I31 (false,(wrap .i64 (y32.2.1+(1:Int))),()))<|
 za (!y32.1) (zc ((#[(.int .u8 (0:Int)),(.slice none 0 0),(.slice none 0 0),(.slice none 0 0)]:Array Value).size=4)<|
 zt (aD r2) [(.int .u8 (0:Int)),(.slice none 0 0),(.slice none 0 0),(.slice none 0 0)]<|
 zR prog y8.2.2.1<|
 zk [(.int .u8),.slc,.slc,.slc] (aD r2) fun(u40:(Int×SLC×SLC×SLC×Unit))=>K (.tuple #[(.agg #[(.int .u8 u40.1),(.slice u40.2.1.1 u40.2.1.2.1 u40.2.1.2.2),(.slice u40.2.2.1.1 u40.2.2.1.2.1 u40.2.2.1.2.2),(.slice u40.2.2.2.1.1 u40.2.2.2.1.2.1 u40.2.2.2.1.2.2)]),(.int .i64 (10:Int))]))<|
 ldW .slc ((aD r2).add 1) fun(u41:SLC)=>
 za (decide (((u41.2.1:Nat):Int)<y8.2.1)) (zc ((#[(.int .u8 (0:Int)),(.slice none 0 0),(.slice none 0 0),(.slice none 0 0)]:Array Value).size=4)<|
 zt (aD r2) [(.int .u8 (0:Int)),(.slice none 0 0),(.slice none 0 0),(.slice none 0 0)]<|
 zR prog y8.2.2.1<|
 zk [(.int .u8),.slc,.slc,.slc] (aD r2) fun(u42:(Int×SLC×SLC×SLC×Unit))=>K (.tuple #[(.agg #[(.int .u8 u42.1),(.slice u42.2.1.1 u42.2.1.2.1 u42.2.1.2.2),(.slice u42.2.2.1.1 u42.2.2.1.2.1 u42.2.2.1.2.2),(.slice u42.2.2.2.1.1 u42.2.2.2.1.2.1 u42.2.2.2.1.2.2)]),(.int .i64 (10:Int))]))<|
 zk [(.int .u8),.slc,.slc,.slc] (aD r2) fun(u43:(Int×SLC×SLC×SLC×Unit))=>
 zc ((#[(.int .u8 u43.1),(.slice u43.2.1.1 u43.2.1.2.1 u43.2.1.2.2),(.slice u43.2.2.1.1 u43.2.2.1.2.1 u43.2.2.1.2.2),(.slice u43.2.2.2.1.1 u43.2.2.2.1.2.1 u43.2.2.2.1.2.2)]:Array Value).size=4)<|
 zt (aD r2) [(.int .u8 u43.1),(.slice u43.2.1.1 u43.2.1.2.1 u43.2.1.2.2),(.slice u43.2.2.1.1 u43.2.2.1.2.1 u43.2.2.1.2.2),(.slice u43.2.2.2.1.1 u43.2.2.2.1.2.1 u43.2.2.2.1.2.2)]<|
 zR prog y8.2.2.1<|
 zk [(.int .u8),.slc,.slc,.slc] (aD r2) fun(u44:(Int×SLC×SLC×SLC×Unit))=>K (.tuple #[(.agg #[(.int .u8 u44.1),(.slice u44.2.1.1 u44.2.1.2.1 u44.2.1.2.2),(.slice u44.2.2.1.1 u44.2.2.1.2.1 u44.2.2.1.2.2),(.slice u44.2.2.2.1.1 u44.2.2.2.1.2.1 u44.2.2.2.1.2.2)]),(.int .i64 (0:Int))])
theorem zl6 (Aa:Int) (Ab:Option Addr) (Ac Ae:Nat) (Ag:ByteArray) {K:Value->WP} {w:World} (h:S202 Aa Ab Ac Ae Ag K w):Calls prog 202 #[(.agg #[(.int .u8 Aa),(.slice Ab Ac Ae),(.string Ag)])] w (Ret K):=cF an202 true Tryz.func202 h
def an203:Ann:=(AN AO)
def S203 (Aa:Int) (Ab:Option Addr) (Ac Ae:Nat) (Ah:Option Addr) (Ai Aj:Nat) (Ak:Option Addr) (Al Am:Nat) (K:Value->WP):WP:=
 zh (.cells #[(.int .u8 Aa),(.slice Ab Ac Ae),(.slice Ah Ai Aj),(.slice Ak Al Am)] 215) fun(r1:Nat)=>
 ldW (.int .u8) (aD r1) fun(u2:Int)=>K (.bool (u2 !=(4:Int)))
theorem zl7 (Aa:Int) (Ab:Option Addr) (Ac Ae:Nat) (Ah:Option Addr) (Ai Aj:Nat) (Ak:Option Addr) (Al Am:Nat) {K:Value->WP} {w:World} (h:S203 Aa Ab Ac Ae Ah Ai Aj Ak Al Am K w):Calls prog 203 #[(.agg #[(.int .u8 Aa),(.slice Ab Ac Ae),(.slice Ah Ai Aj),(.slice Ak Al Am)])] w (Ret K):=cF an203 false Tryz.func203 h
def an205:Ann:=(AN (AR (AN (AQ AO AP)) AO))
def S205 (x0:Option Addr) (x1:Int) (K:Value->WP):WP:=
 za (x1==(4:Int)) (ze prog 76 [(.pointer x0),(.int .i64 (0:Int))] (.one (.one (.int .i64))) fun(u1:Int)=>K (.int .i64 (wrap .i64 (Int.tdiv u1 (16:Int)))))<|
 ze prog 76 [(.pointer x0),(.int .i64 (0:Int))] (.one (.one (.int .i64))) fun(u2:Int)=>K (.int .i64 (wrap .i64 (Int.tdiv u2 (12:Int))))
theorem zl8 (x0:Option Addr) (x1:Int) {K:Value->WP} {w:World} (h:S205 x0 x1 K w):Calls prog 205 #[(.pointer x0),(.int .u8 x1)] w (Ret K):=cF an205 false Tryz.func205 h
def an206:Ann:=(AN (AN (AR (AN (AQ AP AP)) AO)))
def S206 (Aa:Int) (Ab:Option Addr) (Ac Ae:Nat) (Ah:Option Addr) (Ai Aj:Nat) (Ak:Option Addr) (Al Am:Nat) (x1:Int) (x2:Int) (K:Value->WP):WP:=
 zh (.cells #[(.int .u8 Aa),(.slice Ab Ac Ae),(.slice Ah Ai Aj),(.slice Ak Al Am)] 215) fun(r1:Nat)=>
 zh (.cells #[(.int .u8 (0:Int)),(.slice none 0 0),(.slice none 0 0),(.slice none 0 0)] 215) fun(r2:Nat)=>
 zA<|
 ldW (.int .u8) (aD r1) fun(u3:Int)=>
 ldW .slc ((aD r1).add 1) fun(u4:SLC)=>
 zc (0<=x1/\x1<=x2/\x2<=((u4.2.2:Nat):Int))<|
 zh (.cells #[(.int .u8 (0:Int)),(.slice none 0 0),(.slice none 0 0),(.slice none 0 0)] 215) fun(r5:Nat)=>
 zq [[(((aD r1).add 1),(.slice u4.1 u4.2.1 u4.2.2))],[((aD r1),(.int .u8 u3))]]<|
 zc ((#[(.int .u8 u3),(.slice (zm u4.1 (Int.toNat x1) u4.2.2 1) ((Int.toNat x2)-(Int.toNat x1)) (u4.2.2-(Int.toNat x1))),(.slice none 0 0),(.slice none 0 0)]:Array Value).size=4)<|
 zt (aD r5) [(.int .u8 u3),(.slice (zm u4.1 (Int.toNat x1) u4.2.2 1) ((Int.toNat x2)-(Int.toNat x1)) (u4.2.2-(Int.toNat x1))),(.slice none 0 0),(.slice none 0 0)]<|
 zk [(.int .u8),.slc,.slc,.slc] (aD r1) fun(u6:(Int×SLC×SLC×SLC×Unit))=>
 ze prog 203 [(.agg #[(.int .u8 u6.1),(.slice u6.2.1.1 u6.2.1.2.1 u6.2.1.2.2),(.slice u6.2.2.1.1 u6.2.2.1.2.1 u6.2.2.1.2.2),(.slice u6.2.2.2.1.1 u6.2.2.2.1.2.1 u6.2.2.2.1.2.2)])] (.one (.one .bool)) fun(u7:Bool)=>
 za u7 (ldW .slc ((aD r1).add 3) fun(u8:SLC)=>
 zc (0<=x1/\x1<=x2/\x2<=((u8.2.2:Nat):Int))<|
 stW ((aD r5).add 3) (.slice (zm u8.1 (Int.toNat x1) u8.2.2 1) ((Int.toNat x2)-(Int.toNat x1)) (u8.2.2-(Int.toNat x1)))<|
 zk [(.int .u8),.slc,.slc,.slc] (aD r5) fun(u9:(Int×SLC×SLC×SLC×Unit))=>
 zc ((#[(.int .u8 u9.1),(.slice u9.2.1.1 u9.2.1.2.1 u9.2.1.2.2),(.slice u9.2.2.1.1 u9.2.2.1.2.1 u9.2.2.1.2.2),(.slice u9.2.2.2.1.1 u9.2.2.2.1.2.1 u9.2.2.2.1.2.2)]:Array Value).size=4)<|
 zt (aD r2) [(.int .u8 u9.1),(.slice u9.2.1.1 u9.2.1.2.1 u9.2.1.2.2),(.slice u9.2.2.1.1 u9.2.2.1.2.1 u9.2.2.1.2.2),(.slice u9.2.2.2.1.1 u9.2.2.2.1.2.1 u9.2.2.2.1.2.2)]<|
 zk [(.int .u8),.slc,.slc,.slc] (aD r2) fun(u10:(Int×SLC×SLC×SLC×Unit))=>K (.agg #[(.int .u8 u10.1),(.slice u10.2.1.1 u10.2.1.2.1 u10.2.1.2.2),(.slice u10.2.2.1.1 u10.2.2.1.2.1 u10.2.2.1.2.2),(.slice u10.2.2.2.1.1 u10.2.2.2.1.2.1 u10.2.2.2.1.2.2)]))<|
 ldW .slc ((aD r1).add 2) fun(u11:SLC)=>
 zc (0<=x1/\x1<=x2/\x2<=((u11.2.2:Nat):Int))<|
 stW ((aD r5).add 2) (.slice (zm u11.1 (Int.toNat x1) u11.2.2 1) ((Int.toNat x2)-(Int.toNat x1)) (u11.2.2-(Int.toNat x1)))<|
 zk [(.int .u8),.slc,.slc,.slc] (aD r5) fun(u12:(Int×SLC×SLC×SLC×Unit))=>
 zc ((#[(.int .u8 u12.1),(.slice u12.2.1.1 u12.2.1.2.1 u12.2.1.2.2),(.slice u12.2.2.1.1 u12.2.2.1.2.1 u12.2.2.1.2.2),(.slice u12.2.2.2.1.1 u12.2.2.2.1.2.1 u12.2.2.2.1.2.2)]:Array Value).size=4)<|
 zt (aD r2) [(.int .u8 u12.1),(.slice u12.2.1.1 u12.2.1.2.1 u12.2.1.2.2),(.slice u12.2.2.1.1 u12.2.2.1.2.1 u12.2.2.1.2.2),(.slice u12.2.2.2.1.1 u12.2.2.2.1.2.1 u12.2.2.2.1.2.2)]<|
 zk [(.int .u8),.slc,.slc,.slc] (aD r2) fun(u13:(Int×SLC×SLC×SLC×Unit))=>K (.agg #[(.int .u8 u13.1),(.slice u13.2.1.1 u13.2.1.2.1 u13.2.1.2.2),(.slice u13.2.2.1.1 u13.2.2.1.2.1 u13.2.2.1.2.2),(.slice u13.2.2.2.1.1 u13.2.2.2.1.2.1 u13.2.2.2.1.2.2)])
theorem zl9 (Aa:Int) (Ab:Option Addr) (Ac Ae:Nat) (Ah:Option Addr) (Ai Aj:Nat) (Ak:Option Addr) (Al Am:Nat) (x1:Int) (x2:Int) {K:Value->WP} {w:World} (h:S206 Aa Ab Ac Ae Ah Ai Aj Ak Al Am x1 x2 K w):Calls prog 206 #[(.agg #[(.int .u8 Aa),(.slice Ab Ac Ae),(.slice Ah Ai Aj),(.slice Ak Al Am)]),(.int .i64 x1),(.int .i64 x2)] w (Ret K):=cF an206 false Tryz.func206 h
def an207:Ann:=(AN (AN (AR (AN (.block (.loop [(6,.sh (.one .slc)),(12,.sh (.one (.int .i64)))] [1,2,10,11,1000000] (AN (AR (AQ AP AP) (AR (.block (AN (AN (AN (AQ AP AP))))) AP)))))) AO)))
def S207 (Aa:Int) (Ab:Option Addr) (Ac Ae:Nat) (Ah:Option Addr) (Ai Aj:Nat) (Ak:Option Addr) (Al Am:Nat) (x1:Option Addr) (K:Value->WP):WP:=
 zh (.cells #[(.int .u8 Aa),(.slice Ab Ac Ae),(.slice Ah Ai Aj),(.slice Ak Al Am)] 215) fun(r1:Nat)=>
 ldW .slc ((aD r1).add 1) fun(u2:SLC)=>
 zH (SLC×Int×Unit) ((none,0,0),(0:Int),()) fun(y4:SLC×Int×Unit) (I3:(SLC×Int×Unit)->WP)=>
 za (decide (y4.2.1<((u2.2.1:Nat):Int))) (zc (0<=y4.2.1/\y4.2.1<((u2.2.1:Nat):Int))<|
 zi u2.1 fun(p5:Addr)=>
 ldW (.int .u64) (p5.add (Int.toNat y4.2.1*1)) fun(u6:Int)=>
 ze prog 42 [(.slice y4.1.1 y4.1.2.1 y4.1.2.2),(.int .u64 u6),(.int .i64 (8:Int))] (.one (.one .slc)) fun(u7:SLC)=>
 zk [(.int .u8),.slc,.slc,.slc] (aD r1) fun(u8:(Int×SLC×SLC×SLC×Unit))=>
 ze prog 203 [(.agg #[(.int .u8 u8.1),(.slice u8.2.1.1 u8.2.1.2.1 u8.2.1.2.2),(.slice u8.2.2.1.1 u8.2.2.1.2.1 u8.2.2.1.2.2),(.slice u8.2.2.2.1.1 u8.2.2.2.1.2.1 u8.2.2.2.1.2.2)])] (.one (.one .bool)) fun(u9:Bool)=>
 za (!u9) (ldW .slc ((aD r1).add 2) fun(u10:SLC)=>
 zc (0<=y4.2.1/\y4.2.1<((u10.2.1:Nat):Int))<|
 zi u10.1 fun(p11:Addr)=>
 ldW (.int .u64) (p11.add (Int.toNat y4.2.1*1)) fun(u12:Int)=>
 ze prog 42 [(.slice u7.1 u7.2.1 u7.2.2),(.int .u64 u12),(.int .i64 (8:Int))] (.one (.one .slc)) fun(u13:SLC)=>I3 ((u13.1,u13.2.1,u13.2.2),(wrap .i64 (y4.2.1+(1:Int))),()))<|I3 ((u7.1,u7.2.1,u7.2.2),(wrap .i64 (y4.2.1+(1:Int))),()))<|
 ldW (.int .u8) (aD r1) fun(u14:Int)=>
 ldW .slc ((aD r1).add 3) fun(u15:SLC)=>
 zw prog (Go.convert 85 9 (.slice y4.1.1 y4.1.2.1 y4.1.2.2)) .str fun(u16:ByteArray)=>
 ze prog 24 [(.pointer x1),(.agg #[(.int .u8 u14),(.slice u15.1 u15.2.1 u15.2.2),(.string u16)])] (.many [(.one (.int .u32)),(.one (.int .i64))]) fun(u17:Int×Int×Unit)=>K (.tuple #[(.int .u32 u17.1),(.int .i64 u17.2.1)])
theorem zma (Aa:Int) (Ab:Option Addr) (Ac Ae:Nat) (Ah:Option Addr) (Ai Aj:Nat) (Ak:Option Addr) (Al Am:Nat) (x1:Option Addr) {K:Value->WP} {w:World} (h:S207 Aa Ab Ac Ae Ah Ai Aj Ak Al Am x1 K w):Calls prog 207 #[(.agg #[(.int .u8 Aa),(.slice Ab Ac Ae),(.slice Ah Ai Aj),(.slice Ak Al Am)]),(.pointer x1)] w (Ret K):=cF an207 false Tryz.func207 h
def an208:Ann:=(AN AO)
def S208 (a0:Option Addr) (n0 c0:Nat) (K:Value->WP):WP:=
 zh (.cells #[(.slice a0 n0 c0)] 159) fun(r1:Nat)=>K (.func (.func 219) #[] #[(.pointer (some (aD r1)))])
theorem zmb (a0:Option Addr) (n0 c0:Nat) {K:Value->WP} {w:World} (h:S208 a0 n0 c0 K w):Calls prog 208 #[(.slice a0 n0 c0)] w (Ret K):=cF an208 false Tryz.func208 h
def an209:Ann:=(AN (AR (AN (AQ AO AP)) AO))
def S209 (a0:Option Addr) (n0 c0:Nat) (K:Value->WP):WP:=
 za (Option.isNone a0) (K (.slice none 0 0))<|
 zh (.cells #[] 5) fun(r1:Nat)=>
 zw prog (Builtin.append_ #[85,85] 85 #[(.slice (some (aD r1)) 0 0),(.slice a0 n0 c0)]) .slc fun(u2:SLC)=>K (.slice u2.1 u2.2.1 u2.2.2)
theorem zmc (a0:Option Addr) (n0 c0:Nat) {K:Value->WP} {w:World} (h:S209 a0 n0 c0 K w):Calls prog 209 #[(.slice a0 n0 c0)] w (Ret K):=cF an209 false Tryz.func209 h
def an210:Ann:=(AN (AR (AN (AQ AO AP)) (AN (AN AO))))
def S210 (x0:Option Addr) (x1:Int) (K:Value->WP):WP:=
 zi x0 fun(p1:Addr)=>
 ldW .slc p1 fun(u2:SLC)=>
 za (decide (((u2.2.1:Nat):Int)<x1)) (K (.tuple #[(.slice none 0 0),(.int .i64 (7:Int))]))<|
 zi x0 fun(p3:Addr)=>
 ldW .slc p3 fun(u4:SLC)=>
 zc (0<=x1/\x1<=x1/\x1<=((u4.2.2:Nat):Int))<|
 zi x0 fun(p5:Addr)=>
 ldW .slc p5 fun(u6:SLC)=>
 zc (0<=x1/\x1<=((u6.2.1:Nat):Int))<|
 zi x0 fun(p7:Addr)=>
 stW p7 (.slice (zm u6.1 (Int.toNat x1) u6.2.2 1) (u6.2.1-(Int.toNat x1)) (u6.2.2-(Int.toNat x1)))<|K (.tuple #[(.slice (zm u4.1 0 (Int.toNat x1) 1) (Int.toNat x1) (Int.toNat x1)),(.int .i64 (0:Int))])
theorem zmd (x0:Option Addr) (x1:Int) {K:Value->WP} {w:World} (h:S210 x0 x1 K w):Calls prog 210 #[(.pointer x0),(.int .i64 x1)] w (Ret K):=cF an210 false Tryz.func210 h
def an211:Ann:=(AN (.block (.loop [(4,.sh (.one (.int .i64)))] [0,1,2,1000000] (AR (AN (AQ AP AP)) (AR (.block (AN (AN (AQ AP AP)))) AP)))))
def S211 (x0:Value) (a1:Addr) (a2:Addr) (K:Value->WP):WP:=
 zH (Int×Unit) ((0:Int),()) fun(y2:Int×Unit) (I1:(Int×Unit)->WP)=>
 ldW .slc a1 fun(u3:SLC)=>
 za (decide (y2.1<((u3.2.1:Nat):Int))) (zA<|
 ldW (.int .i64) a2 fun(u4:Int)=>
 ldW .slc a1 fun(u5:SLC)=>
 zc (0<=y2.1/\y2.1<=((u5.2.1:Nat):Int))<|
 ldW .slc a1 fun(u6:SLC)=>
 zc (0<=y2.1/\y2.1<=(wrap .i64 (y2.1+(if (((u5.2.1-(Int.toNat y2.1)):Nat):Int)<u4 then (((u5.2.1-(Int.toNat y2.1)):Nat):Int) else u4)))/\(wrap .i64 (y2.1+(if (((u5.2.1-(Int.toNat y2.1)):Nat):Int)<u4 then (((u5.2.1-(Int.toNat y2.1)):Nat):Int) else u4)))<=(wrap .i64 (y2.1+(if (((u5.2.1-(Int.toNat y2.1)):Nat):Int)<u4 then (((u5.2.1-(Int.toNat y2.1)):Nat):Int) else u4)))/\(wrap .i64 (y2.1+(if (((u5.2.1-(Int.toNat y2.1)):Nat):Int)<u4 then (((u5.2.1-(Int.toNat y2.1)):Nat):Int) else u4)))<=((u6.2.2:Nat):Int))<|
 yF prog x0 [(.slice (zm u6.1 (Int.toNat y2.1) (Int.toNat (wrap .i64 (y2.1+(if (((u5.2.1-(Int.toNat y2.1)):Nat):Int)<u4 then (((u5.2.1-(Int.toNat y2.1)):Nat):Int) else u4)))) 1) ((Int.toNat (wrap .i64 (y2.1+(if (((u5.2.1-(Int.toNat y2.1)):Nat):Int)<u4 then (((u5.2.1-(Int.toNat y2.1)):Nat):Int) else u4))))-(Int.toNat y2.1)) ((Int.toNat (wrap .i64 (y2.1+(if (((u5.2.1-(Int.toNat y2.1)):Nat):Int)<u4 then (((u5.2.1-(Int.toNat y2.1)):Nat):Int) else u4))))-(Int.toNat y2.1)))] (.one (.one .bool)) fun(u7:Bool)=>
 za (!u7) (K (.tuple #[]))<|
 ldW (.int .i64) a2 fun(u8:Int)=>I1 ((wrap .i64 (y2.1+u8)),()))<|K (.tuple #[])
theorem zme (x0:Value) (a1:Addr) (a2:Addr) {K:Value->WP} {w:World} (h:S211 x0 a1 a2 K w):Calls prog 211 #[x0,(.pointer (some a1)),(.pointer (some a2))] w (Ret K):=cF an211 false Tryz.func211 h
def an216:Ann:=(AN (AR (AN (.block (.loop [(1,.sh (.one (.int .u32))),(11,.sh (.one (.int .i64)))] [3,9,10,1000000] (AN (AR (AQ AP AP) (AR (.block AO) AP)))))) AO))
def S216 (x0:Array Value) (x1:Int) (a2:Option Addr) (n2 c2:Nat) (K:Value->WP):WP:=
 zh (.cells x0 287) fun(r1:Nat)=>
 zH (Int×Int×Unit) (x1,(0:Int),()) fun(y3:Int×Int×Unit) (I2:(Int×Int×Unit)->WP)=>
 za (decide (y3.2.1<((n2:Nat):Int))) (zc (0<=y3.2.1/\y3.2.1<((n2:Nat):Int))<|
 zi a2 fun(p4:Addr)=>
 ldW (.int .u8) (p4.add (Int.toNat y3.2.1*1)) fun(u5:Int)=>
 zc (0<=(ixor .u8 (wrap .u8 y3.1) u5)/\(ixor .u8 (wrap .u8 y3.1) u5)<((256:Nat):Int))<|
 ldW (.int .u32) ((aD r1).add (Int.toNat (ixor .u8 (wrap .u8 y3.1) u5)*1)) fun(u6:Int)=>I2 ((ixor .u32 (ishr .u32 y3.1 (8:Int)) u6),(wrap .i64 (y3.2.1+(1:Int))),()))<|K (.int .u32 y3.1)
theorem zmf (x0:Array Value) (x1:Int) (a2:Option Addr) (n2 c2:Nat) {K:Value->WP} {w:World} (h:S216 x0 x1 a2 n2 c2 K w):Calls prog 216 #[(.agg x0),(.int .u32 x1),(.slice a2 n2 c2)] w (Ret K):=cF an216 false Tryz.func216 h
def an217:Ann:=(AN (AR (AN (.block (.loop [(8,.sh (.one .slc))] [] (AN (.block AP))))) AO))
def S217 (x0:ByteArray) (K:Value->WP):WP:=
 zh (.cells #[(.slice none 0 0)] 129) fun(r1:Nat)=>
 zw prog (Go.convert 9 85 (.string x0)) .slc fun(u2:SLC)=>
 ze prog 222 [(.slice u2.1 u2.2.1 u2.2.2),(.int .i64 (8:Int))] (.one (.one .any)) fun(u3:Value)=>
 jm prog u3 (SLC×Unit) (fun(t4:SLC×Unit)=>[(.slice t4.1.1 t4.1.2.1 t4.1.2.2)]) (fun(t4:SLC×Unit) (B5:WP->WP) (N6:WP) (Q7:Code->WP)=>B5 (zA<|
 ldW .slc (aD r1) fun(u10:SLC)=>
 ze prog 107 [(.slice t4.1.1 t4.1.2.1 t4.1.2.2)] (.one (.one (.int .u64))) fun(u11:Int)=>
 zq [[((aD r1),(.slice u10.1 u10.2.1 u10.2.2))]]<|
 zh (.cells #[(.int .u64 u11)] 42) fun(r12:Nat)=>
 zq [[((aD r1),(.slice u10.1 u10.2.1 u10.2.2))]]<|
 zw prog (Builtin.append_ #[129,129] 129 #[(.slice u10.1 u10.2.1 u10.2.2),(.slice (some (aD r12)) 1 1)]) .slc fun(u13:SLC)=>
 stW (aD r1) (.slice u13.1 u13.2.1 u13.2.2)<|N6)) fun(r8:Nat) (p9:Option Code)=>
 qT (ldW .slc (aD r1) fun(u14:SLC)=>
 stW (aD r1) (.slice u14.1 u14.2.1 u14.2.2)<|
 zR prog (⟨.collected r8,#[]⟩::[])<|
 ldW .slc (aD r1) fun(u15:SLC)=>K (.tuple #[(.slice u15.1 u15.2.1 u15.2.2),(.bool ((Int.tmod ((x0.size:Nat):Int) (8:Int))==(0:Int)))])) (zR prog (⟨.collected r8,#[]⟩::[])<|
 ldW .slc (aD r1) fun(u16:SLC)=>K (.tuple #[(.slice u16.1 u16.2.1 u16.2.2),(.bool false)])) [] p9
theorem zmg (x0:ByteArray) {K:Value->WP} {w:World} (h:S217 x0 K w):Calls prog 217 #[(.string x0)] w (Ret K):=cF an217 true Tryz.func217 h
def an218:Ann:=(AN (AR (AN (AQ AP AP)) AO))
def S218 (a0:Option Addr) (n0 c0:Nat) (x1:Int) (K:Value->WP):WP:=
 zh (.cells #[(.slice a0 n0 c0)] 129) fun(r1:Nat)=>
 zh (.cells #[(.int .i64 x1)] 3) fun(r2:Nat)=>
 ldW (.int .i64) (aD r2) fun(u3:Int)=>
 za (decide (u3<(1:Int))) (zl)<|K (.func (.func 223) #[] #[(.pointer (some (aD r1))),(.pointer (some (aD r2)))])
theorem zmh (a0:Option Addr) (n0 c0:Nat) (x1:Int) {K:Value->WP} {w:World} (h:S218 a0 n0 c0 x1 K w):Calls prog 218 #[(.slice a0 n0 c0),(.int .i64 x1)] w (Ret K):=cF an218 false Tryz.func218 h
def an219:Ann:=(AN (.block (.loop [(3,.sh (.one (.int .i64)))] [0,1,1000000] (AR (AN (AQ AP AP)) (AR (.block (AN (AQ AP AP))) AP)))))
def S219 (x0:Value) (a1:Addr) (K:Value->WP):WP:=
 ldW .slc a1 fun(u1:SLC)=>
 zH (Int×Unit) ((wrap .i64 (((u1.2.1:Nat):Int)-(1:Int))),()) fun(y3:Int×Unit) (I2:(Int×Unit)->WP)=>
 za (decide (y3.1>=(0:Int))) (ldW .slc a1 fun(u4:SLC)=>
 zc (0<=y3.1/\y3.1<((u4.2.1:Nat):Int))<|
 zi u4.1 fun(p5:Addr)=>
 zk [(.int .i64),.str] (p5.add (Int.toNat y3.1*2)) fun(u6:(Int×ByteArray×Unit))=>
 yF prog x0 [(.int .i64 y3.1),(.agg #[(.int .i64 u6.1),(.string u6.2.1)])] (.one (.one .bool)) fun(u7:Bool)=>
 za (!u7) (K (.tuple #[]))<|I2 ((wrap .i64 (y3.1-(1:Int))),()))<|K (.tuple #[])
theorem zmi (x0:Value) (a1:Addr) {K:Value->WP} {w:World} (h:S219 x0 a1 K w):Calls prog 219 #[x0,(.pointer (some a1))] w (Ret K):=cF an219 false Tryz.func219 h
def an222:Ann:=(AN (AR (AN (AQ AP AP)) AO))
def S222 (a0:Option Addr) (n0 c0:Nat) (x1:Int) (K:Value->WP):WP:=
 zh (.cells #[(.slice a0 n0 c0)] 85) fun(r1:Nat)=>
 zh (.cells #[(.int .i64 x1)] 3) fun(r2:Nat)=>
 ldW (.int .i64) (aD r2) fun(u3:Int)=>
 za (decide (u3<(1:Int))) (zl)<|K (.func (.func 224) #[] #[(.pointer (some (aD r1))),(.pointer (some (aD r2)))])
theorem zmj (a0:Option Addr) (n0 c0:Nat) (x1:Int) {K:Value->WP} {w:World} (h:S222 a0 n0 c0 x1 K w):Calls prog 222 #[(.slice a0 n0 c0),(.int .i64 x1)] w (Ret K):=cF an222 false Tryz.func222 h
def an223:Ann:=(AN (.block (.loop [(4,.sh (.one (.int .i64)))] [0,1,2,1000000] (AR (AN (AQ AP AP)) (AR (.block (AN (AN (AQ AP AP)))) AP)))))
def S223 (x0:Value) (a1:Addr) (a2:Addr) (K:Value->WP):WP:=
 zH (Int×Unit) ((0:Int),()) fun(y2:Int×Unit) (I1:(Int×Unit)->WP)=>
 ldW .slc a1 fun(u3:SLC)=>
 za (decide (y2.1<((u3.2.1:Nat):Int))) (zA<|
 ldW (.int .i64) a2 fun(u4:Int)=>
 ldW .slc a1 fun(u5:SLC)=>
 zc (0<=y2.1/\y2.1<=((u5.2.1:Nat):Int))<|
 ldW .slc a1 fun(u6:SLC)=>
 zc (0<=y2.1/\y2.1<=(wrap .i64 (y2.1+(if (((u5.2.1-(Int.toNat y2.1)):Nat):Int)<u4 then (((u5.2.1-(Int.toNat y2.1)):Nat):Int) else u4)))/\(wrap .i64 (y2.1+(if (((u5.2.1-(Int.toNat y2.1)):Nat):Int)<u4 then (((u5.2.1-(Int.toNat y2.1)):Nat):Int) else u4)))<=(wrap .i64 (y2.1+(if (((u5.2.1-(Int.toNat y2.1)):Nat):Int)<u4 then (((u5.2.1-(Int.toNat y2.1)):Nat):Int) else u4)))/\(wrap .i64 (y2.1+(if (((u5.2.1-(Int.toNat y2.1)):Nat):Int)<u4 then (((u5.2.1-(Int.toNat y2.1)):Nat):Int) else u4)))<=((u6.2.2:Nat):Int))<|
 yF prog x0 [(.slice (zm u6.1 (Int.toNat y2.1) (Int.toNat (wrap .i64 (y2.1+(if (((u5.2.1-(Int.toNat y2.1)):Nat):Int)<u4 then (((u5.2.1-(Int.toNat y2.1)):Nat):Int) else u4)))) 1) ((Int.toNat (wrap .i64 (y2.1+(if (((u5.2.1-(Int.toNat y2.1)):Nat):Int)<u4 then (((u5.2.1-(Int.toNat y2.1)):Nat):Int) else u4))))-(Int.toNat y2.1)) ((Int.toNat (wrap .i64 (y2.1+(if (((u5.2.1-(Int.toNat y2.1)):Nat):Int)<u4 then (((u5.2.1-(Int.toNat y2.1)):Nat):Int) else u4))))-(Int.toNat y2.1)))] (.one (.one .bool)) fun(u7:Bool)=>
 za (!u7) (K (.tuple #[]))<|
 ldW (.int .i64) a2 fun(u8:Int)=>I1 ((wrap .i64 (y2.1+u8)),()))<|K (.tuple #[])
theorem zmk (x0:Value) (a1:Addr) (a2:Addr) {K:Value->WP} {w:World} (h:S223 x0 a1 a2 K w):Calls prog 223 #[x0,(.pointer (some a1)),(.pointer (some a2))] w (Ret K):=cF an223 false Tryz.func223 h
def an224:Ann:=(AN (.block (.loop [(4,.sh (.one (.int .i64)))] [0,1,2,1000000] (AR (AN (AQ AP AP)) (AR (.block (AN (AN (AQ AP AP)))) AP)))))
def S224 (x0:Value) (a1:Addr) (a2:Addr) (K:Value->WP):WP:=
 zH (Int×Unit) ((0:Int),()) fun(y2:Int×Unit) (I1:(Int×Unit)->WP)=>
 ldW .slc a1 fun(u3:SLC)=>
 za (decide (y2.1<((u3.2.1:Nat):Int))) (zA<|
 ldW (.int .i64) a2 fun(u4:Int)=>
 ldW .slc a1 fun(u5:SLC)=>
 zc (0<=y2.1/\y2.1<=((u5.2.1:Nat):Int))<|
 ldW .slc a1 fun(u6:SLC)=>
 zc (0<=y2.1/\y2.1<=(wrap .i64 (y2.1+(if (((u5.2.1-(Int.toNat y2.1)):Nat):Int)<u4 then (((u5.2.1-(Int.toNat y2.1)):Nat):Int) else u4)))/\(wrap .i64 (y2.1+(if (((u5.2.1-(Int.toNat y2.1)):Nat):Int)<u4 then (((u5.2.1-(Int.toNat y2.1)):Nat):Int) else u4)))<=(wrap .i64 (y2.1+(if (((u5.2.1-(Int.toNat y2.1)):Nat):Int)<u4 then (((u5.2.1-(Int.toNat y2.1)):Nat):Int) else u4)))/\(wrap .i64 (y2.1+(if (((u5.2.1-(Int.toNat y2.1)):Nat):Int)<u4 then (((u5.2.1-(Int.toNat y2.1)):Nat):Int) else u4)))<=((u6.2.2:Nat):Int))<|
 yF prog x0 [(.slice (zm u6.1 (Int.toNat y2.1) (Int.toNat (wrap .i64 (y2.1+(if (((u5.2.1-(Int.toNat y2.1)):Nat):Int)<u4 then (((u5.2.1-(Int.toNat y2.1)):Nat):Int) else u4)))) 1) ((Int.toNat (wrap .i64 (y2.1+(if (((u5.2.1-(Int.toNat y2.1)):Nat):Int)<u4 then (((u5.2.1-(Int.toNat y2.1)):Nat):Int) else u4))))-(Int.toNat y2.1)) ((Int.toNat (wrap .i64 (y2.1+(if (((u5.2.1-(Int.toNat y2.1)):Nat):Int)<u4 then (((u5.2.1-(Int.toNat y2.1)):Nat):Int) else u4))))-(Int.toNat y2.1)))] (.one (.one .bool)) fun(u7:Bool)=>
 za (!u7) (K (.tuple #[]))<|
 ldW (.int .i64) a2 fun(u8:Int)=>I1 ((wrap .i64 (y2.1+u8)),()))<|K (.tuple #[])
theorem zml (x0:Value) (a1:Addr) (a2:Addr) {K:Value->WP} {w:World} (h:S224 x0 a1 a2 K w):Calls prog 224 #[x0,(.pointer (some a1)),(.pointer (some a2))] w (Ret K):=cF an224 false Tryz.func224 h
end V
/- Geometries,rooms:contracts. -/
namespace V
open Go Go.Proofs Go.RowKit
def zW (size blocks:Int):Bool:=decide (128<=size/\size<=4096/\Int.tmod size 64=0/\8<=blocks/\blocks<=4096)
theorem qj (w:World) (size blocks:Int):Calls prog 111 #[.agg #[.int .i64 size,.int .i64 blocks]] w (Ret fun v w'=>v=.int .i64 (if zW size blocks then 0 else 2)/\Ext w w'):=by
 apply zli;unfold S111;apply yG;have hb:Blk (w.alloc (.cells #[(.int .i64 size),(.int .i64 blocks)] 72)) w.heap.size [(.int .i64 size),(.int .i64 blocks)] 72:=Blk.new w _ _;have he:Ext w (w.alloc (.cells #[(.int .i64 size),(.int .i64 blocks)] 72)):=(Ext.refl w).alloc _;generalize w.alloc (.cells #[(.int .i64 size),(.int .i64 blocks)] 72)=w1 at hb he ⊢;have bad:¬(128<=size/\size<=4096/\Int.tmod size 64=0/\8<=blocks/\blocks<=4096)->(Value.int .i64 2=.int .i64 (if zW size blocks then 0 else 2)/\Ext w w1):=fun h=>by
  unfold zW;rw[decide_eq_false h];exact⟨rfl,he⟩
 refine zo hb (by rfl) ?_;refine zg (fun h=>bad (by have:=of_decide_eq_true h;omega)) (fun h1=>?_);refine zo hb (by rfl) ?_;refine zg (fun h=>bad (by have:=of_decide_eq_true h;omega)) (fun h2=>?_);refine zo hb (by rfl) ?_;refine zg (fun h=>bad (by rw[bne_iff_ne]at h;exact fun hh=>h hh.2.2.1)) (fun h3=>?_);refine yZ (o:=1) hb (by rfl) ?_;refine zg (fun h=>bad (by have:=of_decide_eq_true h;omega)) (fun h4=>?_);refine yZ (o:=1) hb (by rfl) ?_;refine zg (fun h=>bad (by have:=of_decide_eq_true h;omega)) (fun h5=>?_);have h1:=of_decide_eq_false h1;have h2:=of_decide_eq_false h2;have h3:Int.tmod size 64=0:=by simpa using h3
 have h4:=of_decide_eq_false h4;have h5:=of_decide_eq_false h5;unfold zW;rw[decide_eq_true ⟨by omega,by omega,h3,by omega,by omega⟩];exact⟨rfl,he⟩
def zD (size:Int):Int:=if zW size 8 then size-16 else 0
theorem jj (w:World) (size:Int):Calls prog 121 #[.int .i64 size] w (Ret fun v w'=>v=.int .i64 (zD size)/\Ext w w'):=by
 apply zlq;unfold S121 zD;refine zb (qj w size 8) ?_;rintro _ w1 ⟨rfl,he⟩;refine⟨_,rfl,?_⟩;cases hok:zW size 8 with
 |false=>exact zf (by rfl) ⟨rfl,he⟩
 |true=>
  refine zd (by rfl) ⟨?_,he⟩;unfold zW at hok;have hok:=of_decide_eq_true hok;rw[wrap_i64 (x:=size-12) (by omega) (by omega),wrap_i64 (by omega) (by omega),if_pos rfl];congr 1;omega
end V
/- Iterators:slices.Chunk's and slices.Backward's inner functions,told of any program. -/
namespace V
open Go
def zj6 (P:Program) (z:Nat) (x0:Value) (a1:Addr) (a2:Addr) (K:Value->WP):WP:=
 zH (Int×Unit) ((0:Int),()) fun(y2:Int×Unit) (I1:(Int×Unit)->WP)=>
 ldW .slc a1 fun(u3:SLC)=>
 za (decide (y2.1<((u3.2.1:Nat):Int))) (zA<|
 ldW (.int .i64) a2 fun(u4:Int)=>
 ldW .slc a1 fun(u5:SLC)=>
 zc (0<=y2.1/\y2.1<=((u5.2.1:Nat):Int))<|
 ldW .slc a1 fun(u6:SLC)=>
 zc (0<=y2.1/\y2.1<=(wrap .i64 (y2.1+(if (((u5.2.1-(Int.toNat y2.1)):Nat):Int)<u4 then (((u5.2.1-(Int.toNat y2.1)):Nat):Int) else u4)))/\(wrap .i64 (y2.1+(if (((u5.2.1-(Int.toNat y2.1)):Nat):Int)<u4 then (((u5.2.1-(Int.toNat y2.1)):Nat):Int) else u4)))<=(wrap .i64 (y2.1+(if (((u5.2.1-(Int.toNat y2.1)):Nat):Int)<u4 then (((u5.2.1-(Int.toNat y2.1)):Nat):Int) else u4)))/\(wrap .i64 (y2.1+(if (((u5.2.1-(Int.toNat y2.1)):Nat):Int)<u4 then (((u5.2.1-(Int.toNat y2.1)):Nat):Int) else u4)))<=((u6.2.2:Nat):Int))<|
 yF P x0 [(.slice (zm u6.1 (Int.toNat y2.1) (Int.toNat (wrap .i64 (y2.1+(if (((u5.2.1-(Int.toNat y2.1)):Nat):Int)<u4 then (((u5.2.1-(Int.toNat y2.1)):Nat):Int) else u4)))) z) ((Int.toNat (wrap .i64 (y2.1+(if (((u5.2.1-(Int.toNat y2.1)):Nat):Int)<u4 then (((u5.2.1-(Int.toNat y2.1)):Nat):Int) else u4))))-(Int.toNat y2.1)) ((Int.toNat (wrap .i64 (y2.1+(if (((u5.2.1-(Int.toNat y2.1)):Nat):Int)<u4 then (((u5.2.1-(Int.toNat y2.1)):Nat):Int) else u4))))-(Int.toNat y2.1)))] (.one (.one .bool)) fun(u7:Bool)=>
 za (!u7) (K (.tuple #[]))<|
 ldW (.int .i64) a2 fun(u8:Int)=>I1 ((wrap .i64 (y2.1+u8)),()))<|K (.tuple #[])
def yt (n k:Nat):Nat:=(n+k-1) / k
theorem uE {n k i:Nat} (hk:1<=k):i<yt n k↔i*k<n:=by
 unfold yt;rw[Nat.lt_iff_add_one_le,Nat.le_div_iff_mul_le (by omega),Nat.succ_mul];omega
def qq (z:Nat) (A:Option Addr) (n k:Nat):List (List Value):=(List.range (yt n k)).map fun i=>[.slice (zm A (i*k) (i*k+min k (n-i*k)) z) (min k (n-i*k)) (min k (n-i*k))]
theorem xF (z:Nat) (A:Option Addr) (n k:Nat):(qq z A n k).length=yt n k:=by simp[qq]
theorem zba {P:Program} {z r1 r2 l n c k:Nat} {A:Option Addr} {t1 t2:TypeId} {J:Nat->WP} {w:World} (hk:1<=k) (hnc:n<=c) (hnk:n+k<=9223372036854775807) (h0:J 0 w)
  (hR:∀ i w',J i w'->Blk w' r1 [.slice A n c] t1/\Blk w' r2 [.int .i64 (k:Int)] t2) (hd:∀ i w',J i w'->J i w'.drew)
  (hY:∀ i w' (h:i<(qq z A n k).length),J i w'->jo P l (qq z A n k)[i] w' fun v w''=>v=.bool true/\J (i+1) w''):
  zj6 P z (.func (.yield l) #[] #[]) ⟨r1,0,none⟩ ⟨r2,0,none⟩ (fun _ w'=>J (qq z A n k).length w') w:=by
 unfold zj6;rw[xF];refine zz (fun y w'=>∃ i:Nat,i<=yt n k/\y=(((i*k:Nat):Int),())/\J i w') (fun y=>((n:Int)+k-y.1).toNat) ⟨0,by omega,by simp,h0⟩ ?_;rintro _ w' ⟨i,hi,rfl,hJ⟩;dsimp only;obtain⟨h1,h2⟩:=hR i w' hJ;refine zo (x:=(A,n,c)) h1 (by rfl) ?_;dsimp only
 by_cases hlt:i*k<n
 ·refine zf (decide_eq_true (by omega)) ?_;have hJ':=hd i w' hJ;obtain⟨h1,h2⟩:=hR i _ hJ';show(ldW _ _ _) w'.drew;generalize w'.drew=w1 at hJ' h1 h2 ⊢;refine zo (x:=(k:Int)) h2 (by rfl) ?_;refine zo (x:=(A,n,c)) h1 (by rfl) ?_;dsimp only;refine⟨⟨by omega,by omega⟩,?_⟩;refine zo (x:=(A,n,c)) h1 (by rfl) ?_;dsimp only;have e:wrap .i64 (((i*k:Nat):Int)+(if (((n-Int.toNat ((i*k:Nat):Int)):Nat):Int)<(k:Int) then (((n-Int.toNat ((i*k:Nat):Int)):Nat):Int) else (k:Int)))=((i*k+min k (n-i*k):Nat):Int):=by
   rw[Int.toNat_natCast];generalize i*k=m at hlt ⊢;split<;>rw[wrap_i64 (by omega) (by omega)]<;>omega
  rw[e];refine⟨⟨by omega,by omega,by omega,by omega⟩,?_⟩;rw[Int.toNat_natCast,Int.toNat_natCast,Nat.add_sub_cancel_left];have hlt':i<(qq z A n k).length:=by rw[xF];exact(uE hk).2 hlt
  refine .inr ⟨l,rfl,?_⟩;have hy:=hY i w1 hlt' hJ';have el:(qq z A n k)[i]=[.slice (zm A (i*k) (i*k+min k (n-i*k)) z) (min k (n-i*k)) (min k (n-i*k))]:=by simp[qq]
  rw[el]at hy;obtain⟨fn,tmps,asg,bd,hy1,hy2⟩:=hy;refine⟨fn,tmps,asg,bd,hy1,RoundIn.mono hy2 ?_⟩;rintro(v|x|_) w2 hv
  ·obtain⟨rfl,hJ2⟩:=hv;refine⟨true,rfl,?_⟩;refine zd (by rfl) ?_;obtain⟨h1,h2⟩:=hR _ _ hJ2;refine zo (x:=(k:Int)) h2 (by rfl) ?_;rw[wrap_i64 (by omega) (by omega)];refine⟨⟨i+1,by rw[xF]at hlt';omega,by rw[Nat.succ_mul];rfl,hJ2⟩,?_⟩;generalize i*k=m at hlt ⊢;omega
  ·exact hv
  ·exact hv
 ·refine zd (decide_eq_false (by omega)) ?_;have:i=yt n k:=by
   rcases Nat.lt_or_ge i (yt n k) with h|h
   ·exact absurd ((uE hk).1 h) hlt
   ·omega
  subst this;exact hJ
def zm3 (P:Program) (x0:Value) (a1:Addr) (K:Value->WP):WP:=
 ldW .slc a1 fun(u1:SLC)=>
 zH (Int×Unit) ((wrap .i64 (((u1.2.1:Nat):Int)-(1:Int))),()) fun(y3:Int×Unit) (I2:(Int×Unit)->WP)=>
 za (decide (y3.1>=(0:Int))) (ldW .slc a1 fun(u4:SLC)=>
 zc (0<=y3.1/\y3.1<((u4.2.1:Nat):Int))<|
 zi u4.1 fun(p5:Addr)=>
 ldW (.int .u8) (p5.add (Int.toNat y3.1*1)) fun(u6:Int)=>
 yF P x0 [(.int .i64 y3.1),(.int .u8 u6)] (.one (.one .bool)) fun(u7:Bool)=>
 za (!u7) (K (.tuple #[]))<|I2 ((wrap .i64 (y3.1-(1:Int))),()))<|K (.tuple #[])
def vF (bs:List UInt8):List (List Value):=(List.range bs.length).map fun i=>[.int .i64 ((bs.length-1-i:Nat):Int),.int .u8 ((bs.getD (bs.length-1-i) 0).toNat:Int)]
theorem kV (bs:List UInt8):(vF bs).length=bs.length:=by simp[vF]
theorem zj7 {P:Program} {r1 l n c:Nat} {A:Option Addr} {bs:List UInt8} {t1:TypeId} {J:Nat->WP} {w:World} (h0:J 0 w)
  (hR:∀ i w',J i w'->Blk w' r1 [.slice A n c] t1/\Sl w' A n (bV bs))
  (hY:∀ i w' (h:i<(vF bs).length),J i w'->jo P l (vF bs)[i] w' fun v w''=>v=.bool true/\J (i+1) w''):
  zm3 P (.func (.yield l) #[] #[]) ⟨r1,0,none⟩ (fun _ w'=>J (vF bs).length w') w:=by
 unfold zm3;rw[kV];obtain⟨h1,h2⟩:=hR 0 w h0;have hl:=h2.blen;have hle:=h2.le;refine zo (x:=(A,n,c)) h1 (by rfl) ?_;dsimp only;rw[wrap_i64 (by omega) (by omega)];refine zz (fun y w'=>∃ i:Nat,i<=n/\y=((n:Int)-1-i,())/\J i w') (fun y=>(y.1+1).toNat) ⟨0,by omega,by simp,h0⟩ ?_;rintro _ w' ⟨i,hi,rfl,hJ⟩;dsimp only
 by_cases hlt:i<n
 ·refine zf (decide_eq_true (by omega)) ?_;obtain⟨h1,h2⟩:=hR i w' hJ;refine zo (x:=(A,n,c)) h1 (by rfl) ?_;dsimp only;refine zgm h2 (by omega) (by omega) ?_;have hlt':i<(vF bs).length:=by rw[kV];omega
  refine .inr ⟨l,rfl,?_⟩;have hy:=hY i w' hlt' hJ;have el:(vF bs)[i]=[.int .i64 ((n:Int)-1-i),.int .u8 ((bs.getD (Int.toNat ((n:Int)-1-i)) 0).toNat:Int)]:=by
   have e1:((bs.length-1-i:Nat):Int)=(n:Int)-1-i:=by omega
   have e2:Int.toNat ((n:Int)-1-i)=bs.length-1-i:=by omega
   rw[e2,<- e1];simp[vF]
  rw[el]at hy;obtain⟨fn,tmps,asg,bd,hy1,hy2⟩:=hy;refine⟨fn,tmps,asg,bd,hy1,RoundIn.mono hy2 ?_⟩;rintro(v|x|_) w2 hv
  ·obtain⟨rfl,hJ2⟩:=hv;refine⟨true,rfl,?_⟩;refine zd (by rfl) ?_;rw[wrap_i64 (by omega) (by omega)];exact⟨⟨i+1,by omega,by congr 1;omega,hJ2⟩,by omega⟩
  ·exact hv
  ·exact hv
 ·refine zd (decide_eq_false (by omega)) ?_;obtain rfl:i=bs.length:=by omega
  exact hJ
end V
/- Contracts of the statements' own helpers,and of slices.Clone. -/
namespace V
open Go Go.Proofs
theorem qy:Elem prog 85 5 (.int .u8 0) 1:=by
 refine⟨by kernel_rfl,by kernel_rfl,rfl⟩
def Bytes (w:World) (bs:List UInt8) (v:Value) (w':World):Prop:=∃ x:SLC,v=.slice x.1 x.2.1 x.2.2/\Own 5 w' w.heap.size x.1 x.2.1 x.2.2 (bV bs)/\Ext w w'
theorem zfn {w w':World} {bs:List UInt8} {A:Option Addr} {n c:Nat} (h:Own 5 w' w.heap.size A n c (bV bs)) (he:Ext w w'):Bytes w bs (.slice A n c) w':=⟨(A,n,c),rfl,h,he⟩
theorem zoX {w:World} {A:Option Addr} {n c:Nat} {bs:List UInt8} {K:SLC->WP} (h:Sl w A n (bV bs)) (hn:n<=140737488355328)
  (hK:∀ A' c' w',Own 5 w' w.heap.size A' n c' (bV bs)->Ext w w'->K (A',n,c') w'):
  (zh (.cells #[] 5) fun r=>zw prog (Builtin.append_ #[85,85] 85 #[.slice (some (aD r)) 0 0,.slice A n c]) .slc K) w:=by
 apply yG;have ho:Own 5 (w.alloc (.cells #[] 5)) w.heap.size (some ⟨w.heap.size,0,none⟩) 0 0 []:=Own.lit (cs:=#[]) (Nat.le_refl _) (by simp);have he:Ext w (w.alloc (.cells #[] 5)):=(Ext.refl w).alloc _;refine uZ (c:=0) (n:=0) (m:=n) qy ho he.size (h.ext he) (zaH bs) (by omega) (by omega) ?_;intro A' c' w' ho' hg _;rw[List.nil_append,Nat.zero_add]at ho';rw[Nat.zero_add];exact hK A' c' w' ho' (he.grown hg.grown (ho.row'))
theorem zcV {w:World} {A:Option Addr} {n c:Nat} {bs:List UInt8} (h:Sl w A n (bV bs)) (hn:n<=140737488355328):Calls prog 209 #[.slice A n c] w (Ret (Bytes w bs)):=by
 apply zmc;unfold S209;refine zg (fun hA=>?_) (fun hA=>?_)
 ·have hA:A=none:=by simpa using hA
  subst hA;have hn0:n=0:=by
   rcases Nat.eq_zero_or_pos n with h0|h0
   ·exact h0
   ·obtain⟨a,h1,_⟩:=h.2.2 h0;cases h1
  have hb:=h.blen;obtain rfl:bs=[]:=eq_nil_of_length_eq_zero (by omega);exact zfn (Own.nil _ _ _) (Ext.refl w)
 ·exact zoX h hn fun A' c' w' ho he=>zfn ho he
end V
/- Contracts of slices.Chunk,slices.Backward,octet.Of,octet.Put. -/
namespace V
open Go Go.Proofs Go.RowKit
def zcD (r1 r2:Nat) (A:Option Addr) (n c k:Nat):WP:=fun w=>Blk w r1 [.slice A n c] 85/\Blk w r2 [.int .i64 (k:Int)] 3
theorem zgx {w:World} {A:Option Addr} {n c k:Nat} (hk:1<=k) (hnc:n<=c) (hnk:n+k<=9223372036854775807):Calls prog 222 #[.slice A n c,.int .i64 (k:Int)] w (Ret fun v w'=>Iter prog v (qq 1 A n k) (zcD w.heap.size (w.heap.size+1) A n c k)/\zcD w.heap.size (w.heap.size+1) A n c k w'/\w'.heap.size=w.heap.size+2/\Ext w w'):=by
 apply zmj;unfold S222;apply yG;have h1:=Blk.new w #[.slice A n c] 85;have he:=(Ext.refl w).alloc (.cells #[.slice A n c] 85);have hs:(w.alloc (.cells #[.slice A n c] 85)).heap.size=w.heap.size+1:=by simp
 generalize w.alloc (.cells #[.slice A n c] 85)=w1 at h1 he hs ⊢;apply yG;have h2:=Blk.new w1 #[.int .i64 (k:Int)] 3;have h1:=h1.alloc (.cells #[.int .i64 (k:Int)] 3);have he:=he.alloc (.cells #[.int .i64 (k:Int)] 3);have hs2:(w1.alloc (.cells #[.int .i64 (k:Int)] 3)).heap.size=w.heap.size+2:=by simp[hs]
 generalize w1.alloc (.cells #[.int .i64 (k:Int)] 3)=w2 at h1 h2 he hs2 ⊢;rw[hs]at h2 ⊢;refine zo (x:=(k:Int)) h2 (by rfl) ?_;refine zd (decide_eq_false (by omega)) ?_;refine⟨⟨_,_,rfl,by kernel_rfl,fun l J w' hJ hR hd hY=>?_⟩,⟨h1,h2⟩,hs2,he⟩;apply zml;exact zba (P:=prog) hk hnc hnk hJ hR hd hY
def zbb (r1 r2:Nat) (A:Option Addr) (n c k:Nat):WP:=fun w=>Blk w r1 [.slice A n c] 191/\Blk w r2 [.int .i64 (k:Int)] 3
theorem zfM {w:World} {A:Option Addr} {n c k:Nat} (hk:1<=k) (hnc:n<=c) (hnk:n+k<=9223372036854775807):Calls prog 181 #[.slice A n c,.int .i64 (k:Int)] w (Ret fun v w'=>Iter prog v (qq 1 A n k) (zbb w.heap.size (w.heap.size+1) A n c k)/\zbb w.heap.size (w.heap.size+1) A n c k w'/\w'.heap.size=w.heap.size+2/\Ext w w'):=by
 apply zl1;unfold S181;apply yG;have h1:=Blk.new w #[.slice A n c] 191;have he:=(Ext.refl w).alloc (.cells #[.slice A n c] 191);have hs:(w.alloc (.cells #[.slice A n c] 191)).heap.size=w.heap.size+1:=by simp
 generalize w.alloc (.cells #[.slice A n c] 191)=w1 at h1 he hs ⊢;apply yG;have h2:=Blk.new w1 #[.int .i64 (k:Int)] 3;have h1:=h1.alloc (.cells #[.int .i64 (k:Int)] 3);have he:=he.alloc (.cells #[.int .i64 (k:Int)] 3);have hs2:(w1.alloc (.cells #[.int .i64 (k:Int)] 3)).heap.size=w.heap.size+2:=by simp[hs]
 generalize w1.alloc (.cells #[.int .i64 (k:Int)] 3)=w2 at h1 h2 he hs2 ⊢;rw[hs]at h2 ⊢;refine zo (x:=(k:Int)) h2 (by rfl) ?_;refine zd (decide_eq_false (by omega)) ?_;refine⟨⟨_,_,rfl,by kernel_rfl,fun l J w' hJ hR hd hY=>?_⟩,⟨h1,h2⟩,hs2,he⟩;apply zme;exact zba (P:=prog) hk hnc hnk hJ hR hd hY
def zi0 (r1:Nat) (A:Option Addr) (n c:Nat) (bs:List UInt8):WP:=fun w=>Blk w r1 [.slice A n c] 85/\Sl w A n (bV bs)
theorem zi1 {w:World} {A:Option Addr} {n c:Nat} {bs:List UInt8} (h:Sl w A n (bV bs)):Calls prog 156 #[.slice A n c] w (Ret fun v w'=>Iter prog v (vF bs) (zi0 w.heap.size A n c bs)/\zi0 w.heap.size A n c bs w'/\w'.heap.size=w.heap.size+1/\Ext w w'):=by
 apply zlI;unfold S156;apply yG;have he:=(Ext.refl w).alloc (.cells #[.slice A n c] 85);refine⟨⟨_,_,rfl,by kernel_rfl,fun l J w' hJ hR hd hY=>?_⟩,⟨Blk.new w #[.slice A n c] 85,h.ext he⟩,by simp,he⟩;apply zl3;exact zj7 (P:=prog) hJ hR hY
theorem xi {w:World} {B:Nat} {A:Option Addr} {n c:Nat} {bs:List UInt8} {v k:Nat} (h:Own 5 w B A n c (bV bs)) (hB:B<=w.heap.size) (hn:n<=140737488355000) (hv:v<18446744073709551616) (hk1:1<=k) (hk:k<=8):
  Calls prog 42 #[.slice A n c,.int .u64 (v:Int),.int .i64 (k:Int)] w (Ret fun r w'=>∃ x:SLC,r=.slice x.1 x.2.1 x.2.2/\Own 5 w' B x.1 x.2.1 x.2.2 (bV (bs++le k v))/\Grew w w' (orow A) (orow x.1)):=by
 apply zim;unfold S42;refine zd (decide_eq_false (by omega)) ?_;refine zd (decide_eq_false (by omega)) ?_;refine zz (fun x w'=>∃ (A':Option Addr) (c' i:Nat),i<=k/\x=((A',n+i,c'),(i:Int),())/\Own 5 w' B A' (n+i) c' (bV (bs++le i v))/\Grew w w' (orow A) (orow A')) (fun x=>(k-x.2.1).toNat)
  ⟨A,c,0,by omega,rfl,by simpa [le] using h,Grew.refl _ _⟩ ?_
 rintro _ w' ⟨A',c',i,hi,rfl,ho,hg⟩;dsimp only;have hB':B<=w'.heap.size:=Nat.le_trans hB hg.grown.size
 by_cases hlt:i<k
 ·refine zf (decide_eq_true (by omega)) ?_;have e1:wrap .i64 ((8:Int)*(i:Int))=((8*i:Nat):Int):=by
   rw[wrap_i64 (by omega) (by omega)];omega
  rw[e1];refine⟨by omega,?_⟩;rw[zgq .u64 v (8*i) (by simp[IntKind.bits];omega),qh,Nat.pow_mul,show(2:Nat) ^ 8=256 from rfl];have hone:∀ y∈[Value.int .u8 ((UInt8.ofNat (v / 256 ^ i)).toNat:Int)],y.oneCell'=true:=by
   intro y hy;simp only [mem_singleton]at hy;subst hy;rfl
  refine zd2 (ys:=[Value.int .u8 ((UInt8.ofNat (v / 256 ^ i)).toNat:Int)]) qy ho hB' hone (by simp;omega) (by omega) ?_;intro A2 c2 w2 ho2 hg2;refine⟨⟨A2,c2,i+1,by omega,?_,?_,?_⟩,?_⟩
  ·rw[wrap_i64 (by omega) (by omega)];rfl
  ·have e2:bV (bs++le (i+1) v)=bV (bs++le i v)++[Value.int .u8 ((UInt8.ofNat (v / 256 ^ i)).toNat:Int)]:=by
    rw[le_succ,<- append_assoc,xg (bs++le i v)];rfl
   rw[e2];exact ho2
  ·exact hg.step hg2
  ·rw[wrap_i64 (by omega) (by omega)];omega
 ·obtain rfl:i=k:=by omega
  refine zd (decide_eq_false (by omega)) ?_;exact⟨(A',n+i,c'),rfl,ho,hg⟩
theorem zmm {bs:List UInt8} {j:Nat} (h:j<bs.length):lev (bs.drop j)=(bs.getD j 0).toNat+256*lev (bs.drop (j+1)):=by
 rw[List.drop_eq_getElem_cons h];simp[lev,h]
theorem qP {w:World} {A:Option Addr} {n c:Nat} {bs:List UInt8} (h:Sl w A n (bV bs)) (hn:n<=8):Calls prog 107 #[.slice A n c] w (Ret fun v w'=>v=.int .u64 (lev bs:Int)/\Ext w w'):=by
 apply zle;unfold S107;have hl:=h.blen;apply yG;have hr:=Blk.new w #[.int .u64 (0:Int)] 42;have he:=(Ext.refl w).alloc (.cells #[.int .u64 (0:Int)] 42);generalize w.alloc (.cells #[.int .u64 (0:Int)] 42)=w1 at hr he ⊢;generalize hrr:w.heap.size=r at hr ⊢;refine zd (decide_eq_false (by omega)) ?_;refine zb (zi1 (c:=c) (h.ext he)) ?_;rintro v w2 ⟨hit,hRb,hs2,he2⟩;refine⟨v,rfl,?_⟩;have hr2:=hr.ext he2;have hrlt:=hr.lt;have he02:=he.trans he2;have hsl:∀ w',Ext w w'->Sl w' A n (bV bs):=fun w' e=>h.ext e;refine zaJ (R:=zi0 w1.heap.size A n c bs) (fun i w'=>Ext w w'/\Blk w' w1.heap.size [.slice A n c] 85/\Blk w' r [.int .u64 (lev (bs.drop (n-i)):Int)] 42) hit (fun i w' hI=>⟨hI.2.1,hsl _ hI.1⟩) (fun i w' hI=>⟨hI.1.drew,hI.2.1,hI.2.2⟩) ?_ ?_ ?_ ?_
 ·rintro i w' w'' hsb ⟨h1,h2,h3⟩;have hge:w.heap.size<=w2.heap.size:=he02.size;refine⟨?_,?_,?_⟩
  ·exact⟨hsb.1.trans h1.os,hsb.2.1.trans h1.tape,hsb.2.2.1.trans h1.output,by have:=h1.size;have:=hsb.2.2.2.1;omega,fun k hk=>(hsb.2.2.2.2 k (by omega) (by omega)).trans (h1.block k hk)⟩
  ·exact(hsb.2.2.2.2 _ (by omega) (by omega)).trans h2
  ·exact(hsb.2.2.2.2 _ (by omega) (by omega)).trans h3
 ·intro o;refine⟨(he02.alloc _).alloc _,(hRb.1.alloc _).alloc _,?_⟩;have e:bs.drop (n-0)=[]:=drop_of_length_le (by omega);rw[e];exact(hr2.alloc _).alloc _
 ·intro i hi w' N jump hI hsz hN;rw[kV]at hi;refine⟨((bs.length-1-i:Nat),((bs.getD (bs.length-1-i) 0).toNat:Int),()),by simp[vF],?_⟩;obtain⟨h1,h2,h3⟩:=hI;dsimp only;refine zo (x:=(lev (bs.drop (n-i)):Int)) h3 (by rfl) ?_;refine zS h3 (by simp) ?_;have hb:=(bs.getD (bs.length-1-i) 0).toNat_lt;have hlv:=jA (bs.drop (n-i));have hlen:(bs.drop (n-i)).length=i:=by rw[length_drop];omega
  rw[hlen]at hlv;have hpow:256 ^ i*256<=18446744073709551616:=by
   rw[show 256 ^ i*256=256 ^ (i+1) from rfl,show 18446744073709551616=256 ^ 8 from rfl];exact Nat.pow_le_pow_right (by omega) (by omega)
  have e1:ior .u64 (ishl .u64 (lev (bs.drop (n-i)):Int) (8:Int)) (wrap .u64 ((bs.getD (bs.length-1-i) 0).toNat:Int))=(lev (bs.drop (n-(i+1))):Int):=by
   rw[show(8:Int)=((8:Nat):Int) from rfl,zx (by omega),zlb (k:=.u64) rfl _ 8 (by simp[IntKind.bits])];rw[Nat.mod_eq_of_lt (show lev (bs.drop (n-i))*2 ^ 8<2 ^ IntKind.bits .u64 by show _<18446744073709551616;omega)];rw[zii (k:=.u64) rfl (show lev (bs.drop (n-i))*2 ^ 8<2 ^ IntKind.bits .u64 by show _<18446744073709551616;omega) (show _<18446744073709551616 by omega)];rw[Nat.mul_comm,<- Nat.two_pow_add_eq_or_of_lt (by omega)];have e2:n-(i+1)=bs.length-1-i:=by omega
   rw[e2,zmm (j:=bs.length-1-i) (by omega),show bs.length-1-i+1=n-i by omega];congr 1;omega
  rw[e1];have hset:=h3.set 0 (.int .u64 (lev (bs.drop (n-(i+1))):Int));refine hN _ ⟨h1.set (by simp only;omega) _,h2.other (by simp only;omega) _,hset⟩ (by simp) (fun k hk=>?_);exact Below.heap_setCell _ _ _ _ (by simp only;omega)
 ·intro w' hI hsz hd;obtain⟨h1,h2,h3⟩:=hI;rw[kV]at h3;have e:bs.drop (n-bs.length)=bs:=by rw[show n-bs.length=0 by omega];rfl
  rw[e]at h3;show(ldW _ _ _) w';refine zo (x:=(lev bs:Int)) h3 (by rfl) ?_;refine zS h3 (by simp) ?_;have hset:=h3.set 0 (.int .u64 (lev bs:Int));refine ja (by rw[Below.heap_setCell _ _ _ _ (by simp only;omega)];exact hd) ?_;show(ldW _ _ _) _;refine zo (x:=(lev bs:Int)) (show Blk _ r [.int .u64 (lev bs:Int)] 42 from ?_) (by rfl) ?_
  ·exact(zO (by omega)).trans hset
  ·exact⟨rfl,(h1.set (by simp only;omega) _).yy (by have:=he02.size;omega) _⟩
end V
/- Plain mathematics of checks (chapter 2):no program in sight. -/
namespace Crc
abbrev W32:=BitVec 32
def poly:W32:=0x82f63b78#32
def bstep (v:W32):W32:=(v >>> 1) ^^^ (if v.getLsbD 0 then poly else 0#32)
def bsteps:Nat->W32->W32
 |0,v=>v
 |n+1,v=>bsteps n (bstep v)
def entry (i:Nat):W32:=bsteps 8 (BitVec.ofNat 32 i)
def table:List W32:=(List.range 256).map entry
def step (t:List W32) (s:W32) (b:UInt8):W32:=(s >>> 8) ^^^ t.getD ((s.setWidth 8) ^^^ b.toBitVec).toNat 0#32
def upd (t:List W32) (s:W32) (bs:List UInt8):W32:=bs.foldl (step t) s
def sum (t:List W32) (bs:List UInt8):W32:= ~~~ (upd t (~~~ 0#32) bs)
def crc (bs:List UInt8):W32:=sum table bs
theorem bsteps_add (m n:Nat):∀ v,bsteps (m+n) v=bsteps n (bsteps m v):=by
 induction m with
 |zero=>intro v;simp[bsteps]
 |succ m ih=>intro v;rw[Nat.add_right_comm];simp only [bsteps,ih]
end Crc
/- Bits turned within bytes,and what a check tells of them. It speaks of no program. -/
namespace Crc
open Go.Proofs.YtplgodmmmppmeaaGreat.V (le lev zv uD zj3 jA le_succ)
def ob (f:Nat->Bool):BitVec 8:=BitVec.ofNat 8 ((f 0).toNat+2*(f 1).toNat+4*(f 2).toNat+8*(f 3).toNat+16*(f 4).toNat+32*(f 5).toNat+64*(f 6).toNat+128*(f 7).toNat)
attribute [irreducible] ob
end Crc
/- Contracts of the package crc. -/
namespace V
open Go Go.Proofs Crc
def xG (T:List W32):List Value:=T.map fun t=>.int .u32 (t.toNat:Int)
theorem vG (T:List W32):(xG T).length=T.length:=by simp[xG]
theorem zmn {T:List W32} {i:Nat} (h:i<T.length):(xG T)[i]?=some (.int .u32 ((T.getD i 0).toNat:Int)):=by
 simp[xG,h]
theorem zgy {w:World} {T:List W32} {s:W32} {A:Option Addr} {n c:Nat} {bs:List UInt8} (hT:T.length=256) (h:Sl w A n (bV bs)):
  Calls prog 216 #[.agg (xG T).toArray,.int .u32 (s.toNat:Int),.slice A n c] w (Ret fun v w'=>v=.int .u32 ((upd T s bs).toNat:Int)/\Ext w w'):=by
 apply zmf;unfold S216;apply yG;have hb0:Blk (w.alloc (.cells (xG T).toArray 287)) w.heap.size (xG T) 287:=by simpa using Blk.new w (xG T).toArray _
 have he0:Ext w (w.alloc (.cells (xG T).toArray 287)):=(Ext.refl w).alloc _;have hl:=h.blen;have hn:=h.le;generalize w.alloc (.cells (xG T).toArray 287)=w1 at hb0 he0 ⊢;refine zz (fun x w'=>w'=w1/\∃ i:Nat,i<=n/\x=(((upd T s (bs.take i)).toNat:Int),(i:Int),())) (fun x=>(n-x.2.1).toNat) ⟨rfl,0,by omega,by simp[upd]⟩ ?_;rintro _ w' ⟨rfl,i,hi,rfl⟩;dsimp only;have h1:=h.ext he0
 by_cases hlt:i<n
 ·refine zf (decide_eq_true (by omega)) ?_;refine zgm h1 (by omega) (by omega) ?_;have hidx:ixor .u8 (wrap .u8 ((upd T s (bs.take i)).toNat:Int)) ((bs.getD (Int.toNat (i:Int)) 0).toNat:Int)=((((upd T s (bs.take i)).setWidth 8) ^^^ (bs.getD i 0).toBitVec).toNat:Int):=by
   rw[zgn,zhD,zpk];rfl
  rw[hidx];have hx:(((upd T s (bs.take i)).setWidth 8) ^^^ (bs.getD i 0).toBitVec).toNat<256:=(((upd T s (bs.take i)).setWidth 8) ^^^ (bs.getD i 0).toBitVec).isLt;refine⟨⟨by omega,by omega⟩,?_⟩;rw[Int.toNat_natCast,Nat.mul_one,zy,Nat.zero_add];refine zo hb0 (zmn (by omega)) ?_;rw[uB (by omega) (by omega)];refine⟨⟨rfl,i+1,by omega,?_⟩,by omega⟩;rw[show ishr .u32 ((upd T s (bs.take i)).toNat:Int) (8:Int)=((upd T s (bs.take i) >>> 8).toNat:Int) from zj2 _ 8 (by omega),zj1];have e:upd T s (bs.take (i+1))=Crc.step T (upd T s (bs.take i)) (bs.getD i 0):=by
   rw[take_succ_eq_append_getElem (by omega)];simp only [upd,List.foldl_append,foldl_cons,List.foldl_nil];rw[getD_eq_getElem?_getD,List.getElem?_eq_getElem (by omega)];rfl
  rw[e];rfl
 ·obtain rfl:i=n:=by omega
  refine zd (decide_eq_false (by omega)) ?_;rw[take_of_length_le (by omega)];exact⟨rfl,he0⟩
theorem zhF (w:World):Calls prog 201 #[] w (Ret fun v w'=>v=.agg (xG table).toArray/\Ext w w'):=by
 apply zl5;unfold S201;apply yG;have hz:(zdN prog 287).toList=List.replicate 256 (.int .u32 0):=by kernel_rfl
 have hb0:Blk (w.alloc (.cells (zdN prog 287) 287)) w.heap.size (List.replicate 256 (.int .u32 0)) 287:=by rw[<- hz];exact Blk.new w _ _
 have he0:Ext w (w.alloc (.cells (zdN prog 287) 287)):=(Ext.refl w).alloc _;generalize w.alloc (.cells (zdN prog 287) 287)=w1 at hb0 he0 ⊢;refine zz (fun x w'=>Ext w w'/\∃ i:Nat,i<=256/\x=((i:Int),())/\Blk w' w.heap.size (xG (table.take i)++List.replicate (256-i) (.int .u32 0)) 287) (fun x=>(256-x.1).toNat) ⟨he0,0,by omega,rfl,hb0⟩ ?_;rintro _ w' ⟨he,i,hi,rfl,hb⟩;dsimp only
 by_cases hlt:i<256
 ·refine zf (decide_eq_true (by omega)) ?_;have e0:wrap .u32 (i:Int)=((BitVec.ofNat 32 i).toNat:Int):=by
   rw[wrap_u32,BitVec.toNat_ofNat];simp only [Nat.reducePow];omega
  rw[e0];refine zz (fun x w''=>w''=w'/\∃ k:Nat,k<=8/\x=(((bsteps k (BitVec.ofNat 32 i)).toNat:Int),(k:Int),())) (fun x=>(8-x.2.1).toNat) ⟨rfl,0,by omega,rfl⟩ ?_;rintro _ _ ⟨rfl,k,hk,rfl⟩;dsimp only
  by_cases hk8:k<8
  ·refine zf (decide_eq_true (by omega)) ?_;rw[uB (by omega) (by omega)];refine⟨⟨rfl,k+1,by omega,?_⟩,by omega⟩;generalize hv:bsteps k (BitVec.ofNat 32 i)=v;have e1:bsteps (k+1) (BitVec.ofNat 32 i)=bstep v:=by rw[bsteps_add,hv];rfl
   rw[e1];have e2:(v&&& 1#32)=if v.getLsbD 0 then 1#32 else 0#32:=by
    have:v.getLsbD 0=v.toNat.testBit 0:=rfl;apply BitVec.eq_of_toNat_eq;rw[BitVec.toNat_and,this,Nat.testBit_zero];simp only [BitVec.toNat_ofNat,Nat.reducePow,Nat.reduceMod,Nat.and_one_is_mod]
    by_cases h:v.toNat % 2=1
    ·simp[h]
    ·simp[show v.toNat % 2=0 by omega]
   have e3:wrap .u32 ((2197175160:Int)*(iand .u32 (v.toNat:Int) (1:Int)))=((if v.getLsbD 0 then poly else 0#32).toNat:Int):=by
    rw[show iand .u32 (v.toNat:Int) (1:Int)=((v&&& 1#32).toNat:Int) from zoQ v 1#32,e2];cases v.getLsbD 0<;>decide
   rw[e3,show ishr .u32 (v.toNat:Int) (1:Int)=((v >>> 1).toNat:Int) from zj2 v 1 (by omega),zj1];rfl
  ·obtain rfl:k=8:=by omega
   refine zd (decide_eq_false (by omega)) ?_;refine⟨⟨by omega,by omega⟩,?_⟩;rw[Int.toNat_natCast,Nat.mul_one,zy,Nat.zero_add];refine zS hb (by simp[vG,table];omega) ?_;rw[uB (by omega) (by omega)];refine⟨⟨he.set (by simp) _,i+1,by omega,rfl,?_⟩,by omega⟩;have h2:=hb.set i (.int .u32 ((bsteps 8 (BitVec.ofNat 32 i)).toNat:Int));have e3:(xG (table.take i)++List.replicate (256-i) (Value.int .u32 0)).set i (.int .u32 ((bsteps 8 (BitVec.ofNat 32 i)).toNat:Int))=xG (table.take (i+1))++List.replicate (256-(i+1)) (Value.int .u32 0):=by
    have ht:(xG (table.take i)).length=i:=by simp[vG,table];omega
    rw[List.set_append_right _ _ (by omega),ht,Nat.sub_self,show 256-i=(256-(i+1))+1 by omega,List.replicate_succ,List.set_cons_zero];rw[take_add_one,show table[i]?=some (entry i) by simp[table,hlt]];simp[xG,entry]
   rw[e3]at h2;exact h2
 ·obtain rfl:i=256:=by omega
  refine zd (decide_eq_false (by omega)) ?_;have hb2:Blk w' w.heap.size (xG table) 287:=by
   have:table.take 256=table:=take_of_length_le (by simp[table]);rw[this]at hb
   simpa using hb
  have hlen:(xG table).length=256:=by simp[vG,table]
  have hone:∀ v∈xG table,v.oneCell'=true:=by
   intro v hv;obtain⟨t,_,rfl⟩:=mem_map.1 hv;rfl
  generalize xG table=TT at hb2 hlen hone ⊢;refine⟨TT.toArray,by simpa using hlen,hb2.jr,by simpa using hlen,?_,?_⟩
  ·exact hb2.qw TT 0 (by omega) hone
  ·have hb3:=hb2.setCells TT rfl;exact⟨TT.toArray,by simpa using hlen,hb3.jr,rfl,he.setCells (by simp) _ _ _⟩
theorem zj8 {w:World} {T:List W32} {A:Option Addr} {n c:Nat} {bs:List UInt8} (hT:T.length=256) (h:Sl w A n (bV bs)):
  Calls prog 200 #[.agg (xG T).toArray,.slice A n c] w (Ret fun v w'=>v=.int .u32 ((sum T bs).toNat:Int)/\Ext w w'):=by
 apply zl4;unfold S200;apply yG;have hb0:Blk (w.alloc (.cells (xG T).toArray 287)) w.heap.size (xG T) 287:=by simpa using Blk.new w (xG T).toArray _
 have he0:Ext w (w.alloc (.cells (xG T).toArray 287)):=(Ext.refl w).alloc _;have hlen:(xG T).length=256:=by rw[vG,hT]
 generalize w.alloc (.cells (xG T).toArray 287)=w1 at hb0 he0 ⊢;refine zno (cs:=(xG T).toArray) hb0 (by simpa using hlen) ?_;have hc:=zgy (w:=w1) (T:=T) (s:=4294967295#32) (c:=c) hT (h.ext he0);refine zb hc ?_;rintro _ w2 ⟨rfl,he⟩;refine⟨_,rfl,?_⟩;rw[zoR];exact⟨rfl,he0.trans he⟩
theorem zfo {w:World} {A:Option Addr} {n c:Nat} {bs:List UInt8} (h:Sl w A n (bV bs)):Calls prog 165 #[.slice A n c] w (Ret fun v w'=>v=.int .u32 ((crc bs).toNat:Int)/\Ext w w'):=by
 apply zlO;unfold S165;refine zb (zhF w) ?_;rintro _ w1 ⟨rfl,he⟩;refine⟨(xG table).toArray,rfl,?_⟩;refine zb (zj8 (by simp[table]) (h.ext he)) ?_;rintro _ w2 ⟨rfl,he2⟩;exact⟨_,rfl,rfl,he.trans he2⟩
end V
/- Contracts of the document's answer,chapter 2. -/
namespace V
open Go Go.Proofs Crc
end V
/- Contracts of the kit:Times,Str,Num,Row,Pair. -/
namespace V
open Go Go.Proofs Go.RowKit
end V
/- Devices:plain,and in memory. -/
namespace V
open Go Go.Proofs Go.RowKit Crc
def Only (F:Nat->Prop) (w w':World):Prop:=w'.os=w.os/\w'.tape=w.tape/\w'.output=w.output/\w.heap.size<=w'.heap.size/\∀ k:Nat,k<w.heap.size->¬F k->w'.heap[k]?=w.heap[k]?
theorem Only.zB {F:Nat->Prop} {w w':World} (h:Ext w w'):Only F w w':=⟨h.os,h.tape,h.output,h.size,fun k hk _=>h.block k hk⟩
theorem Only.refl (F:Nat->Prop) (w:World):Only F w w:=Only.zB (Ext.refl w)
theorem Only.z8 {F:Nat->Prop} {w w':World} {row:Option Nat} (h:w.grownBy w' row) (hr:∀ j,row=some j->F j\/w.heap.size<=j):Only F w w':=by
 refine⟨h.os,h.tape,h.output,h.size,fun k hk hF=>h.block k hk (fun e=>?_)⟩;rcases hr k e.symm with h1|h1
 ·exact hF h1
 ·omega
theorem Only.trans {F G:Nat->Prop} {a b c:World} (h:Only F a b) (k:Only G b c) (hG:∀ j,G j->F j\/a.heap.size<=j):Only F a c:=by
 obtain⟨h1,h2,h3,h4,h5⟩:=h;obtain⟨k1,k2,k3,k4,k5⟩:=k;refine⟨k1.trans h1,k2.trans h2,k3.trans h3,Nat.le_trans h4 k4,fun j hj hF=>?_⟩;rw[k5 j (by omega) (fun hg=>by rcases hG j hg with x|x;exact hF x;omega),h5 j hj hF]
theorem Only.ext {F:Nat->Prop} {a w w':World} (h:Ext a w) (k:Only F w w') (hF:∀ j,F j->a.heap.size<=j):Ext a w':=by
 obtain⟨k1,k2,k3,k4,k5⟩:=k;refine⟨k1.trans h.os,k2.trans h.tape,k3.trans h.output,Nat.le_trans h.size k4,fun j hj=>?_⟩;rw[k5 j (by have:=h.size;omega) (fun hg=>by have:=hF j hg;omega)];exact h.block j hj
theorem Blk.only {F:Nat->Prop} {w w':World} {b:Nat} {cs:List Value} {t:TypeId} (h:Blk w b cs t) (k:Only F w w') (hb:¬F b):Blk w' b cs t:=(k.2.2.2.2 b h.lt hb).trans h
theorem Owni.only {α:Type} {E:Enc α} {e:TypeId} {F:Nat->Prop} {w w':World} {B:Nat} {A:Option Addr} {n c:Nat} {xs:List α} (h:Owni E e w B A n c xs) (k:Only F w w') (hr:∀ j,orow A=some j->¬F j):Owni E e w' B A n c xs:=by
 refine⟨h.1,?_⟩;rcases h.2 with hn|⟨g,cap,cur,hv,hb,hgg,rest⟩
 ·exact .inl hn
 ·refine .inr ⟨g,cap,cur,hv,hb,?_,rest⟩;have ha:orow A=some g:=by
   injection hv with hv
   rw[hv];rfl
  rw[k.2.2.2.2 g (Array.getElem?_eq_some_iff.1 hgg).1 (hr g ha)];exact hgg
structure Dev where
 size:Int
 blocks:Int
 dur:List ByteArray
 pen:List (Int×ByteArray)
 ops:Int
 fuse:Int
def kW:Enc (Int×ByteArray) where
 k:=2
 f x:=[.int .i64 x.1,.string x.2]
 len _:=rfl
 one _:=by
  intro v hv
  simp only [mem_cons,not_mem_nil,or_false]at hv
  rcases hv with rfl|rfl<;>rfl
 pos:=by decide
structure Dev.Ok (d:Dev):Prop where
 geo:zW d.size d.blocks=true
 len:(d.dur.length:Int)=d.blocks
 each:∀ s∈d.dur,(s.size:Int)=d.size
 pend:∀ p∈d.pen,0<=p.1/\p.1<d.blocks/\(p.2.size:Int)=d.size
 fuse:-1<=d.fuse/\d.fuse<9223372036854775808
def Dev.there (d:Dev) (k:Int):Bool:=decide (0<=k/\k<d.blocks)
def Dev.burnt (d:Dev):Dev:={ d with fuse:=max (-1) (d.fuse-1),ops:=wrap .i64 (d.ops+1) }
def Dev.write (d:Dev) (k:Int) (s:ByteArray):Dev×Int:=
 if ¬(0<=k/\k<d.blocks)\/(s.size:Int)≠d.size then (d,2)
 else if d.fuse=0 then (d,8)
 else ({ d.burnt with pen:=d.pen++[(k,s)] },0)
def put (l:List ByteArray) (p:Int×ByteArray):List ByteArray:=l.set p.1.toNat p.2
def Dev.flush (d:Dev):Dev×Int:=if d.fuse=0 then (d,8) else ({ d.burnt with dur:=d.pen.foldl put d.dur,pen:=[] },0)
def Dev.read (d:Dev) (k:Int):ByteArray×Int:=
 if ¬(0<=k/\k<d.blocks) then (ByteArray.empty,2)
 else ((d.pen.foldl put d.dur).getD k.toNat ByteArray.empty,0)
structure xd (w:World) (b:Nat) (d:Dev) (F:Nat->Prop):Prop where
 mem:∃ (Ad Ap:Option Addr) (nd cd np cp:Nat) (t:TypeId),Blk w b [.int .i64 d.size,.int .i64 d.blocks,.slice Ad nd cd,.slice Ap np cp,.int .i64 d.ops,.int .i64 d.fuse] t
  /\ Owni xE 9 w 0 Ad nd cd d.dur/\Owni kW 230 w 0 Ap np cp d.pen/\(∀ k,F k↔k=b\/orow Ad=some k\/orow Ap=some k)/\orow Ad≠some b/\orow Ap≠some b/\(∀ j,orow Ad=some j->orow Ap≠some j)
 ok:d.Ok
theorem xd.lt {w:World} {b:Nat} {d:Dev} {F:Nat->Prop} (h:xd w b d F):∀ k,F k->k<w.heap.size:=by
 obtain⟨Ad,Ap,nd,cd,np,cp,t,hb,hd,hp,hF,_⟩:=h.mem;intro k hk;rcases (hF k).1 hk with rfl|h|h
 ·exact hb.lt
 ·exact hd.yc k h
 ·exact hp.yc k h
theorem xd.apart {w w':World} {b:Nat} {d:Dev} {F G:Nat->Prop} (h:xd w b d F) (k:Only G w w') (hFG:∀ j,F j->¬G j):xd w' b d F:=by
 refine⟨?_,h.ok⟩;obtain⟨Ad,Ap,nd,cd,np,cp,t,hb,hd,hp,hF,h1,h2,h3⟩:=h.mem;exact⟨Ad,Ap,nd,cd,np,cp,t,hb.only k (hFG b ((hF b).2 (.inl rfl))),hd.only k (fun j hj=>hFG j ((hF j).2 (.inr (.inl hj)))),hp.only k (fun j hj=>hFG j ((hF j).2 (.inr (.inr hj)))),hF,h1,h2,h3⟩
end V
/- Contracts of the library at this dump:written by the kit's own tools (lay-shelf,lay-plain),pruned to what is used. -/
namespace Go.Proofs
open Go.Shelf
def Tryz.lays169_ren:Go.Shelf.Ren:=⟨fun|169=>129|n=>n,fun|70=>202|9=>9|0=>0|72=>204|37=>85|127=>259|3=>3|5=>5|n=>n,fun|n=>n⟩
theorem Tryz.lays169:Go.Proofs.Lays.n169 prog Tryz.lays169_ren:={
 mixed:=by kernel_rfl
 f169:=Tryz.func129.trans (congrArg some (by kernel_rfl))
 t0:=Tryz.underlying0
 a0:=Tryz.isAgg0
 z0:=Tryz.sizeOf0
 v0:=Tryz.zeroValue0
 t3:=Tryz.underlying3
 a3:=Tryz.isAgg3
 z3:=Tryz.sizeOf3
 v3:=Tryz.zeroValue3
 t9:=Tryz.underlying9
 a9:=Tryz.isAgg9
 z9:=Tryz.sizeOf9
 v9:=Tryz.zeroValue9
 t37:=Tryz.underlying85
 a37:=Tryz.isAgg85
 z37:=Tryz.sizeOf85
 v37:=Tryz.zeroValue85
 t70:=Tryz.underlying202
 a70:=Tryz.isAgg202
 z70:=Tryz.sizeOf202
 v70:=Tryz.zeroValue202
 t72:=Tryz.underlying204
 a72:=Tryz.isAgg204
 z72:=Tryz.sizeOf204
 v72:=Tryz.zeroValue204
 t127:=Tryz.underlying259
 a127:=Tryz.isAgg259
 z127:=Tryz.sizeOf259
 v127:=Tryz.zeroValue259 }
theorem Tryz.Builder_Extra_169:Builder.Extra prog Tryz.lays169_ren:={
 sizeBuilder:=by kernel_rfl
 liesBuilder:=by kernel_rfl
 t5:=Tryz.underlying5
 a5:=Tryz.isAgg5
 z5:=Tryz.sizeOf5
 v5:=Tryz.zeroValue5
 infoByte:=by kernel_rfl
 cellsByte:=by kernel_rfl
 sizeByte:=by kernel_rfl
 neB5:=by decide }
open Go.RowKit in
open Go.RowKit in
theorem Tryz.Builder_String_any_k (B b:Nat) (l:List UInt8) (w:World) (h:Lib.IsBuilderF 204 5 B b (Lib.byteCells l) w) (hBw:B<=w.heap.size):
  Calls prog 129 #[.pointer (some ⟨b,0,none⟩)] w fun e w'=>e=.returned (.string ⟨l.toArray⟩)/\(Lib.IsBuilderF 204 5 B b (Lib.byteCells l) w'/\Below B w w'/\Lib.OthersKept 5 (some b) w w'):=Any.Builder_String_any_k Tryz.lays169 Tryz.Builder_Extra_169 B b l w h hBw
def Tryz.lays212_ren:Go.Shelf.Ren:=⟨fun|212=>158|263=>197|264=>198|n=>n,fun|46=>180|51=>41|146=>282|53=>42|148=>284|n=>n,fun|n=>n⟩
theorem Tryz.lays212:Go.Proofs.Lays.n212 prog Tryz.lays212_ren:={
 mixed:=by kernel_rfl
 f212:=Tryz.func158.trans (congrArg some (by kernel_rfl))
 f263:=Tryz.func197.trans (congrArg some (by kernel_rfl))
 f264:=Tryz.func198.trans (congrArg some (by kernel_rfl))
 t46:=Tryz.underlying180
 a46:=Tryz.isAgg180
 z46:=Tryz.sizeOf180
 v46:=Tryz.zeroValue180
 t51:=Tryz.underlying41
 a51:=Tryz.isAgg41
 z51:=Tryz.sizeOf41
 v51:=Tryz.zeroValue41
 t53:=Tryz.underlying42
 a53:=Tryz.isAgg42
 z53:=Tryz.sizeOf42
 v53:=Tryz.zeroValue42
 t146:=Tryz.underlying282
 a146:=Tryz.isAgg282
 z146:=Tryz.sizeOf282
 v146:=Tryz.zeroValue282
 t148:=Tryz.underlying284
 a148:=Tryz.isAgg284
 z148:=Tryz.sizeOf284
 v148:=Tryz.zeroValue284 }
open Go.RowKit Go.Lib in
theorem Tryz.bits_Mul (x y:Nat) (hx:x<18446744073709551616) (hy:y<18446744073709551616) (w:World):
  Calls prog 158 #[.int .u64 x,.int .u64 y] w fun e w'=>e=.returned (.tuple #[.int .u64 ((x*y / 18446744073709551616:Nat):Int),.int .u64 ((x*y % 18446744073709551616:Nat):Int)])/\w'=w:=Any.bits_Mul Tryz.lays212 x y hx hy w
def Tryz.lays105_ren:Go.Shelf.Ren:=⟨fun|105=>113|212=>158|99=>159|165=>145|166=>128|170=>160|169=>129|263=>197|264=>198|206=>199|240=>171|241=>182|276=>204|277=>212|n=>n,fun|9=>9|3=>3|4=>4|20=>20|0=>0|46=>180|109=>248|5=>5|72=>204|76=>210|51=>41|146=>282|53=>42|148=>284|70=>202|37=>85|75=>209|127=>259|164=>290|80=>74|n=>n,fun|n=>n⟩
theorem Tryz.lays105:Go.Proofs.Lays.n105 prog Tryz.lays105_ren:={
 mixed:=by kernel_rfl
 f99:=Tryz.func159.trans (congrArg some (by kernel_rfl))
 f105:=Tryz.func113.trans (congrArg some (by kernel_rfl))
 f165:=Tryz.func145.trans (congrArg some (by kernel_rfl))
 f166:=Tryz.func128.trans (congrArg some (by kernel_rfl))
 f169:=Tryz.func129.trans (congrArg some (by kernel_rfl))
 f170:=Tryz.func160.trans (congrArg some (by kernel_rfl))
 f206:=Tryz.func199.trans (congrArg some (by kernel_rfl))
 f212:=Tryz.func158.trans (congrArg some (by kernel_rfl))
 f240:=Tryz.func171.trans (congrArg some (by kernel_rfl))
 f241:=Tryz.func182.trans (congrArg some (by kernel_rfl))
 f263:=Tryz.func197.trans (congrArg some (by kernel_rfl))
 f264:=Tryz.func198.trans (congrArg some (by kernel_rfl))
 f276:=Tryz.func204.trans (congrArg some (by kernel_rfl))
 f277:=Tryz.func212.trans (congrArg some (by kernel_rfl))
 t0:=Tryz.underlying0
 a0:=Tryz.isAgg0
 z0:=Tryz.sizeOf0
 v0:=Tryz.zeroValue0
 t3:=Tryz.underlying3
 a3:=Tryz.isAgg3
 z3:=Tryz.sizeOf3
 v3:=Tryz.zeroValue3
 t4:=Tryz.underlying4
 a4:=Tryz.isAgg4
 z4:=Tryz.sizeOf4
 v4:=Tryz.zeroValue4
 t5:=Tryz.underlying5
 a5:=Tryz.isAgg5
 z5:=Tryz.sizeOf5
 v5:=Tryz.zeroValue5
 t9:=Tryz.underlying9
 a9:=Tryz.isAgg9
 z9:=Tryz.sizeOf9
 v9:=Tryz.zeroValue9
 t20:=Tryz.underlying20
 a20:=Tryz.isAgg20
 z20:=Tryz.sizeOf20
 v20:=Tryz.zeroValue20
 t37:=Tryz.underlying85
 a37:=Tryz.isAgg85
 z37:=Tryz.sizeOf85
 v37:=Tryz.zeroValue85
 t46:=Tryz.underlying180
 a46:=Tryz.isAgg180
 z46:=Tryz.sizeOf180
 v46:=Tryz.zeroValue180
 t51:=Tryz.underlying41
 a51:=Tryz.isAgg41
 z51:=Tryz.sizeOf41
 v51:=Tryz.zeroValue41
 t53:=Tryz.underlying42
 a53:=Tryz.isAgg42
 z53:=Tryz.sizeOf42
 v53:=Tryz.zeroValue42
 t70:=Tryz.underlying202
 a70:=Tryz.isAgg202
 z70:=Tryz.sizeOf202
 v70:=Tryz.zeroValue202
 t72:=Tryz.underlying204
 a72:=Tryz.isAgg204
 z72:=Tryz.sizeOf204
 v72:=Tryz.zeroValue204
 t75:=Tryz.underlying209
 a75:=Tryz.isAgg209
 z75:=Tryz.sizeOf209
 v75:=Tryz.zeroValue209
 t76:=Tryz.underlying210
 a76:=Tryz.isAgg210
 z76:=Tryz.sizeOf210
 v76:=Tryz.zeroValue210
 t109:=Tryz.underlying248
 a109:=Tryz.isAgg248
 z109:=Tryz.sizeOf248
 v109:=Tryz.zeroValue248
 t127:=Tryz.underlying259
 a127:=Tryz.isAgg259
 z127:=Tryz.sizeOf259
 v127:=Tryz.zeroValue259
 t146:=Tryz.underlying282
 a146:=Tryz.isAgg282
 z146:=Tryz.sizeOf282
 v146:=Tryz.zeroValue282
 t148:=Tryz.underlying284
 a148:=Tryz.isAgg284
 z148:=Tryz.sizeOf284
 v148:=Tryz.zeroValue284
 t164:=Tryz.underlying290
 a164:=Tryz.isAgg290
 z164:=Tryz.sizeOf290
 v164:=Tryz.zeroValue290 }
theorem Tryz.Builder_Extra_105:Builder.Extra prog Tryz.lays105_ren:={
 sizeBuilder:=by kernel_rfl
 liesBuilder:=by kernel_rfl
 t5:=Tryz.underlying5
 a5:=Tryz.isAgg5
 z5:=Tryz.sizeOf5
 v5:=Tryz.zeroValue5
 infoByte:=by kernel_rfl
 cellsByte:=by kernel_rfl
 sizeByte:=by kernel_rfl
 neB5:=by decide }
open Go.RowKit Go.Lib in
theorem Tryz.strings_Repeat (s:ByteArray) (c:Nat) (w:World) (hc:c<=9223372036854775807) (hlen:s.size*c<=140737488355328):
  Calls prog 113 #[.string s,.int .i64 c] w fun e w'=>e=.returned (.string ⟨(Lib.repeatL s.data.toList c).toArray⟩)/\Below w.heap.size w w':=Any.strings_Repeat Tryz.lays105 Tryz.Builder_Extra_105 s c w hc hlen
def Tryz.lays166_ren:Go.Shelf.Ren:=⟨fun|166=>128|240=>171|276=>204|n=>n,fun|0=>0|3=>3|4=>4|5=>5|9=>9|20=>20|37=>85|70=>202|72=>204|75=>209|80=>74|164=>290|n=>n,fun|n=>n⟩
theorem Tryz.lays166:Go.Proofs.Lays.n166 prog Tryz.lays166_ren:={
 mixed:=by kernel_rfl
 f166:=Tryz.func128.trans (congrArg some (by kernel_rfl))
 f240:=Tryz.func171.trans (congrArg some (by kernel_rfl))
 f276:=Tryz.func204.trans (congrArg some (by kernel_rfl))
 t0:=by kernel_rfl
 a0:=fun w=>by kernel_rfl
 z0:=fun w=>by kernel_rfl
 v0:=fun w=>by kernel_rfl
 t3:=by kernel_rfl
 a3:=fun w=>by kernel_rfl
 z3:=fun w=>by kernel_rfl
 v3:=fun w=>by kernel_rfl
 t4:=by kernel_rfl
 a4:=fun w=>by kernel_rfl
 z4:=fun w=>by kernel_rfl
 v4:=fun w=>by kernel_rfl
 t9:=by kernel_rfl
 a9:=fun w=>by kernel_rfl
 z9:=fun w=>by kernel_rfl
 v9:=fun w=>by kernel_rfl
 t20:=by kernel_rfl
 a20:=fun w=>by kernel_rfl
 z20:=fun w=>by kernel_rfl
 v20:=fun w=>by kernel_rfl
 t37:=by kernel_rfl
 a37:=fun w=>by kernel_rfl
 z37:=fun w=>by kernel_rfl
 v37:=fun w=>by kernel_rfl
 t70:=by kernel_rfl
 a70:=fun w=>by kernel_rfl
 z70:=fun w=>by kernel_rfl
 v70:=fun w=>by kernel_rfl
 t72:=by kernel_rfl
 a72:=fun w=>by kernel_rfl
 z72:=fun w=>by kernel_rfl
 v72:=fun w=>by kernel_rfl
 t75:=by kernel_rfl
 a75:=fun w=>by kernel_rfl
 z75:=fun w=>by kernel_rfl
 v75:=fun w=>by kernel_rfl
 t164:=by kernel_rfl
 a164:=fun w=>by kernel_rfl
 z164:=fun w=>by kernel_rfl
 v164:=fun w=>by kernel_rfl }
theorem Tryz.Builder_X72_166:Builder.X72 prog Tryz.lays166_ren where
 sizeBuilder:=by kernel_rfl
 liesBuilder:=by kernel_rfl
theorem Tryz.Builder_Extra_166b:Builder.Extra prog Tryz.lays166_ren where
 toX72:=Tryz.Builder_X72_166
 t5:=by kernel_rfl
 a5:=fun w=>by kernel_rfl
 z5:=fun w=>by kernel_rfl
 v5:=fun w=>by kernel_rfl
 infoByte:=by kernel_rfl
 cellsByte:=by kernel_rfl
 sizeByte:=by kernel_rfl
 neB5:=by decide
open Go.RowKit in
theorem Tryz.Builder_WriteString_k (B b:Nat) (bs:List Value) (s:ByteArray) (w:World) (h:Lib.IsBuilderF 204 5 B b bs w) (hlen:bs.length+s.size<=140737488355328) (hBw:B<=w.heap.size):
  Calls prog 128 #[.pointer (some ⟨b,0,none⟩),.string s] w fun e w'=>e=.returned (.tuple #[.int .i64 s.size,.nilIface])/\(Lib.BuilderAtF 204 5 B b (.pointer (some ⟨b,0,none⟩)) (bs++Lib.strCells s) w'/\Below B w w'/\Lib.OthersKept 5 (some b) w w'):=Any.Builder_WriteString_k Tryz.lays166 Tryz.Builder_Extra_166b B b bs s w h hlen hBw
end Go.Proofs
/- Contracts of octet.Reader. -/
namespace V
open Go Go.Proofs Go.RowKit
theorem yH (w:World) (b o:Nat) (v:Value):w.grownBy (w.setCell ⟨b,o,none⟩ v) (some b):=by
 refine⟨rfl,rfl,rfl,by simp,fun k hk hne=>Below.heap_setCell _ _ _ _ ?_⟩;intro e;exact hne (by rw[e])
def Rdr (w:World) (lo b:Nat) (bs:List UInt8):Prop:=∃ (A:Option Addr) (n c:Nat) (t:TypeId),Blk w b [.slice A n c] t/\Sl w A n (bV bs)/\n<=c/\(∀ a,A=some a->lo<=a.block/\a.block<b)/\lo<=b
theorem Rdr.lt {w:World} {lo b:Nat} {bs:List UInt8} (h:Rdr w lo b bs):b<w.heap.size:=by
 obtain⟨A,n,c,t,hb,_⟩:=h;exact hb.lt
theorem Rdr.ext {w w':World} {lo b:Nat} {bs:List UInt8} (h:Rdr w lo b bs) (he:Ext w w'):Rdr w' lo b bs:=by
 obtain⟨A,n,c,t,hb,hs,hc,ha,hlo⟩:=h;exact⟨A,n,c,t,hb.ext he,hs.ext he,hc,ha,hlo⟩
theorem Rdr.grown {w w':World} {lo b:Nat} {bs:List UInt8} {row:Option Nat} (h:Rdr w lo b bs) (hg:w.grownBy w' row) (hr:∀ j,row=some j->j<lo\/b<j):Rdr w' lo b bs:=by
 obtain⟨A,n,c,t,hb,hs,hc,ha,hlo⟩:=h;refine⟨A,n,c,t,hb.grown hg ?_,hs.grown hg ?_,hc,ha,hlo⟩
 ·intro e;have:=hr b e.symm;omega
 ·intro a e e2;have:=hr a.block e2.symm;have:=ha a e;omega
def rd (bs:List UInt8) (k:Nat):Nat×Int×List UInt8:=if bs.length<k then (0,7,bs) else (lev (bs.take k),0,bs.drop k)
theorem zi2 {w:World} {A:Option Addr} {n c:Nat} {bs:List UInt8} (h:Sl w A n (bV bs)) (hn:n<=140737488355328):
  Calls prog 175 #[.slice A n c] w (Ret fun v w'=>∃ b,v=.pointer (some ⟨b,0,none⟩)/\w.heap.size<=b/\Rdr w' w.heap.size b bs/\Ext w w'):=by
 apply zlX;unfold S175;refine zb (zcV h hn) ?_;rintro _ w1 ⟨⟨A1,n1,c1⟩,rfl,ho1,he1⟩;refine⟨(A1,n1,c1),rfl,?_⟩;refine zr fun r2 w2 hb2 he2 hr2 _=>?_;have hsz:=he1.size;refine⟨r2,rfl,by omega,⟨A1,n1,c1,_,hb2,(ho1.ext he2).sl,ho1.le.1,fun a ha=>?_,by omega⟩,he1.trans he2⟩;have hge:=ho1.row a.block (by rw[xu];dsimp only;subst ha;rfl);have hlt:=(zla ho1 (k:=a.block) (by rw[xu];dsimp only;subst ha;rfl)).2;omega
theorem zcW {w:World} {lo b k:Nat} {bs:List UInt8} (h:Rdr w lo b bs) (hk:k<=1000000):
  Calls prog 210 #[.pointer (some ⟨b,0,none⟩),.int .i64 (k:Int)] w (Ret fun v w'=>∃ A n c,v=.tuple #[.slice A n c,.int .i64 (rd bs k).2.1]/\Sl w' A n (bV (if bs.length<k then [] else bs.take k))/\Rdr w' lo b (rd bs k).2.2/\w.grownBy w' (some b)):=by
 obtain⟨A,n,c,t,hb,hs,hc,ha,hlo⟩:=h;have hl:=hs.blen;apply zmd;unfold S210 rd;refine zs (zF (A,n,c) hb (by rfl) ?_);refine zg (fun hq=>?_) (fun hq=>?_)
 ·have hq:(n:Int)<(k:Int):=of_decide_eq_true hq;rw[if_pos (by omega),if_pos (by omega)];exact⟨none,0,0,rfl,Sl.nil w none,⟨A,n,c,t,hb,hs,hc,ha,hlo⟩,xD _ _⟩
 have hq:¬(n:Int)<(k:Int):=of_decide_eq_false hq;rw[if_neg (by omega),if_neg (by omega)];refine zs (zF (A,n,c) hb (by rfl) (zK ⟨by omega,by omega,by dsimp only;omega⟩ ?_));refine zs (zF (A,n,c) hb (by rfl) (zK ⟨by omega,by dsimp only;omega⟩ ?_));dsimp only;rw[Int.toNat_natCast];refine zs (zS hb (by simp) ?_);have hg:=yH w b 0 (.slice (zm A k c 1) (n-k) (c-k));have hb':=hb.set 0 (.slice (zm A k c 1) (n-k) (c-k));have keep:∀ {A':Option Addr} {n':Nat} {bs':List UInt8},Sl w A' n' (bV bs')->(∀ a,A'=some a->lo<=a.block/\a.block<b)->Sl (w.setCell ⟨b,0,none⟩ (.slice (zm A k c 1) (n-k) (c-k))) A' n' (bV bs'):=fun hs ha=>hs.grown hg (fun a e e2=>by injection e2 with e2;have:=ha a e;omega);have cut:∀ (l m:Nat) (a:Addr),zm A l m 1=some a->lo<=a.block/\a.block<b:=by
  intro l m a e;unfold zm at e;cases A with
  |none=>revert e;split<;>simp
  |some a0=>
   have:=ha a0 rfl
   revert e
   split
   ·intro e;first|(injection e with e;subst e;exact this)|cases e
   ·intro e;simp only [Option.map_some,Option.some.injEq]at e;subst e;unfold Addr.add;split<;>exact this
 refine⟨zm A 0 k 1,k,k,rfl,?_,⟨zm A k c 1,n-k,c-k,t,hb',?_,by omega,cut k c,hlo⟩,hg⟩
 ·refine keep ?_ (cut 0 k);have:=hs.zeM (k:=k) (m:=k) (by omega) (by omega);rw[qZ]at this;exact this
 ·refine keep ?_ (cut k c);have:=hs.cut (l:=k) (k:=n-k) (m:=c) (by omega) (by omega);rw[vp,qZ,take_of_length_le (by rw[length_drop];omega)]at this;exact this
theorem zb1 {w:World} {lo b k:Nat} {bs:List UInt8} (h:Rdr w lo b bs) (hk1:1<=k) (hk:k<=8):
  Calls prog 176 #[.pointer (some ⟨b,0,none⟩),.int .i64 (k:Int)] w (Ret fun v w'=>v=.tuple #[.int .u64 ((rd bs k).1:Int),.int .i64 (rd bs k).2.1]/\Rdr w' lo b (rd bs k).2.2/\w.grownBy w' (some b)):=by
 apply zlY;unfold S176;refine zd (by rfl) (zd (decide_eq_false (by omega)) (zd (decide_eq_false (by omega)) ?_));refine zb (zcW h (by omega)) ?_;rintro _ w1 ⟨A,n,c,rfl,hs,hr,hg⟩;refine⟨((A,n,c),(rd bs k).2.1,()),rfl,?_⟩;have hl:=hs.blen;have hn:n<=8:=by
  split at hl
  ·simp only [length_nil]at hl;omega
  ·rw[length_take]at hl;omega
 refine zb (qP hs hn) ?_;rintro _ w2 ⟨rfl,he2⟩;refine⟨_,rfl,⟨?_,hr.ext he2,xb hg (xO he2 none) (fun j hj=>by cases hj)⟩⟩;dsimp only;unfold rd;split<;>rfl
end V
/- Contracts of the package device. -/
namespace V
open Go Go.Proofs Go.RowKit Crc
def Step (w:World) (b:Nat) (F:Nat->Prop) (d':Dev) (w':World):Prop:=∃ F':Nat->Prop,xd w' b d' F'/\(∀ k,F' k->F k\/w.heap.size<=k)/\Only F w w'
theorem zcX {w:World} {b:Nat} {d:Dev} {F:Nat->Prop} (h:xd w b d F) (k:Int):
  Calls prog 162 #[.pointer (some ⟨b,0,none⟩),.int .i64 k] w (Ret fun v w'=>v=.bool (d.there k)/\w'=w):=by
 obtain⟨Ad,Ap,nd,cd,np,cp,t,hb,hd,hp,hF,h1,h2,h3⟩:=h.mem;apply zlL;unfold S162 Dev.there;refine zg (fun hz=>?_) (fun hz=>?_)
 ·have hz:=of_decide_eq_true hz;refine zs (zn 1 d.blocks hb (by rfl) ⟨?_,rfl⟩);congr 1;exact decide_eq_decide.2 (by omega)
 ·have hz:=of_decide_eq_false hz;refine⟨?_,rfl⟩;congr 1;exact(decide_eq_false (by omega)).symm
theorem xd.put {w:World} {b o:Nat} {d d':Dev} {F:Nat->Prop} {v:Value} (h:xd w b d F) (ho:∀ Ad nd cd Ap np cp,([.int .i64 d.size,.int .i64 d.blocks,.slice Ad nd cd,.slice Ap np cp,.int .i64 d.ops,.int .i64 d.fuse]:List Value).set o v=[.int .i64 d'.size,.int .i64 d'.blocks,.slice Ad nd cd,.slice Ap np cp,.int .i64 d'.ops,.int .i64 d'.fuse])
  (hd':d'.dur=d.dur) (hp':d'.pen=d.pen) (hok:d'.Ok):xd (w.setCell ⟨b,o,none⟩ v) b d' F:=by
 obtain⟨Ad,Ap,nd,cd,np,cp,t,hb,hd,hp,hF,h1,h2,h3⟩:=h.mem;have hg:=yH w b o v;refine⟨⟨Ad,Ap,nd,cd,np,cp,t,?_,?_,?_,hF,h1,h2,h3⟩,hok⟩
 ·rw[<- ho Ad nd cd Ap np cp];exact hb.set o v
 ·rw[hd'];exact hd.grown hg (fun j hj e=>by injection hj with hj;subst hj;exact h1 e)
 ·rw[hp'];exact hp.grown hg (fun j hj e=>by injection hj with hj;subst hj;exact h2 e)
theorem Dev.Ok.burnt {d:Dev} (h:d.Ok):d.burnt.Ok:=by
 refine⟨h.geo,h.len,h.each,h.pend,?_⟩;have:=h.fuse;show -1<=max (-1) (d.fuse-1)/\max (-1) (d.fuse-1)<9223372036854775808;omega
theorem zd7 {w:World} {b:Nat} {d:Dev} {F:Nat->Prop} (h:xd w b d F):
  Calls prog 163 #[.pointer (some ⟨b,0,none⟩)] w (Ret fun v w'=>(d.fuse=0/\v=.bool false/\w'=w)\/(d.fuse≠0/\v=.bool true/\xd w' b d.burnt F/\w.grownBy w' (some b))):=by
 obtain⟨Ad,Ap,nd,cd,np,cp,t,hb,hd,hp,hF,h1,h2,h3⟩:=h.mem;have hf:=h.ok.fuse;apply zlM;unfold S163;refine zs (zn 5 d.fuse hb (by rfl) (zg (fun hz=>.inl ⟨beq_iff_eq.1 hz,rfl,rfl⟩) (fun hz=>?_)));have hz:=beq_eq_false_iff_ne.1 hz;have ef:(if wrap .i64 (d.fuse-1) > -1 then wrap .i64 (d.fuse-1) else -1)=max (-1) (d.fuse-1):=by
  rw[wrap_i64 (by omega) (by omega)];split<;>omega
 refine zs (zn 5 d.fuse hb (by rfl) ?_);rw[ef];refine zs ?_;rw[zy];refine zS hb (by show 0+5<6;omega) ?_;have hg1:=yH w b (0+5) (.int .i64 (max (-1) (d.fuse-1)));have hD:=h.put (d':={ d with fuse:=max (-1) (d.fuse-1) }) (o:=0+5) (v:=.int .i64 (max (-1) (d.fuse-1))) (fun _ _ _ _ _ _=>rfl) rfl rfl ⟨h.ok.geo,h.ok.len,h.ok.each,h.ok.pend,by dsimp only;omega⟩;have hb1:=hb.set (0+5) (.int .i64 (max (-1) (d.fuse-1)));generalize w.setCell ⟨b,0+5,none⟩ (.int .i64 (max (-1) (d.fuse-1)))=w1 at hg1 hD hb1 ⊢;refine zs (zn 4 d.ops hb1 (by rfl) (zs ?_));rw[zy];refine zS hb1 (by show 0+4<6;omega) ?_;have hg2:=yH w1 b (0+4) (.int .i64 (wrap .i64 (d.ops+1)));have hD2:=hD.put (d':=d.burnt) (o:=0+4) (v:=.int .i64 (wrap .i64 (d.ops+1))) (fun _ _ _ _ _ _=>rfl) rfl rfl h.ok.burnt;exact .inr ⟨hz,rfl,hD2,xb hg1 hg2 (fun j hj=>.inl hj)⟩
theorem zi3:jR prog 159 230 (.agg #[.int .i64 0,.string ByteArray.empty]) 2 24:=⟨by kernel_rfl,by kernel_rfl,by kernel_rfl⟩
theorem zap {w:World} {b:Nat} {d:Dev} {F:Nat->Prop} (h:xd w b d F) (k:Int) (s:ByteArray) (hn:d.pen.length<=1000000):
  Calls prog 118 #[.pointer (some ⟨b,0,none⟩),.int .i64 k,.string s] w (Ret fun v w'=>v=.int .i64 (d.write k s).2/\Step w b F (d.write k s).1 w'):=by
 have stay:∀ {w':World},w'=w->Step w b F d w':=fun e=>by subst e;exact⟨F,h,fun k hk=>.inl hk,Only.refl F _⟩
 apply zln;unfold S118 Dev.write;refine zd (by rfl) ?_;refine zb (zcX h k) ?_;rintro _ w1 ⟨rfl,hw⟩;refine⟨_,rfl,?_⟩;subst hw;obtain⟨Ad,Ap,nd,cd,np,cp,t,hb,hd,hp,hF,h1,h2,h3⟩:=h.mem;refine zg (fun hz=>?_) (fun hz=>?_)
 ·have hz:¬(0<=k/\k<d.blocks):=of_decide_eq_false (show d.there k=false by simpa using hz);rw[if_pos (.inl hz)];exact⟨rfl,stay rfl⟩
 have hth:0<=k/\k<d.blocks:=of_decide_eq_true (show d.there k=true by simpa using hz);refine zs (zF d.size hb (by rfl) (zg (fun hz=>?_) (fun hz=>?_)))
 ·rw[if_pos (.inr (bne_iff_ne.1 hz))];exact⟨rfl,stay rfl⟩
 have hsz:=bne_eq_false_iff_eq.1 hz;rw[if_neg (by rintro(x|x);exact x hth;exact x hsz)];refine zb (zd7 h) ?_;rintro _ w2 (⟨hz,rfl,hw⟩|⟨hz,rfl,hD,hg⟩)
 ·refine⟨_,rfl,zf (by rfl) ?_⟩;rw[if_pos hz];exact⟨rfl,stay hw⟩
 refine⟨_,rfl,zd (by rfl) ?_⟩;rw[if_neg hz];obtain⟨Ad,Ap,nd,cd,np,cp,t,hb,hd,hp,hF,h1,h2,h3⟩:=hD.mem;have hlp:=hp.len;have hlp2:d.burnt.pen=d.pen:=rfl;refine zs (zn 3 (Ap,np,cp) hb (by rfl) ?_);refine xa (E:=kW) (ys:=[(k,s)]) (by rfl) rfl zi3 hp (Nat.zero_le _) (by dsimp only;rw[hlp2]at hlp;omega) (by omega) ?_;intro A' c' w3 hp3 hg3;have hb3:=hb.grown hg3.grown (fun e=>h2 e.symm);have hd3:=hd.grown hg3.grown (fun j hj e=>h3 j e hj);refine zs ?_;rw[zy];refine zS hb3 (by show 0+3<6;omega) ?_;have hg4:=yH w3 b (0+3) (.slice A' (np+1) c');have hb4:=hb3.set (0+3) (.slice A' (np+1) c');have hb5:=(hF b).2 (.inl rfl);have hnew:∀ j,orow A'=some j->orow Ap=some j\/w2.heap.size<=j:=hg3.2;have hbl:=hb.lt;have n1:orow A'≠some b:=fun e=>by rcases hnew b e with x|x;exact h2 x;omega
 have n2:∀ j,orow Ad=some j->orow A'≠some j:=fun j hj e=>by
  rcases hnew j e with x|x
  ·exact h3 j hj x
  ·have:=hd.yc j hj;omega
 refine⟨rfl,fun j=>j=b\/orow Ad=some j\/orow A'=some j,⟨⟨Ad,A',nd,cd,np+1,c',t,hb4,hd3.grown hg4 (fun j hj e=>by injection hj with hj;subst hj;exact h1 e),hp3.grown hg4 (fun j hj e=>by injection hj with hj;subst hj;exact n1 e),fun _=>Iff.rfl,h1,n1,n2⟩,?_⟩,?_,?_⟩
 ·refine⟨hD.ok.geo,hD.ok.len,hD.ok.each,fun p hp=>?_,hD.ok.fuse⟩;rcases mem_append.1 hp with hp|hp
  ·exact hD.ok.pend p hp
  ·rw[mem_singleton.1 hp];exact⟨hth.1,hth.2,hsz⟩
 ·rintro j (rfl|hj|hj)
  ·exact .inl hb5
  ·exact .inl ((hF j).2 (.inr (.inl hj)))
  ·rcases hnew j hj with x|x
   ·exact .inl ((hF j).2 (.inr (.inr x)))
   ·exact .inr (Nat.le_trans hg.size x)
 ·refine Only.trans (Only.trans (Only.z8 hg (fun j hj=>by injection hj with hj;subst hj;exact .inl hb5)) (Only.z8 (F:=F) hg3.grown (fun j hj=>.inl ((hF j).2 (.inr (.inr hj))))) (fun j hj=>.inl hj)) (Only.z8 (F:=F) hg4 (fun j hj=>by injection hj with hj;subst hj;exact .inl hb5)) (fun j hj=>.inl hj)
theorem qi (l:List ByteArray):xE.flat l=l.map Value.string:=by
 induction l with
 |nil=>rfl
 |cons a r ih=>rw[map_cons,<- ih];rfl
theorem zmo {w:World} {e:TypeId} {B:Nat} {A:Option Addr} {n c:Nat} {xs:List ByteArray} {i:Int} {s:ByteArray} {K:WP} (h:Owni xE e w B A n c xs) (h0:0<=i) (h1:i<(n:Int))
  (hK:∀ w',Owni xE e w' B A n c (xs.set i.toNat s)->w.grownBy w' (orow A)->K w'):
  (zc (0<=i/\i<((n:Nat):Int))<|zi A fun p=>stW (p.add (Int.toNat i*1)) (.string s) K) w:=by
 refine zih (e:=e) (B:=B) (c:=c) (vs:=xE.flat xs) h h0 h1 fun w' ho hg=>hK w' ?_ (by rw[xu]at hg;exact hg);have e1:(xE.flat xs).set i.toNat (.string s)=xE.flat (xs.set i.toNat s):=by rw[qi,qi,List.map_set]
 rw[e1]at ho;exact ho
theorem uF (l:List (Int×ByteArray)):∀ dur:List ByteArray,(l.foldl Go.Proofs.YtplgodmmmppmeaaGreat.V.put dur).length=dur.length:=by
 induction l with
 |nil=>intro dur;rfl
 |cons p r ih=>intro dur;rw[foldl_cons,ih];simp[Go.Proofs.YtplgodmmmppmeaaGreat.V.put]
theorem zb2 {n:Int} (l:List (Int×ByteArray)):∀ dur:List ByteArray,(∀ s∈dur,(s.size:Int)=n)->(∀ p∈l,(p.2.size:Int)=n)->∀ s∈l.foldl Go.Proofs.YtplgodmmmppmeaaGreat.V.put dur,(s.size:Int)=n:=by
 induction l with
 |nil=>intro dur h _;exact h
 |cons p r ih=>
  intro dur h hl;rw[foldl_cons];refine ih _ (fun s hs=>?_) (fun q hq=>hl q (mem_cons_of_mem _ hq));rcases List.mem_or_eq_of_mem_set hs with hs|rfl
  ·exact h s hs
  ·exact hl p mem_cons_self
theorem zcY {w:World} {b:Nat} {d:Dev} {F:Nat->Prop} (h:xd w b d F):
  Calls prog 142 #[.pointer (some ⟨b,0,none⟩)] w (Ret fun v w'=>v=.int .i64 d.flush.2/\Step w b F d.flush.1 w'):=by
 have stay:∀ {w':World},w'=w->Step w b F d w':=fun e=>by subst e;exact⟨F,h,fun k hk=>.inl hk,Only.refl F _⟩
 apply zlD;unfold S142 Dev.flush;refine zd (by rfl) ?_;refine zb (zd7 h) ?_;rintro _ w2 (⟨hz,rfl,hw⟩|⟨hz,rfl,hD,hg⟩)
 ·refine⟨_,rfl,zf (by rfl) ?_⟩;rw[if_pos hz];exact⟨rfl,stay hw⟩
 refine⟨_,rfl,zd (by rfl) ?_⟩;rw[if_neg hz];obtain⟨Ad,Ap,nd,cd,np,cp,t,hb,hd,hp,hF,h1,h2,h3⟩:=hD.mem;have hlp:d.pen.length=np:=hp.len;have hld:d.dur.length=nd:=hd.len;have hpl:=hp.sl.le;have hok:=h.ok;refine zs (zn 3 (Ap,np,cp) hb (by rfl) ?_);refine zz (fun y w'=>∃ i:Nat,i<=np/\y=((i:Int),())/\Only F w2 w'/\Blk w' b [.int .i64 d.size,.int .i64 d.blocks,.slice Ad nd cd,.slice Ap np cp,.int .i64 d.burnt.ops,.int .i64 d.burnt.fuse] t
   /\ Owni xE 9 w' 0 Ad nd cd ((d.pen.take i).foldl Go.Proofs.YtplgodmmmppmeaaGreat.V.put d.dur)/\Owni kW 230 w' 0 Ap np cp d.pen) (fun y=>(np-y.1).toNat) ⟨0,by omega,rfl,Only.refl F w2,hb,hd,hp⟩ ?_
 rintro _ w3 ⟨i,hi,rfl,hO,hb,hd,hp⟩;dsimp only
 by_cases hlt:i<np
 ·refine zf (decide_eq_true (by omega)) ?_;refine vE (ls:=[.int .i64,.str]) (fun x:Int×ByteArray=>(x.1,x.2,())) (0,ByteArray.empty) hp.sl (fun _=>rfl) rfl (by omega) (by omega) ?_;rw[Int.toNat_natCast];have e:d.pen[i]?=some (d.pen.getD i (0,ByteArray.empty)):=by rw[getD_eq_getElem?_getD,List.getElem?_eq_getElem (by omega)];rfl
  have hq:=hok.pend _ (mem_of_getElem? e);generalize d.pen.getD i (0,ByteArray.empty)=q at e hq ⊢;have hlen:=hok.len;refine yn (vs:=kW.f q) (by rfl) (kW.one q) ?_ (by rfl);intro r8 w4 hb8 he4 hr8;refine zM fun w5 he5 _ _=>?_;have he35:=he4.trans he5;have hb8:=hb8.ext he5;have hb5:=hb.ext he35;have hd5:=hd.ext he35;refine zs (zn 2 (Ad,nd,cd) hb5 (by rfl) (zF q.1 hb8 (by rfl) (zn 1 q.2 hb8 (by rfl) ?_)));dsimp only;refine zmo hd5 hq.1 (by have:=hq.2.1;omega) ?_;intro w6 hd6 hg6;have hb6:=hb5.grown hg6 (fun e=>h1 e.symm);have hp6:=(hp.ext he35).grown hg6 (fun j hj e=>h3 j hj e);have efold:(d.pen.take (i+1)).foldl Go.Proofs.YtplgodmmmppmeaaGreat.V.put d.dur=Go.Proofs.YtplgodmmmppmeaaGreat.V.put ((d.pen.take i).foldl Go.Proofs.YtplgodmmmppmeaaGreat.V.put d.dur) q:=by
   rw[take_add_one,e,List.foldl_append];rfl
  refine⟨⟨i+1,by omega,by rw[wrap_i64 (by omega) (by omega)];rfl,?_,hb6,by rw[efold];exact hd6,hp6⟩,by rw[wrap_i64 (by omega) (by omega)];omega⟩;exact Only.trans (Only.trans hO (Only.zB (F:=F) he35) (fun j hj=>.inl hj)) (Only.z8 (F:=F) hg6 (fun j hj=>.inl ((hF j).2 (.inr (.inl hj))))) (fun j hj=>.inl hj)
 ·obtain rfl:i=np:=by omega
  refine zd (decide_eq_false (by omega)) (zs ?_);rw[zy];refine zS hb (by show 0+3<6;omega) ?_;have hg7:=yH w3 b (0+3) (.slice none 0 0);have hb7:=hb.set (0+3) (.slice none 0 0);rw[take_of_length_le (by omega)]at hd;have hbF:=(hF b).2 (.inl rfl);refine⟨rfl,fun j=>j=b\/orow Ad=some j\/orow none=some j,⟨⟨Ad,none,nd,cd,0,0,t,hb7,hd.grown hg7 (fun j hj e=>by injection hj with hj;subst hj;exact h1 e),Owni.nil _ _ _,fun _=>Iff.rfl,h1,(fun e=>by cases e),(fun j hj e=>by cases e)⟩,?_⟩,?_,?_⟩
  ·exact⟨hok.geo,by show(((d.pen.foldl Go.Proofs.YtplgodmmmppmeaaGreat.V.put d.dur).length:Nat):Int)=d.blocks;rw[uF];exact hok.len,zb2 _ _ hok.each (fun p hp=>(hok.pend p hp).2.2),(fun p hp=>by cases hp),hD.ok.fuse⟩
  ·rintro j (rfl|hj|hj)
   ·exact .inl hbF
   ·exact .inl ((hF j).2 (.inr (.inl hj)))
   ·cases hj
  ·exact Only.trans (Only.trans (Only.z8 (F:=F) hg (fun j hj=>by injection hj with hj;subst hj;exact .inl hbF)) hO (fun j hj=>.inl hj)) (Only.z8 (F:=F) hg7 (fun j hj=>by injection hj with hj;subst hj;exact .inl hbF)) (fun j hj=>.inl hj)
end V
/- Ranges over functions that may be left early;iterators with a state of their own;what loops over functions leave as it was. -/
namespace V
open Go
def zm4 (P:Program) (v:Value) (L:List (List Value)) (R:Nat->WP) (T:Nat->World->World):Prop:=
 ∃ f cap,v=.func (.func f) #[] cap/\enterable P f=true/\∀ (l:Nat) (J:Nat->WP) (E:WP) (w:World),J 0 w->(∀ i w',J i w'->R i w')->(∀ i w',J i w'->J i w'.drew)->
  (∀ i w' (h:i<L.length),J i w'->jo P l L[i] w' fun v w''=>(v=.bool true/\R i w''/\J (i+1) (T i w''))\/(v=.bool false/\E w''))->
  Calls P f (.func (.yield l) #[] #[]::cap.toList).toArray w (Ret fun _ w'=>J L.length w'\/E w')
theorem zmp {P:Program} {v:Value} {T:Type} {vals:T->List Value} {Body:T->(WP->WP)->WP->(Code->WP)->WP} {done:Nat->Option Code->WP} {w:World} {L:List (List Value)} {R:Nat->WP} {Tr:Nat->World->World} (I:Nat->WP) (D:Code->WP) (tv:Nat->T) (htv:∀ i (hi:i<L.length),vals (tv i)=L[i])
  (hit:zm4 P v L R Tr) (hR:∀ i w',I i w'->R i w') (hdr:∀ i w',I i w'->I i w'.drew)
  (hst:∀ i w' w'',yR w.heap.size (w.heap.size+1) w' w''->I i w'->I i w'')
  (hRst:∀ i w' w'',yR w.heap.size (w.heap.size+1) w' w''->R i w'->R i w'')
  (hDst:∀ c w' w'',yR w.heap.size (w.heap.size+1) w' w''->D c w'->D c w'')
  (hT:∀ i w' w'',yR w.heap.size (w.heap.size+1) w' w''->yR w.heap.size (w.heap.size+1) (Tr i w') (Tr i w''))
  (hTk:∀ i w' (k:Nat),w.heap.size<=k->(Tr i w').heap[k]?=w'.heap[k]?)
  (h0:∀ o,I 0 ((w.alloc (.deferred (some []))).alloc o))
  (hbody:∀ (i:Nat) (hi:i<L.length) (w':World) (G:WP->WP) (N:WP) (jump:Code->WP),I i w'->w.heap.size+2<=w'.heap.size->
   (∀ (K:WP) w1,I i w1->w'.heap.size<=w1.heap.size->(∀ k,k=w.heap.size\/k=w.heap.size+1->w1.heap[k]?=w'.heap[k]?)->(∀ w2,I i w2->w1.heap.size=w2.heap.size->(∀ k:Nat,k≠w.heap.size->k≠w.heap.size+1->w2.heap[k]?=w1.heap[k]?)->
    (∀ w'',R i w''/\I (i+1) (Tr i w'')->w2.heap.size<=w''.heap.size->(∀ k,k=w.heap.size\/k=w.heap.size+1->w''.heap[k]?=w2.heap[k]?)->N w'')->
    (∀ c w'',D c w''->w2.heap.size<=w''.heap.size->(∀ k,k=w.heap.size\/k=w.heap.size+1->w''.heap[k]?=w2.heap[k]?)->jump c w'')->K w2)->G K w1)->
   Body (tv i) G N jump w')
  (hdone:∀ w',I L.length w'->w.heap.size+2<=w'.heap.size->w'.heap[w.heap.size]?=some (.deferred (some []))->done w.heap.size none w')
  (hjump:∀ c w',D c w'->w.heap.size+2<=w'.heap.size->w'.heap[w.heap.size]?=some (.deferred (some []))->done w.heap.size (some c) w'):
  jm P v T vals Body done w:=by
 obtain⟨f,cap,rfl,hen,hcalls⟩:=hit;refine⟨f,cap,rfl,hen,fun rec hrec hY=>?_⟩;have hlt:∀ {w':World} {o:Obj},w'.heap[w.heap.size+1]?=some o->w.heap.size+1<w'.heap.size:=fun h=>(Array.getElem?_eq_some_iff.1 h).1;refine Calls.mono (hcalls (w.heap.size+1) (fun i w'=>I i w'/\w'.heap[w.heap.size+1]?=some (rec .ready none)/\w'.heap[w.heap.size]?=some (.deferred (some [])))
  (fun w'=>∃ c,D c w'/\w'.heap[w.heap.size+1]?=some (rec .done (some c))/\w'.heap[w.heap.size]?=some (.deferred (some []))) _ ⟨h0 _,?_,?_⟩ (fun i w' h=>hR i w' h.1) (fun i w' h=>⟨hdr i w' h.1,h.2.1,h.2.2⟩) ?_) ?_
 ·show((w.heap.push _).push _)[w.heap.size+1]?=_;rw[Array.getElem?_push];simp
 ·show((w.heap.push _).push _)[w.heap.size]?=_;rw[Array.getElem?_push,Array.getElem?_push];simp
 ·rintro i w' hi ⟨hI,hl,hd⟩
  let Q:Bool->WP:=fun b w''=>(b=true/\R i w''/\I (i+1) (Tr i w'')/\w''.heap[w.heap.size+1]?=some (rec .ready none)/\w''.heap[w.heap.size]?=some (.deferred (some [])))
   \/ (b=false/\∃ c,D c w''/\w''.heap[w.heap.size+1]?=some (rec .done (some c))/\w''.heap[w.heap.size]?=some (.deferred (some [])))
  have hb:=hbody i hi w' (fun K w1=>w1.heap[w.heap.size+1]?=some (rec .ready none)/\K (yy w1 (w.heap.size+1) (rec .busy none)))
   (fun w2=>w2.heap[w.heap.size+1]?=some (rec .busy none)/\Q true (yy w2 (w.heap.size+1) (rec .ready none)))
   (fun c w2=>w2.heap[w.heap.size+1]?=some (rec .busy none)/\Q false (yy w2 (w.heap.size+1) (rec .done (some c)))) hI (by have:=hlt hl;omega)
   (fun K w1 hI1 hs1 hk1 hG=>by
    have hl1:=hk1 (w.heap.size+1) (.inr rfl)
    rw[hl]at hl1
    have hd1:=hk1 w.heap.size (.inl rfl)
    rw[hd]at hd1
    refine⟨hl1,hG _ (hst i w1 _ (zX (o:=rec .busy none) (.inr rfl)) hI1) (by rw[xv]) (fun k h1 h2=>zO (fun e=>h2 e.symm)) ?_ ?_⟩
    ·intro w'' hI3 hs hk
     have h1:=hk (w.heap.size+1) (.inr rfl)
     rw[xK (hlt hl1)]at h1
     have h2:=hk w.heap.size (.inl rfl)
     rw[zO (by omega),hd1]at h2
     refine⟨h1,.inl ⟨rfl,hRst _ _ _ (zX (.inr rfl)) hI3.1,hst _ _ _ (hT i _ _ (zX (.inr rfl))) hI3.2,xK (hlt h1),?_⟩⟩
     rw[zO (by omega)];exact h2
    ·intro c w'' hD hs hk
     have h1:=hk (w.heap.size+1) (.inr rfl)
     rw[xK (hlt hl1)]at h1
     have h2:=hk w.heap.size (.inl rfl)
     rw[zO (by omega),hd1]at h2
     refine⟨h1,.inr ⟨rfl,c,hDst _ _ _ (zX (.inr rfl)) hD,xK (hlt h1),?_⟩⟩
     rw[zO (by omega)];exact h2)
  have:=hY (tv i) w' Q hl hb;rw[htv i hi]at this;obtain⟨fn,tmps,asg,bd,h1,h2⟩:=this;refine⟨fn,tmps,asg,bd,h1,RoundIn.mono h2 ?_⟩;rintro(v|c|_) w2 he
  ·obtain⟨b,rfl,⟨rfl,hh1,hh2,hh3,hh4⟩|⟨rfl,hh⟩⟩:=he
   ·exact .inl ⟨rfl,hh1,hh2,by rw[hTk i _ _ (by omega)];exact hh3,by rw[hTk i _ _ (by omega)];exact hh4⟩
   ·exact .inr ⟨rfl,hh⟩
  ·exact he
  ·exact he
 ·rintro(v|c|_) w3 he
  ·rcases he with ⟨hI,hl,hd⟩|⟨c,hD,hl,hd⟩
   ·refine⟨.ready,none,by simp,hl,hdone _ (hst _ _ _ (zX (.inr rfl)) hI) (by rw[xv];have:=hlt hl;omega) ?_⟩;rw[zO (by omega)];exact hd
   ·refine⟨.done,some c,by simp,hl,hjump c _ (hDst _ _ _ (zX (.inr rfl)) hD) (by rw[xv];have:=hlt hl;omega) ?_⟩;rw[zO (by omega)];exact hd
  ·exact he
  ·exact he
def zm5 (P:Program) (v:Value) (L:List (List Value)) (R:WP):Prop:=zm4 P v L (fun _=>R) (fun _ w=>w)
theorem yR.ext {a:Nat} {w0 w w':World} (h:yR a (a+1) w w') (he:Ext w0 w) (ha:w0.heap.size<=a):Ext w0 w':=by
 obtain⟨h1,h2,h3,h4,h5⟩:=h;exact⟨h1.trans he.os,h2.trans he.tape,h3.trans he.output,by have:=he.size;omega,fun k hk=>(h5 k (by omega) (by omega)).trans (he.block k hk)⟩
theorem yR.blk {a r:Nat} {w w':World} {cs:List Value} {t:TypeId} (h:yR a (a+1) w w') (hb:Blk w r cs t) (hr:r<a):Blk w' r cs t:=
 (h.2.2.2.2 r (by omega) (by omega)).trans hb
theorem yR.size {a b:Nat} {w w':World} (h:yR a b w w'):w'.heap.size=w.heap.size:=h.2.2.2.1
theorem Blk.at_ {w w':World} {r:Nat} {cs:List Value} {t:TypeId} (hb:Blk w r cs t) (h:w'.heap[r]?=w.heap[r]?):Blk w' r cs t:=h.trans hb
end V
/- Contracts of the package device:Read,Image,Pending,Geo. -/
namespace V
open Go Go.Proofs Go.RowKit Crc
theorem xd.ext {w w':World} {b:Nat} {d:Dev} {F:Nat->Prop} (h:xd w b d F) (k:Ext w w'):xd w' b d F:=
 h.apart (G:=fun _=>False) (Only.zB k) (fun _ _ h=>h)
abbrev w00:Int×ByteArray:=(0,ByteArray.empty)
def zgz (r1:Nat) (A:Option Addr) (n c:Nat) (ps:List (Int×ByteArray)):WP:=fun w=>Blk w r1 [.slice A n c] 159/\Sli kW w A n ps
def zb3 (ps:List (Int×ByteArray)):List (List Value):=(List.range ps.length).map fun i=>[.int .i64 ((ps.length-1-i:Nat):Int),.agg #[.int .i64 (ps.getD (ps.length-1-i) w00).1,.string (ps.getD (ps.length-1-i) w00).2]]
theorem vH (ps:List (Int×ByteArray)):(zb3 ps).length=ps.length:=by simp[zb3]
theorem zgA {w:World} {A:Option Addr} {n c:Nat} {ps:List (Int×ByteArray)} (h:Sli kW w A n ps):
  Calls prog 208 #[.slice A n c] w (Ret fun v w'=>zm5 prog v (zb3 ps) (zgz w.heap.size A n c ps)/\zgz w.heap.size A n c ps w'/\w'.heap.size=w.heap.size+1/\Ext w w'):=by
 apply zmb;unfold S208;apply yG;have he:=(Ext.refl w).alloc (.cells #[.slice A n c] 159);refine⟨⟨_,_,rfl,by kernel_rfl,fun l J E w' hJ hR hd hY=>?_⟩,⟨Blk.new w #[.slice A n c] 159,h.ext he⟩,by simp,he⟩;apply zmi;unfold S219;rw[vH];obtain⟨h1,h2⟩:=hR 0 w' hJ;have hl:=h2.len;have hle:=h2.le;refine zo (x:=(A,n,c)) h1 (by rfl) ?_;dsimp only;rw[wrap_i64 (by omega) (by omega)];refine zz (fun y w'=>∃ i:Nat,i<=n/\y=((n:Int)-1-i,())/\J i w') (fun y=>(y.1+1).toNat) ⟨0,by omega,by simp,hJ⟩ ?_;rintro _ w1 ⟨i,hi,rfl,hJ⟩;dsimp only
 by_cases hlt:i<n
 ·refine zf (decide_eq_true (by omega)) ?_;obtain⟨h1,h2⟩:=hR i w1 hJ;refine zo (x:=(A,n,c)) h1 (by rfl) ?_;dsimp only;refine vE (ls:=[.int .i64,.str]) (fun x:Int×ByteArray=>(x.1,x.2,())) w00 h2 (fun _=>rfl) rfl (by omega) (by omega) ?_;have hlt':i<(zb3 ps).length:=by rw[vH];omega
  refine .inr ⟨l,rfl,?_⟩;have hy:=hY i w1 hlt' hJ;have el:(zb3 ps)[i]=[.int .i64 ((n:Int)-1-i),.agg #[.int .i64 (ps.getD (Int.toNat ((n:Int)-1-i)) w00).1,.string (ps.getD (Int.toNat ((n:Int)-1-i)) w00).2]]:=by
   have e1:((ps.length-1-i:Nat):Int)=(n:Int)-1-i:=by omega
   have e2:Int.toNat ((n:Int)-1-i)=ps.length-1-i:=by omega
   rw[e2,<- e1];simp[zb3]
  rw[el]at hy;obtain⟨fn,tmps,asg,bd,hy1,hy2⟩:=hy;refine⟨fn,tmps,asg,bd,hy1,RoundIn.mono hy2 ?_⟩;rintro(v|x|_) w2 hv
  ·rcases hv with ⟨rfl,_,hJ2⟩|⟨rfl,hE⟩
   ·refine⟨true,rfl,zd (by rfl) ?_⟩;rw[wrap_i64 (by omega) (by omega)];exact⟨⟨i+1,by omega,by congr 1;omega,hJ2⟩,by omega⟩
   ·exact⟨false,rfl,zf (by rfl) (.inr hE)⟩
  ·exact hv
  ·exact hv
 ·refine zd (decide_eq_false (by omega)) ?_;obtain rfl:i=n:=by omega
  rw[hl];exact .inl hJ
theorem zgB {w:World} {b:Nat} {d:Dev} {F:Nat->Prop} (h:xd w b d F):
  Calls prog 173 #[.pointer (some ⟨b,0,none⟩)] w (Ret fun v w'=>∃ A n c,zm5 prog v (zb3 d.pen) (zgz w.heap.size A n c d.pen)/\zgz w.heap.size A n c d.pen w'/\w'.heap.size=w.heap.size+1/\Ext w w'):=by
 obtain⟨Ad,Ap,nd,cd,np,cp,t,hb,hd,hp,hF,h1,h2,h3⟩:=h.mem;apply zlV;unfold S173;refine zs (zn 3 (Ap,np,cp) hb (by rfl) ?_);refine zb (zgA hp.sl) ?_;rintro v w1 hw;exact⟨v,rfl,Ap,np,cp,hw⟩
theorem getD_set (l:List ByteArray) (i k:Nat) (x e:ByteArray):(l.set i x).getD k e=if i=k/\k<l.length then x else l.getD k e:=by
 rw[getD_eq_getElem?_getD,getD_eq_getElem?_getD,List.getElem?_set]
 by_cases hik:i=k
 ·subst hik
  by_cases hk:i<l.length
  ·simp[hk]
  ·simp[hk]
 ·rw[if_neg hik,if_neg (fun h=>hik h.1)]
theorem zb4 {k:Int} (hk:0<=k) {e:ByteArray}:∀ (l:List (Int×ByteArray)) (dur:List ByteArray),(∀ p∈l,0<=p.1)->(∀ p∈l,p.1≠k)->(l.foldl Go.Proofs.YtplgodmmmppmeaaGreat.V.put dur).getD k.toNat e=dur.getD k.toNat e
 |[],_,_,_=>rfl
 |p::r,dur,h0,h=>by
  rw[foldl_cons,zb4 hk r _ (fun q hq=>h0 q (mem_cons_of_mem _ hq)) (fun q hq=>h q (mem_cons_of_mem _ hq))];have h1:=h0 p mem_cons_self;have h2:=h p mem_cons_self;unfold Go.Proofs.YtplgodmmmppmeaaGreat.V.put;rw[getD_set,if_neg (by omega)]
theorem zj9 {k:Int} (hk:0<=k) {e:ByteArray} {l:List (Int×ByteArray)} {dur:List ByteArray} {j:Nat} (h0:∀ p∈l,0<=p.1) (hj:j<l.length) (hkl:k.toNat<dur.length) (he:(l.getD j w00).1=k) (hno:∀ i,j<i->i<l.length->(l.getD i w00).1≠k):
  (l.foldl Go.Proofs.YtplgodmmmppmeaaGreat.V.put dur).getD k.toNat e=(l.getD j w00).2:=by
 have e1:l=l.take j++l.getD j w00::l.drop (j+1):=by
  rw[getD_eq_getElem?_getD,List.getElem?_eq_getElem hj,Option.getD_some,<- List.drop_eq_getElem_cons hj,List.take_append_drop]
 generalize hq:l.getD j w00=q at e1 he ⊢;have hd:∀ p∈l.drop (j+1),p.1≠k:=by
  intro p hp;obtain⟨i,hi,rfl⟩:=List.mem_iff_getElem.1 hp;rw[length_drop]at hi;have:=hno (j+1+i) (by omega) (by omega);rw[getD_eq_getElem?_getD,List.getElem?_eq_getElem (by omega),Option.getD_some]at this
  simpa using this
 rw[e1,List.foldl_append,foldl_cons,zb4 hk _ _ (fun p hp=>h0 p (List.mem_of_mem_drop hp)) hd];unfold Go.Proofs.YtplgodmmmppmeaaGreat.V.put;have hl:=uF (l.take j) dur;unfold Go.Proofs.YtplgodmmmppmeaaGreat.V.put at hl;rw[getD_set,he,if_pos ⟨rfl,by rw[hl];exact hkl⟩]
theorem zi4 {w:World} {b:Nat} {d:Dev} {F:Nat->Prop} (h:xd w b d F) (k:Int):
  Calls prog 137 #[.pointer (some ⟨b,0,none⟩),.int .i64 k] w (Ret fun v w'=>v=.tuple #[.string (d.read k).1,.int .i64 (d.read k).2]/\Ext w w'):=by
 apply zlz;unfold S137 Dev.read;refine zr fun r1 w1 hb1 he1 hr1 hz1=>?_;refine zr fun r2 w2 hb2 he2 hr2 hz2=>?_;refine zr fun r3 w3 hb3 he3 hr3 hz3=>?_;have hb1:=(hb1.ext he2).ext he3;have hb2:=hb2.ext he3;have he:=(he1.trans he2).trans he3;refine zd (by rfl) ?_;refine zo (x:=k) hb1 (by rfl) ?_;have hD:=h.ext he;refine zb (zcX hD k) ?_;rintro _ w4 ⟨rfl,hw⟩;refine⟨_,rfl,?_⟩;obtain rfl:w3=w4:=hw.symm;refine zg (fun hz=>?_) (fun hz=>?_)
 ·have hz:¬(0<=k/\k<d.blocks):=of_decide_eq_false (show d.there k=false by simpa using hz);rw[if_pos hz];refine zS hb2 (by show 0<1;omega) ?_;have hb3':=hb3.other (p:=⟨r2,0,none⟩) (by show r2≠r3;omega) (.string (ByteArray.mk #[]));refine zS hb3' (by show 0<1;omega) ?_;have hb2':=(hb2.set 0 (.string (ByteArray.mk #[]))).other (p:=⟨r3,0,none⟩) (by show r3≠r2;omega) (.int .i64 2);have hb3'':=hb3'.set 0 (.int .i64 2);refine zo (x:=ByteArray.mk #[]) hb2' (by rfl) (zo (x:=(2:Int)) hb3'' (by rfl) ?_);exact⟨rfl,(he.set (by show w.heap.size<=r2;omega) _).set (by show w.heap.size<=r3;omega) _⟩
 have hth:0<=k/\k<d.blocks:=of_decide_eq_true (show d.there k=true by simpa using hz);rw[if_neg (fun x=>x hth)];have hok:=h.ok;have hlen:=hok.len;have h0:∀ p∈d.pen,0<=p.1:=fun p hp=>(hok.pend p hp).1;refine zb (zgB hD) ?_;rintro v w4 ⟨A,n,c,hit,hRL,hs4,he4⟩;refine⟨v,rfl,?_⟩;have hr4:=hRL.1.lt
 let G:World->Prop:=fun w'=>Ext w w'/\Blk w' r1 [.int .i64 k] 3/\zgz w3.heap.size A n c d.pen w'/\w4.heap.size<=w'.heap.size
 have hG4:G w4:=⟨he.trans he4,hb1.ext he4,hRL,Nat.le_refl _⟩;have hGext:∀ {w' w'':World},G w'->Ext w' w''->G w'':=fun hg hx=>⟨hg.1.trans hx,hg.2.1.ext hx,⟨hg.2.2.1.1.ext hx,hg.2.2.1.2.ext hx⟩,Nat.le_trans hg.2.2.2 hx.size⟩;have hsame:∀ {w' w'':World},yR w4.heap.size (w4.heap.size+1) w' w''->G w'->G w'':=fun hs hg=>by
  have hx:=hs.ext hg.1 (by have:=he4.size;omega);obtain⟨g1,g2,g3,g4⟩:=hg;refine⟨hx,hs.blk g2 (by omega),⟨hs.blk g3.1 (by omega),?_⟩,by rw[hs.size];exact g4⟩;obtain⟨s1,s2,s3⟩:=g3.2;obtain⟨t1,t2,t3⟩:=hRL.2;refine⟨s1,s2,fun hn=>?_⟩;obtain⟨a,e1,e2,e3⟩:=t3 hn;refine⟨a,e1,e2,fun j v hj=>?_⟩;have hc:=e3 j v hj;have hab:(a.add j).block=a.block:=by unfold Addr.add;split<;>rfl
  have hlt:=World.block_lt_of_cell? w4 _ hc;obtain⟨a',e1',e2',e3'⟩:=s3 hn;obtain rfl:a'=a:=by rw[e1]at e1';exact(Option.some.inj e1').symm
  have hc':=e3' j v hj;unfold World.cell? at hc' ⊢;rw[hs.2.2.2.2 _ (by omega) (by omega)];exact hc'
 have hp0:∀ j,j<d.pen.length->d.pen[j]?=some (d.pen.getD j w00):=fun j hj=>by rw[getD_eq_getElem?_getD,List.getElem?_eq_getElem hj];rfl
 refine zmp (fun i w'=>G w'/\Blk w' r2 [.string ByteArray.empty] 9/\Blk w' r3 [.int .i64 0] 28/\∀ j,d.pen.length-i<=j->j<d.pen.length->(d.pen.getD j w00).1≠k)
  (fun c w'=>c=.ret/\Ext w w'/\∃ s,Blk w' r2 [.string s] 9/\Blk w' r3 [.int .i64 0] 28/\s=(d.pen.foldl Go.Proofs.YtplgodmmmppmeaaGreat.V.put d.dur).getD k.toNat ByteArray.empty)
  (fun i=>(((d.pen.length-1-i:Nat):Int),((d.pen.getD (d.pen.length-1-i) w00).1,(d.pen.getD (d.pen.length-1-i) w00).2,()),())) ?_ hit ?_ ?_ ?_ ?_ ?_ ?_ ?_ ?_ ?_ ?_ ?_
 ·intro i hi;simp[zb3]
 ·intro i w' hI;exact hI.1.2.2.1
 ·intro i w' hI;exact⟨hGext hI.1 ((Ext.refl _).drew),hI.2.1,hI.2.2.1,hI.2.2.2⟩
 ·intro i w' w'' hs hI;exact⟨hsame hs hI.1,hs.blk hI.2.1 (by omega),hs.blk hI.2.2.1 (by omega),hI.2.2.2⟩
 ·intro i w' w'' hs hR;refine⟨hs.blk hR.1 (by omega),?_⟩;obtain⟨s1,s2,s3⟩:=hR.2;obtain⟨t1,t2,t3⟩:=hRL.2;refine⟨s1,s2,fun hn=>?_⟩;obtain⟨a,e1,e2,e3⟩:=t3 hn;refine⟨a,e1,e2,fun j v hj=>?_⟩;have hc:=e3 j v hj;have hlt:=World.block_lt_of_cell? w4 _ hc;obtain⟨a',e1',e2',e3'⟩:=s3 hn;obtain rfl:a'=a:=by rw[e1]at e1';exact(Option.some.inj e1').symm
  have hc':=e3' j v hj;unfold World.cell? at hc' ⊢;rw[hs.2.2.2.2 _ (by omega) (by omega)];exact hc'
 ·rintro c w' w'' hs ⟨rfl,hx,s,g1,g2,g3⟩;exact⟨rfl,hs.ext hx (by have:=he4.size;have:=he.size;omega),s,hs.blk g1 (by omega),hs.blk g2 (by omega),g3⟩
 ·intro i w' w'' hs;exact hs
 ·intro i w' k hk;rfl
 ·intro o;have hx:Ext w4 ((w4.alloc (.deferred (some []))).alloc o):=((Ext.refl w4).alloc _).alloc _;exact⟨hGext hG4 hx,(hb2.ext he4).ext hx,(hb3.ext he4).ext hx,fun j hj hj2=>by omega⟩
 ·intro i hi w' G' N jump hI hsz hG';rw[vH]at hi;obtain⟨hI1,hI2,hI3,hI4⟩:=hI;dsimp only;refine yn (vs:=kW.f (d.pen.getD (d.pen.length-1-i) w00)) (by rfl) (kW.one _) ?_ (by rfl);intro r17 w5 hb17 he5 hr17;have hk5:∀ k:Nat,k=w4.heap.size\/k=w4.heap.size+1->w5.heap[k]?=w'.heap[k]?:=fun k hk=>he5.block k (by omega);refine hG' _ w5 ⟨hGext hI1 he5,hI2.ext he5,hI3.ext he5,hI4⟩ he5.size hk5 ?_;intro w6 hI6 hsz6 hk6 hN hJ;obtain⟨hI1,hI2,hI3,hI4⟩:=hI6;have hb17:=hb17.at_ (hk6 r17 (by omega) (by omega));have hb17lt:=hb17.lt;refine zo (x:=(d.pen.getD (d.pen.length-1-i) w00).1) hb17 (by rfl) ?_;refine zo (x:=k) hI1.2.1 (by rfl) ?_;refine zg (fun hz=>?_) (fun hz=>?_)
  ·have hz:=beq_iff_eq.1 hz;refine zn 1 (d.pen.getD (d.pen.length-1-i) w00).2 hb17 (by rfl) ?_;refine zS hI2 (by show 0<1;omega) ?_;have hb3':=hI3.other (p:=⟨r2,0,none⟩) (by show r2≠r3;omega) (.string (d.pen.getD (d.pen.length-1-i) w00).2);refine zS hb3' (by show 0<1;omega) ?_;have hb2':=(hI2.set 0 (.string (d.pen.getD (d.pen.length-1-i) w00).2)).other (p:=⟨r3,0,none⟩) (by show r3≠r2;omega) (.int .i64 0);have hb3'':=hb3'.set 0 (.int .i64 0);refine hJ .ret _ ⟨rfl,(hI1.1.set (by show w.heap.size<=r2;omega) _).set (by show w.heap.size<=r3;omega) _,_,hb2',hb3'',?_⟩ (by simp) (fun k hk=>?_)
   ·refine(zj9 hth.1 h0 (by omega) (by omega) hz (fun j hj hj2=>hI4 j (by omega) hj2)).symm
   ·rw[Below.heap_setCell _ _ _ _ (by show k≠r3;omega),Below.heap_setCell _ _ _ _ (by show k≠r2;omega)]
  ·have hz:=beq_eq_false_iff_ne.1 hz;refine hN w6 ⟨hI1.2.2.1,hI1,hI2,hI3,fun j hj hj2=>?_⟩ (Nat.le_refl _) (fun _ _=>rfl)
   by_cases hjj:j=d.pen.length-1-i
   ·rw[hjj];exact hz
   ·exact hI4 j (by omega) hj2
 ·rintro w' ⟨hI1,hI2,hI3,hI4⟩ hsz hdf;rw[vH]at hI4;rw[qT];refine zM fun w5 he5 hs5 hk5=>?_;have hx:Ext w w5:=hI1.1.trans he5;obtain⟨Ad,Ap,nd,cd,np,cp,t,hb,hd,hp,hF,g1,g2,g3⟩:=(h.ext hx).mem;have hdl:=hd.len;refine zs (zn 2 (Ad,nd,cd) hb (by rfl) (zo (x:=k) (hI1.2.1.ext he5) (by rfl) ?_));dsimp only;refine zij hd.sl hth.1 (by omega) ?_;have hI2:=hI2.ext he5;have hI3:=hI3.ext he5;refine zS hI2 (by show 0<1;omega) ?_;have hb3':=hI3.other (p:=⟨r2,0,none⟩) (by show r2≠r3;omega) (.string (d.dur.getD k.toNat ByteArray.empty));refine zS hb3' (by show 0<1;omega) ?_;have hb2':=(hI2.set 0 (.string (d.dur.getD k.toNat ByteArray.empty))).other (p:=⟨r3,0,none⟩) (by show r3≠r2;omega) (.int .i64 0);have hb3'':=hb3'.set 0 (.int .i64 0);have hx2:=(hx.set (p:=⟨r2,0,none⟩) (by show w.heap.size<=r2;omega) (.string (d.dur.getD k.toNat ByteArray.empty))).set (p:=⟨r3,0,none⟩) (by show w.heap.size<=r3;omega) (.int .i64 0);refine ja ?_ ?_
  ·rw[Below.heap_setCell _ _ _ _ (by show w4.heap.size≠r3;omega),Below.heap_setCell _ _ _ _ (by show w4.heap.size≠r2;omega),hk5];exact hdf
  have hsb:=zX (a:=w4.heap.size) (b:=w4.heap.size+1) (w:=(w5.setCell ⟨r2,0,none⟩ (.string (d.dur.getD k.toNat ByteArray.empty))).setCell ⟨r3,0,none⟩ (.int .i64 0)) (o:=.deferred none) (.inl rfl);refine zo (x:=d.dur.getD k.toNat ByteArray.empty) (hsb.blk hb2' (by omega)) (by rfl) (zo (x:=(0:Int)) (hsb.blk hb3'' (by omega)) (by rfl) ?_);refine⟨?_,hsb.ext hx2 (by have:=he4.size;have:=he.size;omega)⟩;rw[zb4 hth.1 _ _ h0 (fun p hp=>?_)];obtain⟨j,hj,rfl⟩:=List.mem_iff_getElem.1 hp;have:=hI4 j (by omega) hj;rw[getD_eq_getElem?_getD,List.getElem?_eq_getElem hj]at this;exact this
 ·rintro c' w' ⟨rfl,hx,s,hb2',hb3',rfl⟩ hsz hdf;rw[qT];refine ja hdf ?_;have hsb:=zX (a:=w4.heap.size) (b:=w4.heap.size+1) (w:=w') (o:=.deferred none) (.inl rfl);refine zo (x:=(d.pen.foldl Go.Proofs.YtplgodmmmppmeaaGreat.V.put d.dur).getD k.toNat ByteArray.empty) (hsb.blk hb2' (by omega)) (by rfl) (zo (x:=(0:Int)) (hsb.blk hb3' (by omega)) (by rfl) ?_);exact⟨rfl,hsb.ext hx (by have:=he4.size;have:=he.size;omega)⟩
end V
/- Rules and words that several seats share. -/
namespace V
open Go Go.Proofs Go.RowKit
section
variable {α:Type} {P:Program} {t e:TypeId} {z:Value} {bytes:Nat} {E:Enc α}
theorem zeP {w:World} {A:Option Addr} {n c:Nat} {xs:List α} {K:Value->WP} (hE:jR P t e z E.k bytes) (h:Sli E w A n xs) (hlen:n*bytes<=140737488355328) (hb:0<bytes)
  (hK:∀ A' c' w',Owni E e w' w.heap.size A' n c' xs->Ext w w'->K (.slice A' n c') w'):
  (za (Option.isNone A) (K (.slice none 0 0))<|
   zh (.cells #[] e) fun(r1:Nat)=>zw P (Builtin.append_ #[t,t] t #[.slice (some (aD r1)) 0 0,.slice A n c]) .slc fun(u2:SLC)=>K (.slice u2.1 u2.2.1 u2.2.2)) w:=by
 refine zg (fun hA=>?_) (fun hA=>?_)
 ·have hA:A=none:=by simpa using hA
  subst hA;obtain rfl:n=0:=by
   rcases Nat.eq_zero_or_pos n with h0|h0
   ·exact h0
   ·obtain⟨a,h1,_⟩:=h.2.2 h0;cases h1
  obtain rfl:xs=[]:=eq_nil_of_length_eq_zero h.1;exact hK none 0 w (Owni.nil _ _ _) (Ext.refl w)
 ·apply yG;have he:Ext w (w.alloc (.cells #[] e)):=(Ext.refl w).alloc _;have ho:Owni E e (w.alloc (.cells #[] e)) w.heap.size (some ⟨w.heap.size,0,none⟩) 0 0 ([]:List α):=Owni.lit (xs:=[]) (n:=0) rfl (Nat.le_refl _) (by omega);refine xc hE ho (by simp) (h.ext he) (by rw[Nat.zero_add];exact hlen) hb ?_;intro A' c' w' ho' hg _;rw[Nat.zero_add]at ho' ⊢;exact hK A' c' w' (by simpa using ho') (Ext.grown he hg.1 (fun j hj=>by injection hj with hj;subst hj;exact Nat.le_refl _))
theorem ziq {w:World} {b o n c m d:Nat} {ty u t2:TypeId} {X:Option Addr} {cs ys:List Value} {K:Int->WP} (hE:Elem P t e z bytes) (hb:Blk w b cs t2) (hx:Sl w X m ys) (hys:∀ y∈ys,y.oneCell'=true) (ho:o+min m n<=cs.length) (hX:X≠none)
  (hK:∀ w',Blk w' b (cs.take o++ys.take (min m n)++cs.drop (o+min m n)) t2->w.grownBy w' (some b)->K ((min m n:Nat):Int) w'):
  zw P (Builtin.copy_ #[t,u] ty #[.slice (some ⟨b,o,none⟩) n c,.slice X m d]) (.int .i64) K w:=by
 obtain⟨ht,hi,hz⟩:=hE;obtain⟨i,hi,hii⟩:=Option.map_eq_some_iff.1 hi;simp only [Prod.mk.injEq]at hii;obtain⟨hz0,hz1,hz2⟩:=hii;have hl:=hx.len;obtain⟨a,rfl⟩:=Option.ne_none_iff_exists'.1 hX;have hlen:(ys.take (min m n)).length=min m n:=by rw[length_take];omega
 have hsrc:∀ j v,(ys.take (min m n))[j]?=some v->w.cell? (a.add j)=some v:=fun j v hj=>by
  rw[List.getElem?_take]at hj;split at hj
  ·rcases Nat.eq_zero_or_pos m with h0|h0
   ·omega
   ·obtain⟨a',h1,h2⟩:=hx.2.2 h0;cases h1;exact h2 j v hj
  ·cases hj
 have hr:=run_copy_row (P:=P) w t u ty e b o n c a m d cs.toArray t2 (ys.take (min m n)) ht (by rw[hi];simp[hz1]) hb hlen hsrc (by rw[hlen];simpa using ho) (fun v hv=>hys v (List.mem_of_mem_take hv));rw[hlen]at hr;refine⟨((min m n:Nat):Int),_,hr,hK _ ?_ ?_⟩
 ·have hb':w.heap[b]?=some (.cells cs.toArray t2 (0,0)):=hb;show(w.heap.modify b _)[b]?=_;rw[Array.getElem?_modify,if_pos rfl,hb'];simp
 ·refine⟨rfl,rfl,rfl,by simp[World.setRow],fun k hk hne=>?_⟩;simp[World.setRow];rw[Array.getElem?_modify];split
  ·exact absurd (by subst_vars;rfl) hne
  ·rfl
end
theorem j8 {α:Type} {E:Enc α} {e:TypeId} {w:World} {B b n:Nat} {xs:List α} (h:Blk w b (E.flat xs) e) (hn:xs.length=n) (hm:n<=9223372036854775807) (hB:B<=b):Owni E e w B (some ⟨b,0,none⟩) n n xs:=by
 refine⟨by rw[E.xh,hn],.inr ⟨b,n,(E.flat xs).toArray,rfl,hB,h,Nat.le_refl _,by simpa [maxLen] using hm,by simp[E.xh,hn],?_⟩⟩;rw[take_of_length_le (by simp[E.xh,hn])]
def mkB (bs:List UInt8):ByteArray:=⟨bs.toArray⟩
theorem yW (bs:List UInt8):B (mkB bs)=bs:=jB bs
theorem zi5 (s:ByteArray):mkB (B s)=s:=ko (yW _)
theorem xf (bs:List UInt8):(mkB bs).size=bs.length:=by rw[yj,yW]
theorem zaN {w:World} {b:Nat} {x y:Value} {t:TypeId} (h:Blk w b [x,y] t):∀ p∈[((aD b).add 0,x),((aD b).add 1,y)],w.cell? p.1=some p.2:=by
 intro p hp;simp only [mem_cons,not_mem_nil,or_false]at hp;rcases hp with rfl|rfl<;>simp[zy,h.cell]
theorem yM {w:World} {b o:Nat} {cs:List Value} {v:Value} {t:TypeId} (h:Blk w b cs t) (hv:cs[o]?=some v):∀ p∈[((aD b).add o,v)],w.cell? p.1=some p.2:=by
 intro p hp;obtain rfl:=mem_singleton.1 hp;show w.cell? ((aD b).add o)=_;rw[zy,h.cell,Nat.zero_add,hv]
theorem yd {w:World} {b:Nat} {cs:List Value} {v:Value} {t:TypeId} (h:Blk w b cs t) (hv:cs[0]?=some v):∀ p∈[((aD b),v)],w.cell? p.1=some p.2:=by
 intro p hp;obtain rfl:=mem_singleton.1 hp;show w.cell? (aD b)=_;rw[h.cell,hv]
abbrev HL (w:World) (l:List (Addr×Value)):Prop:=∀ p∈l,w.cell? p.1=some p.2
theorem xy {w:World} {a:List (Addr×Value)} {K:WP} (ha:HL w a) (hK:K w):zq [a] K w:=
 ⟨fun l hl=>by rw[mem_singleton.1 hl];exact ha,hK⟩
theorem js {w:World} {a b:List (Addr×Value)} {K:WP} (ha:HL w a) (hb:HL w b) (hK:K w):zq [a,b] K w:=
 ⟨fun l hl=>by
  simp only [mem_cons,not_mem_nil,or_false]at hl
  rcases hl with rfl|rfl
  ·exact ha
  ·exact hb,hK⟩
theorem zoY {w:World} {a b c:List (Addr×Value)} {K:WP} (ha:HL w a) (hb:HL w b) (hc:HL w c) (hK:K w):zq [a,b,c] K w:=
 ⟨fun l hl=>by
  simp only [mem_cons,not_mem_nil,or_false]at hl
  rcases hl with rfl|rfl|rfl
  ·exact ha
  ·exact hb
  ·exact hc,hK⟩
theorem heldc {w:World} {a:List (Addr×Value)} {H:List (List (Addr×Value))} {K:WP} (ha:HL w a) (h:zq H K w):zq (a::H) K w:=
 ⟨fun l hl=>by
  rcases mem_cons.1 hl with rfl|hl
  ·exact ha
  ·exact h.1 l hl,h.2⟩
theorem zpn {w:World} {K:WP} (h:K w):zq [] K w:=⟨(fun l hl=>by cases hl),h⟩
end V
/- Contracts of the package device:Image,Pending,Geo,New,Load,Rot. -/
namespace V
open Go Go.Proofs Go.RowKit Crc
theorem zb5:Elem prog 158 9 (.string ByteArray.empty) 16:=⟨by kernel_rfl,by kernel_rfl,by kernel_rfl⟩
theorem vN {w:World} {b:Nat} {d:Dev} {F:Nat->Prop} (h:xd w b d F):
  Calls prog 35 #[.pointer (some ⟨b,0,none⟩)] w (Ret fun v w'=>v=.agg #[.int .i64 d.size,.int .i64 d.blocks]/\Ext w w'):=by
 apply znD;unfold S35;refine zr fun r1 w1 hb1 he1 hr1 hz1=>?_;obtain⟨Ad,Ap,nd,cd,np,cp,t,hb,hd,hp,hF,h1,h2,h3⟩:=(h.ext he1).mem;refine zd (by rfl) (zs ?_);refine qp (ls:=[.int .i64,.int .i64]) (x:=(d.size,d.blocks,())) ⟨by rw[zy,hb.cell];rfl,by rw[zy,hb.cell];rfl,trivial⟩ ?_;refine refill (vs:=[.int .i64 d.size,.int .i64 d.blocks]) hb1 (by rfl) (by intro v hv;simp at hv;rcases hv with rfl|rfl<;>rfl) (by rfl) ?_;intro w2 hb2 hx2 hk2 hs2;refine zZ (ls:=[.int .i64,.int .i64]) (d.size,d.blocks,()) hb2 rfl ?_;exact⟨rfl,hx2 w he1 (by omega)⟩
theorem zka (w:World) (x y:Nat) (hx:x<18446744073709551616) (hy:y<18446744073709551616):Calls prog 158 #[.int .u64 x,.int .u64 y] w (Ret fun v w'=>v=.tuple #[.int .u64 ((x*y / 18446744073709551616:Nat):Int),.int .u64 ((x*y % 18446744073709551616:Nat):Int)]/\w'=w):=
 (Tryz.bits_Mul x y hx hy w).mono (by rintro e w' ⟨rfl,h⟩;exact⟨rfl,h⟩)
theorem zmq {s z:ByteArray} {n c:Nat} (hn:n<=c) {m:Nat} (hm:m=min n (c-n)):
  (xE.flat (List.replicate n s++List.replicate (c-n) z)).take n++((xE.flat (List.replicate n s)).take m)++(xE.flat (List.replicate n s++List.replicate (c-n) z)).drop (n+m)=xE.flat (List.replicate (n+m) s++List.replicate (c-(n+m)) z):=by
 simp only [qi,map_append,List.map_replicate];rw[take_left' (by simp),List.drop_append,List.take_replicate,List.drop_replicate,List.drop_replicate,show min m n=m by omega,show n-(n+m)=0 by omega,List.replicate_zero,List.nil_append,length_replicate,
  List.replicate_append_replicate,show c-n-(n+m-n)=c-(n+m) by omega]
theorem zkb {w:World} {A:Option Addr} {c k:Nat} {s:ByteArray} (h:Sli xE w A 1 [s]) (h1:1<=k) (hk:k<=1000000):
  Calls prog 112 #[.slice A 1 c,.int .i64 (k:Int)] w (Ret fun v w'=>∃ A',v=.slice A' k k/\Owni xE 9 w' w.heap.size A' k k (List.replicate k s)/\Ext w w'):=by
 apply zlj;unfold S112;refine zig fun J hJ=>zd (decide_eq_false (by omega)) (hJ () _ ?_);rw[zx (by omega),zx (by omega)];refine zb (zka w 1 k (by omega) (by omega)) ?_;rintro _ w1 ⟨rfl,hw⟩;subst hw;rw[Nat.one_mul,Nat.div_eq_of_lt (by omega),Nat.mod_eq_of_lt (by omega)];refine⟨((0:Nat),(k:Nat),()),rfl,?_⟩;dsimp only;refine zig fun J hJ=>zd (by rfl) (zd (decide_eq_false (by omega)) (hJ () _ ?_));rw[wrap_i64 (by omega) (by omega)];refine za6 (z:=.string ByteArray.empty) zb5 (by rfl) (Nat.le_refl _) (by omega) (by omega) ?_;intro w2 ho2 hg2;have he2:Ext w1 w2:=(Ext.refl w1).none hg2;have hb2:=zdr ho2;have e0:List.replicate k (Value.string ByteArray.empty)=xE.flat (List.replicate 0 s++List.replicate (k-0) ByteArray.empty):=by rw[qi];simp
 dsimp only;have hA:A≠none:=by
  obtain⟨a,h2,_⟩:=h.2.2 (by omega);rw[h2];simp
 have hsl:Sl w2 A 1 [.string s]:=by
  obtain⟨p1,p2,p3⟩:=h.ext he2;exact⟨rfl,by omega,fun hn=>by obtain⟨a,q1,_,q2⟩:=p3 hn;exact⟨a,q1,q2⟩⟩
 refine ziq (o:=0) (n:=k) zb5 hb2 hsl (by intro y hy;simp at hy;subst hy;rfl) (by simp;omega) hA ?_;intro w3 hb3 hg3;have he3:Ext w1 w3:=he2.grown hg3 (fun j hj=>by injection hj with hj;omega);rw[show min 1 k=1 by omega]at hb3 ⊢;have hb3:Blk w3 w1.heap.size (xE.flat (List.replicate 1 s++List.replicate (k-1) ByteArray.empty)) 9:=by
  have e:List.take 0 (List.replicate k (Value.string ByteArray.empty))++List.take 1 [Value.string s]++List.drop (0+1) (List.replicate k (Value.string ByteArray.empty))=xE.flat (List.replicate 1 s++List.replicate (k-1) ByteArray.empty):=by
   rw[qi];simp
  rw[<- e];exact hb3
 refine zz (fun y w'=>∃ i:Nat,1<=i/\i<=k/\y=((i:Int),())/\Blk w' w1.heap.size (xE.flat (List.replicate i s++List.replicate (k-i) ByteArray.empty)) 9/\Ext w1 w') (fun y=>(k-y.1).toNat) ⟨1,by omega,h1,rfl,hb3,he3⟩ ?_;rintro _ w4 ⟨i,hi1,hi,rfl,hb4,he4⟩;dsimp only
 by_cases hlt:i<k
 ·refine zf (decide_eq_true (by omega)) ?_;refine zM fun w5 he5 _ _=>?_;have hb5:=hb4.ext he5;refine zK (by omega) (zK (by omega) ?_);rw[Int.toNat_natCast];have hcut:zm (some (⟨w1.heap.size,0,none⟩:Addr)) i k 1=some ⟨w1.heap.size,i,none⟩:=by
   unfold zm;rw[if_neg (by omega)];simp[zy]
  have hcut0:zm (some (⟨w1.heap.size,0,none⟩:Addr)) 0 k 1=some ⟨w1.heap.size,0,none⟩:=by
   unfold zm;rw[if_neg (by omega)];simp[zy]
  rw[hcut,hcut0];have hsl5:Sl w5 (some ⟨w1.heap.size,0,none⟩) i (xE.flat (List.replicate i s)):=by
   refine⟨by rw[qi];simp,by omega,fun _=>⟨_,rfl,fun j v hj=>?_⟩⟩;rw[zy,hb5.cell,Nat.zero_add,qi,map_append,List.getElem?_append_left (by rw[qi]at hj;exact(List.getElem?_eq_some_iff.1 hj).1),<- qi];exact hj
  refine ziq (n:=k-i) zb5 hb5 hsl5 (xE.zdp _) (by rw[qi];simp;omega) (by simp) ?_;intro w6 hb6 hg6;rw[zmq (by omega) rfl]at hb6;refine⟨⟨i+min i (k-i),by omega,by omega,by rw[wrap_i64 (by omega) (by omega)];simp,hb6,(he4.trans he5).grown hg6 (fun j hj=>by injection hj with hj;omega)⟩,by rw[wrap_i64 (by omega) (by omega)];omega⟩
 ·obtain rfl:i=k:=by omega
  refine zd (decide_eq_false (by omega)) ?_;refine⟨_,rfl,j8 ?_ (by simp) (by omega) (Nat.le_refl _),he4⟩
  simpa using hb4
end V
/- Contracts of the package device:New,Load,Rot. -/
namespace V
open Go Go.Proofs Go.RowKit Crc
def yE (n:Nat):ByteArray:=mkB (List.replicate n 0)
theorem zbc (n:Nat):(yE n).size=n:=by rw[yE,xf];simp
def zdt (size blocks:Int):Dev:=⟨size,blocks,List.replicate blocks.toNat (yE size.toNat),[],0,-1⟩
theorem zbd {size blocks:Int} (h:zW size blocks=true):128<=size/\size<=4096/\size % 64=0/\8<=blocks/\blocks<=4096:=by
 unfold zW at h;obtain⟨h1,h2,h3,h4,h5⟩:=of_decide_eq_true h;rw[Int.tmod_eq_emod_of_nonneg (by omega)]at h3;omega
theorem zir {size blocks:Int} (h:zW size blocks=true):(zdt size blocks).Ok:=by
 have:=zbd h;refine⟨h,?_,?_,(fun p hp=>by cases hp),(by show(-1:Int)<=-1;omega),(by show(-1:Int)<9223372036854775808;omega)⟩
 ·show((List.replicate blocks.toNat (yE size.toNat)).length:Int)=blocks;rw[length_replicate];omega
 ·intro s hs;rw[(List.mem_replicate.1 hs).2,zbc];show((size.toNat:Nat):Int)=size;omega
def zgC (w:World) (d:Dev) (b:Nat) (w':World):Prop:=∃ F:Nat->Prop,xd w' b d F/\(∀ k,F k->w.heap.size<=k)/\Ext w w'
theorem zkc {w:World} {b nd cd:Nat} {Ad:Option Addr} {t:TypeId} {d:Dev} (hb:Blk w b [.int .i64 d.size,.int .i64 d.blocks,.slice Ad nd cd,.slice none 0 0,.int .i64 d.ops,.int .i64 d.fuse] t)
  (hd:Owni xE 9 w 0 Ad nd cd d.dur) (hp:d.pen=[]) (hne:orow Ad≠some b) (hok:d.Ok):xd w b d (fun k=>k=b\/orow Ad=some k\/orow none=some k):=by
 refine⟨⟨Ad,none,nd,cd,0,0,t,hb,hd,?_,fun k=>Iff.rfl,hne,(fun e=>by cases e),(fun j hj e=>by cases e)⟩,hok⟩;rw[hp];exact Owni.nil _ _ _
theorem zoj (n:Nat):Lib.repeatL [0] n=List.replicate n (0:UInt8):=by
 induction n with
 |zero=>rfl
 |succ n ih=>rw[Lib.repeatL,ih,List.replicate_succ];rfl
theorem zi6 (w:World) (size blocks:Int):
  Calls prog 68 #[.agg #[.int .i64 size,.int .i64 blocks]] w (Ret fun v w'=>(zW size blocks=true/\∃ b,v=.tuple #[.pointer (some ⟨b,0,none⟩),.int .i64 0]/\zgC w (zdt size blocks) b w')\/(zW size blocks=false/\v=.tuple #[.pointer none,.int .i64 2]/\Ext w w')):=by
 apply znW;unfold S68;refine zr fun r1 w1 hb1 he1 hr1 hz1=>?_;have hb1:Blk w1 r1 [.int .i64 size,.int .i64 blocks] 72:=hb1;refine zZ (ls:=[.int .i64,.int .i64]) (size,blocks,()) hb1 rfl ?_;refine zb (qj w1 size blocks) ?_;rintro _ w2 ⟨rfl,he2⟩;refine⟨_,rfl,?_⟩;have hb2:=hb1.ext he2;cases hok:zW size blocks with
 |false=>exact zf (by rfl) (.inr ⟨rfl,rfl,he1.trans he2⟩)
 |true=>
  have hg:=zbd hok;refine zd (by rfl) ?_;refine zM fun w3 he3 _ _=>?_;have hb3:=hb2.ext he3;refine zZ (ls:=[.int .i64,.int .i64]) (size,blocks,()) hb3 rfl ?_;refine zF size hb3 (by rfl) (zn 1 blocks hb3 (by rfl) ?_);have hr:=Tryz.strings_Repeat (ByteArray.mk #[0]) size.toNat w3 (by omega) (by show 1*size.toNat<=_;omega);rw[Int.toNat_of_nonneg (by omega),show(ByteArray.mk #[0]).data.toList=[0] from rfl,zoj]at hr;refine zb (R:=fun v w'=>v=.string (yE size.toNat)/\Ext w3 w') (hr.mono (by rintro e w' ⟨rfl,h⟩;exact⟨rfl,h⟩)) ?_;rintro _ w4 ⟨rfl,he4⟩;refine⟨_,rfl,?_⟩;have hb4:=hb3.ext he4;refine js (yM hb4 (by rfl)) (zaN hb4) ?_;refine zr fun r8 w5 hb8 he5 hr8 hz8=>?_;have hb5:=hb4.ext he5;refine js (yM hb5 (by rfl)) (zaN hb5) ?_;have hs8:Sli xE w5 (some ⟨r8,0,none⟩) 1 [yE size.toNat]:=Sli.xC (E:=xE) (xs:=[yE size.toNat]) hb8 rfl (by omega);have hrep:=zkb (c:=1) (k:=blocks.toNat) hs8 (by omega) (by omega);rw[Int.toNat_of_nonneg (by omega)]at hrep;refine zb hrep ?_;rintro _ w6 ⟨A,rfl,ho,he6⟩;refine⟨(A,_,_),rfl,?_⟩;have hb6:=hb5.ext he6;refine xy (zaN hb6) ?_;refine zr fun r10 w7 hb10 he7 hr10 hz10=>?_;have hb10:Blk w7 r10 [.int .i64 size,.int .i64 blocks,.slice A blocks.toNat blocks.toNat,.slice none 0 0,.int .i64 0,.int .i64 (-1)] 163:=hb10;have hall:=((((((he1.trans he2).trans he3).trans he4).trans he5).trans he6).trans he7);have hpre:=(((((he1.trans he2).trans he3).trans he4).trans he5));have hlt:∀ j,orow A=some j->j<w6.heap.size:=ho.yc;refine .inl ⟨rfl,r10,rfl,_,zkc (d:=zdt size blocks) hb10 ((ho.ext he7).lower (Nat.zero_le _)) rfl (fun e=>by have:=hlt _ e;omega) (zir hok),?_,hall⟩;rintro k (rfl|hk|hk)
  ·have:=(hpre.trans he6).size;omega
  ·have:=ho.row k hk;have:=hpre.size;omega
  ·cases hk
end V
end Go.Proofs.YtplgodmmmppmeaaGreat
