/- Texts of mine, merged (wip/tool/mergep.py): S_0. -/
import Derived.Test.YtplgodmmmppmeaaGreatM1
import Derived.Test.YtplgodmmmppmeaaGreatChecked
open Go.IntKind (wrap)
open Go.Proofs.Tryz (prog)
open List (mem_cons_self mem_cons_of_mem mem_cons length_cons map_map mem_append mem_append_left drop_drop mem_range mem_of_getElem? getElem_mem mem_iff_getElem map_cons mem_map append_assoc nodup_cons foldl_cons length_nil append_nil length_map length_set eq_nil_of_length_eq_zero range_succ map_congr_left length_append drop_of_length_le take_of_length_le getD_eq_getElem?_getD drop_eq_getElem_cons mem_singleton not_mem_nil take_succ_eq_append_getElem all_eq_true flatMap_cons length_take length_drop take_add_one length_replicate take_left' drop_left' length_singleton map_append length_range getElem_range flatMap_append)
set_option linter.unusedVariables false
set_option linter.unusedSimpArgs false
namespace Go.Proofs.YtplgodmmmppmeaaGreat
/- The shallow forms of the functions,by a program of mine (wip/tool/gen.py). -/
set_option maxRecDepth 100000
namespace V
open Go Go.Proofs
theorem mixed:prog.follows .mixedOrders=true:=by kernel_rfl
abbrev AN (a:Ann):Ann:=.seq .nil a
abbrev AO:Ann:=.seq .nil .nil
abbrev AP:Ann:=.nil
abbrev AQ (a b:Ann):Ann:=.cond a b
abbrev AR (a b:Ann):Ann:=.seq a b
theorem cF {f:FuncId} {fn:Func} (an:Ann) (marks:Bool) {args:List Value} {w:World} {K:Value->WP} {T:Prop} (hf:prog.funcs[f]?=some fn) (h:T) (hz:decide (args.length<=fn.ntmps)=true:=by kernel_rfl) (e:T=zai prog fn an marks args K w:=by kernel_rfl):Calls prog f args.toArray w (Ret K):=cE an marks hf mixed hz e h
def an4:Ann:=(AN (AR (AN (AQ AO AP)) (AR (AN (AQ AO AP)) (AN (AN (AN (AN (AN (AN AO)))))))))
def S4 (Af:Option Addr) (Ag Ah:Nat) (Aa:Option Addr) (Ab Ac:Nat) (x1:ByteArray) (x2:ByteArray) (K:Value->WP):WP:=
 zi (.cells #[(.slice Af Ag Ah),(.slice Aa Ab Ac)] 25) fun(r1:Nat)=>
 ze prog 9 [] (.one (.one .bool)) fun(u2:Bool)=>
 za (!u2) (K (.bool false))<|
 zl [.slc,.slc] (aD r1) fun(u3:(SLC×SLC×Unit))=>
 ze prog 10 [(.agg #[(.slice u3.1.1 u3.1.2.1 u3.1.2.2),(.slice u3.2.1.1 u3.2.1.2.1 u3.2.1.2.2)])] (.one (.one .bool)) fun(u4:Bool)=>
 za (!u4) (K (.bool true))<|
 za (decide (((x1.size:Nat):Int)>(2000:Int))) (K (.bool true))<|
 za (decide (((x2.size:Nat):Int)>(60:Int))) (K (.bool true))<|
 zl [.slc,.slc] (aD r1) fun(u5:(SLC×SLC×Unit))=>
 ze prog 11 [(.agg #[(.slice u5.1.1 u5.1.2.1 u5.1.2.2),(.slice u5.2.1.1 u5.2.1.2.1 u5.2.1.2.2)])] (.many [(.one .str),(.one (.int .i64))]) fun(u6:ByteArray×Int×Unit)=>
 zl [.slc,.slc] (aD r1) fun(u7:(SLC×SLC×Unit))=>
 ze prog 15 [(.agg #[(.slice u7.1.1 u7.1.2.1 u7.1.2.2),(.slice u7.2.1.1 u7.2.1.2.1 u7.2.1.2.2)])] (.many [(.one .str),(.one (.int .i64))]) fun(u8:ByteArray×Int×Unit)=>
 ze prog 12 [(.string x1)] (.many [(.agg [.slc,.slc]),(.one (.int .i64))]) fun(u9:(SLC×SLC×Unit)×Int×Unit)=>
 zi (.cells #[(.slice none 0 0),(.slice none 0 0)] 25) fun(r10:Nat)=>
 zc ((#[(.slice u9.1.1.1 u9.1.1.2.1 u9.1.1.2.2),(.slice u9.1.2.1.1 u9.1.2.1.2.1 u9.1.2.1.2.2)]:Array Value).size=2)<|
 zt (aD r10) [(.slice u9.1.1.1 u9.1.1.2.1 u9.1.1.2.2),(.slice u9.1.2.1.1 u9.1.2.1.2.1 u9.1.2.1.2.2)]<|
 ze prog 16 [(.string x1)] (.many [(.agg [.slc,.slc]),(.one (.int .i64))]) fun(u11:(SLC×SLC×Unit)×Int×Unit)=>
 zi (.cells #[(.slice none 0 0),(.slice none 0 0)] 25) fun(r12:Nat)=>
 zc ((#[(.slice u11.1.1.1 u11.1.1.2.1 u11.1.1.2.2),(.slice u11.1.2.1.1 u11.1.2.1.2.1 u11.1.2.1.2.2)]:Array Value).size=2)<|
 zt (aD r12) [(.slice u11.1.1.1 u11.1.1.2.1 u11.1.1.2.2),(.slice u11.1.2.1.1 u11.1.2.1.2.1 u11.1.2.1.2.2)]<|
 zl [.slc,.slc] (aD r1) fun(u13:(SLC×SLC×Unit))=>
 ze prog 17 [(.agg #[(.slice u13.1.1 u13.1.2.1 u13.1.2.2),(.slice u13.2.1.1 u13.2.1.2.1 u13.2.1.2.2)]),(.string x2)] (.many [(.one (.int .i64)),(.one (.int .i64))]) fun(u14:Int×Int×Unit)=>
 zl [.slc,.slc] (aD r1) fun(u15:(SLC×SLC×Unit))=>
 ze prog 18 [(.agg #[(.slice u15.1.1 u15.1.2.1 u15.1.2.2),(.slice u15.2.1.1 u15.2.1.2.1 u15.2.1.2.2)]),(.string x2)] (.many [(.one (.int .i64)),(.one (.int .i64))]) fun(u16:Int×Int×Unit)=>
 zD<|
 za (u6.1.toList==u8.1.toList) (za (u6.2.1==u8.2.1) (zl [.slc,.slc] (aD r10) fun(u17:(SLC×SLC×Unit))=>
 zl [.slc,.slc] (aD r12) fun(u18:(SLC×SLC×Unit))=>
 ze prog 13 [(.agg #[(.slice u17.1.1 u17.1.2.1 u17.1.2.2),(.slice u17.2.1.1 u17.2.1.2.1 u17.2.1.2.2)]),(.agg #[(.slice u18.1.1 u18.1.2.1 u18.1.2.2),(.slice u18.2.1.1 u18.2.1.2.1 u18.2.1.2.2)])] (.one (.one .bool)) fun(u19:Bool)=>
 za u19 (za (u9.2.1==u11.2.1) (za (u14.1==u16.1) (za (u14.2.1==u16.2.1) (zl [.slc,.slc] (aD r1) fun(u20:(SLC×SLC×Unit))=>
 zl [.slc,.slc] (aD r1) fun(u21:(SLC×SLC×Unit))=>
 ze prog 19 [(.agg #[(.slice u20.1.1 u20.1.2.1 u20.1.2.2),(.slice u20.2.1.1 u20.2.1.2.1 u20.2.1.2.2)])] (.one (.one (.int .i64))) fun(u22:Int)=>
 zr [[((aD r1).add 0,(.slice u21.1.1 u21.1.2.1 u21.1.2.2)),((aD r1).add 1,(.slice u21.2.1.1 u21.2.1.2.1 u21.2.1.2.2))]]<|
 ze prog 20 [(.agg #[(.slice u21.1.1 u21.1.2.1 u21.1.2.2),(.slice u21.2.1.1 u21.2.1.2.1 u21.2.1.2.2)])] (.one (.one (.int .i64))) fun(u23:Int)=>
 za (u22==u23) (zl [.slc,.slc] (aD r1) fun(u24:(SLC×SLC×Unit))=>
 zl [.slc,.slc] (aD r1) fun(u25:(SLC×SLC×Unit))=>
 ze prog 21 [(.agg #[(.slice u24.1.1 u24.1.2.1 u24.1.2.2),(.slice u24.2.1.1 u24.2.1.2.1 u24.2.1.2.2)])] (.one (.agg [.slc,.slc])) fun(u26:(SLC×SLC×Unit))=>
 zr [[((aD r1).add 0,(.slice u25.1.1 u25.1.2.1 u25.1.2.2)),((aD r1).add 1,(.slice u25.2.1.1 u25.2.1.2.1 u25.2.1.2.2))]]<|
 ze prog 13 [(.agg #[(.slice u26.1.1 u26.1.2.1 u26.1.2.2),(.slice u26.2.1.1 u26.2.1.2.1 u26.2.1.2.2)]),(.agg #[(.slice u25.1.1 u25.1.2.1 u25.1.2.2),(.slice u25.2.1.1 u25.2.1.2.1 u25.2.1.2.2)])] (.one (.one .bool)) fun(u27:Bool)=>K (.bool u27))<|K (.bool false))<|K (.bool false))<|K (.bool false))<|K (.bool false))<|K (.bool false))<|K (.bool false))<|K (.bool false)
theorem zpQ (Af:Option Addr) (Ag Ah:Nat) (Aa:Option Addr) (Ab Ac:Nat) (x1:ByteArray) (x2:ByteArray) {K:Value->WP} {w:World} (h:S4 Af Ag Ah Aa Ab Ac x1 x2 K w):Calls prog 4 #[(.agg #[(.slice Af Ag Ah),(.slice Aa Ab Ac)]),(.string x1),(.string x2)] w (Ret K):=cF an4 false Tryz.func4 h
def an9:Ann:=(AN (AN (AR (AN (AQ AO AP)) (AN (AN (AN AO))))))
def S9  (K:Value->WP):WP:=
 ze prog 22 [] (.many [(.one .ptr),(.one .ptr)]) fun(u1:Option Addr×Option Addr×Unit)=>
 za (Option.isNone u1.2.1) (K (.bool false))<|
 ze prog 27 [(.pointer u1.2.1),(.agg #[(.slice none 0 0),(.slice none 0 0)])] (.many [(.one (.int .u32)),(.one (.int .i64))]) fun(u2:Int×Int×Unit)=>
 ze prog 23 [(.int .u32 (0:Int)),(.int .u32 (0:Int))] (.one (.agg [.slc,.slc])) fun(u3:(SLC×SLC×Unit))=>
 ze prog 27 [(.pointer u1.2.1),(.agg #[(.slice u3.1.1 u3.1.2.1 u3.1.2.2),(.slice u3.2.1.1 u3.2.1.2.1 u3.2.1.2.2)])] (.many [(.one (.int .u32)),(.one (.int .i64))]) fun(u4:Int×Int×Unit)=>
 ze prog 25 [(.pointer u1.2.1),(.int .u32 u4.1)] (.many [(.agg [.slc,.slc]),(.one (.int .i64))]) fun(u5:(SLC×SLC×Unit)×Int×Unit)=>
 zi (.cells #[(.slice none 0 0),(.slice none 0 0)] 25) fun(r6:Nat)=>
 zc ((#[(.slice u5.1.1.1 u5.1.1.2.1 u5.1.1.2.2),(.slice u5.1.2.1.1 u5.1.2.1.2.1 u5.1.2.1.2.2)]:Array Value).size=2)<|
 zt (aD r6) [(.slice u5.1.1.1 u5.1.1.2.1 u5.1.1.2.2),(.slice u5.1.2.1.1 u5.1.2.1.2.1 u5.1.2.1.2.2)]<|
 zD<|
 za (u2.2.1==(0:Int)) (za (u2.1==(0:Int)) (za (u4.2.1==(0:Int)) (za (u4.1 !=(0:Int)) (za (u5.2.1==(0:Int)) (zl [.slc,.slc] (aD r6) fun(u7:(SLC×SLC×Unit))=>
 ze prog 23 [(.int .u32 (0:Int)),(.int .u32 (0:Int))] (.one (.agg [.slc,.slc])) fun(u8:(SLC×SLC×Unit))=>
 zr [[((aD r6).add 0,(.slice u7.1.1 u7.1.2.1 u7.1.2.2)),((aD r6).add 1,(.slice u7.2.1.1 u7.2.1.2.1 u7.2.1.2.2))]]<|
 ze prog 13 [(.agg #[(.slice u7.1.1 u7.1.2.1 u7.1.2.2),(.slice u7.2.1.1 u7.2.1.2.1 u7.2.1.2.2)]),(.agg #[(.slice u8.1.1 u8.1.2.1 u8.1.2.2),(.slice u8.2.1.1 u8.2.1.2.1 u8.2.1.2.2)])] (.one (.one .bool)) fun(u9:Bool)=>K (.bool u9))<|K (.bool false))<|K (.bool false))<|K (.bool false))<|K (.bool false))<|K (.bool false)
theorem zpR  {K:Value->WP} {w:World} (h:S9  K w):Calls prog 9 #[] w (Ret K):=cF an9 false Tryz.func9 h
def an10:Ann:=(AN (AR (AN (.block (.loop [(3,.sh (.one (.int .i64)))] [1,1000000] (AR (AN (AQ AP AP)) (AR (.block (AN (AQ AO AP))) AP))))) (AR (AN (.block (.loop [(4,.sh (.one (.int .i64)))] [1,1000000] (AR (AN (AQ AP AP)) (AR (.block (AN (AQ AO AP))) AP))))) AO)))
def S10 (Af:Option Addr) (Ag Ah:Nat) (Aa:Option Addr) (Ab Ac:Nat) (K:Value->WP):WP:=
 zi (.cells #[(.slice Af Ag Ah),(.slice Aa Ab Ac)] 25) fun(r1:Nat)=>
 zB (Int×Unit) ((0:Int),()) fun(y3:Int×Unit) (I2:(Int×Unit)->WP)=>
 ldW .slc (aD r1) fun(u4:SLC)=>
 za (decide (y3.1<((u4.2.1:Nat):Int))) (ldW .slc (aD r1) fun(u5:SLC)=>
 zc (0<=y3.1/\y3.1<((u5.2.1:Nat):Int))<|
 zh u5.1 fun(p6:Addr)=>
 ldW .str (p6.add (Int.toNat y3.1*5)) fun(u7:ByteArray)=>
 za (decide (((u7.size:Nat):Int)>(60:Int))) (K (.bool false))<|
 ldW .slc (aD r1) fun(u8:SLC)=>
 zc (0<=y3.1/\y3.1<((u8.2.1:Nat):Int))<|
 zh u8.1 fun(p9:Addr)=>
 ldW .slc ((p9.add (Int.toNat y3.1*5)).add 1) fun(u10:SLC)=>
 ze prog 39 [(.slice u10.1 u10.2.1 u10.2.2)] (.one (.one .bool)) fun(u11:Bool)=>
 za (!u11) (K (.bool false))<|I2 ((wrap .i64 (y3.1+(1:Int))),()))<|
 zB (Int×Unit) ((0:Int),()) fun(y13:Int×Unit) (I12:(Int×Unit)->WP)=>
 ldW .slc ((aD r1).add 1) fun(u14:SLC)=>
 za (decide (y13.1<((u14.2.1:Nat):Int))) (ldW .slc ((aD r1).add 1) fun(u15:SLC)=>
 zc (0<=y13.1/\y13.1<((u15.2.1:Nat):Int))<|
 zh u15.1 fun(p16:Addr)=>
 ldW .str (p16.add (Int.toNat y13.1*2)) fun(u17:ByteArray)=>
 za (decide (((u17.size:Nat):Int)>(60:Int))) (K (.bool false))<|I12 ((wrap .i64 (y13.1+(1:Int))),()))<|
 ldW .slc (aD r1) fun(u18:SLC)=>
 za (decide (((u18.2.1:Nat):Int)<=(20:Int))) (ldW .slc ((aD r1).add 1) fun(u19:SLC)=>K (.bool (decide (((u19.2.1:Nat):Int)<=(20:Int)))))<|K (.bool false)
theorem zn0 (Af:Option Addr) (Ag Ah:Nat) (Aa:Option Addr) (Ab Ac:Nat) {K:Value->WP} {w:World} (h:S10 Af Ag Ah Aa Ab Ac K w):Calls prog 10 #[(.agg #[(.slice Af Ag Ah),(.slice Aa Ab Ac)])] w (Ret K):=cF an10 false Tryz.func10 h
def an11:Ann:=(AN (AR (AN (AN (AQ AO AP))) (AN (AR (AN (.block (.loop [(5,.sh (.one .slc)),(25,.sh (.one (.int .i64)))] [1,23,24,1000000] (AN (AR (AQ AP AP) (AR (.block (AN (AN (AR (AN (AQ AO AP)) (AN AO))))) AP)))))) (AN (AR (AN (.block (.loop [(5,.sh (.one .slc)),(67,.sh (.one (.int .i64)))] [65,66,1000000] (AN (AR (AQ AP AP) (AR (.block AO) AP)))))) AO))))))
def S11 (Af:Option Addr) (Ag Ah:Nat) (Aa:Option Addr) (Ab Ac:Nat) (K:Value->WP):WP:=
 zi (.cells #[(.slice Af Ag Ah),(.slice Aa Ab Ac)] 25) fun(r1:Nat)=>
 zl [.slc,.slc] (aD r1) fun(u2:(SLC×SLC×Unit))=>
 ze prog 19 [(.agg #[(.slice u2.1.1 u2.1.2.1 u2.1.2.2),(.slice u2.2.1.1 u2.2.1.2.1 u2.2.1.2.2)])] (.one (.one (.int .i64))) fun(u3:Int)=>
 za (u3 !=(0:Int)) (K (.tuple #[(.string (ByteArray.mk #[])),(.int .i64 u3)]))<|
 ldW .slc (aD r1) fun(u4:SLC)=>
 zi (.cells #[(.int .u8 (wrap .u8 ((u4.2.1:Nat):Int)))] 5) fun(r5:Nat)=>
 ldW .slc (aD r1) fun(u6:SLC)=>
 zB (SLC×Int×Unit) (((some (aD r5)),1,1),(0:Int),()) fun(y8:SLC×Int×Unit) (I7:(SLC×Int×Unit)->WP)=>
 za (decide (y8.2.1<((u6.2.1:Nat):Int))) (zc (0<=y8.2.1/\y8.2.1<((u6.2.1:Nat):Int))<|
 zh u6.1 fun(p9:Addr)=>
 zl [.str,.slc,(.int .u32),(.int .u64),(.int .i64)] (p9.add (Int.toNat y8.2.1*5)) fun(u10:(ByteArray×SLC×Int×Int×Int×Unit))=>
 zi (.cells #[(.string ByteArray.empty),(.slice none 0 0),(.int .u32 (0:Int)),(.int .u64 (0:Int)),(.int .i64 (0:Int))] 44) fun(r11:Nat)=>
 zc ((#[(.string u10.1),(.slice u10.2.1.1 u10.2.1.2.1 u10.2.1.2.2),(.int .u32 u10.2.2.1),(.int .u64 u10.2.2.2.1),(.int .i64 u10.2.2.2.2.1)]:Array Value).size=5)<|
 zt (aD r11) [(.string u10.1),(.slice u10.2.1.1 u10.2.1.2.1 u10.2.1.2.2),(.int .u32 u10.2.2.1),(.int .u64 u10.2.2.2.1),(.int .i64 u10.2.2.2.2.1)]<|
 ldW .slc ((aD r11).add 1) fun(u12:SLC)=>
 ze prog 40 [(.slice u12.1 u12.2.1 u12.2.2)] (.many [(.one .str),(.one (.int .i64))]) fun(u13:ByteArray×Int×Unit)=>
 za (u13.2.1 !=(0:Int)) (K (.tuple #[(.string (ByteArray.mk #[])),(.int .i64 u13.2.1)]))<|
 ldW .str (aD r11) fun(u14:ByteArray)=>
 ze prog 41 [(.slice y8.1.1 y8.1.2.1 y8.1.2.2),(.string u14)] (.one (.one .slc)) fun(u15:SLC)=>
 zv prog (Builtin.append_ #[85,9] 85 #[(.slice u15.1 u15.2.1 u15.2.2),(.string u13.1)]) .slc fun(u16:SLC)=>
 zD<|
 ldW (.int .u64) ((aD r11).add 3) fun(u17:Int)=>
 ldW (.int .i64) ((aD r11).add 4) fun(u18:Int)=>
 ze prog 42 [(.slice u16.1 u16.2.1 u16.2.2),(.int .u64 u17),(.int .i64 (8:Int))] (.one (.one .slc)) fun(u19:SLC)=>
 zr [[(((aD r11).add 4),(.int .i64 u18))]]<|
 ze prog 42 [(.slice u19.1 u19.2.1 u19.2.2),(.int .u64 (wrap .u64 u18)),(.int .i64 (4:Int))] (.one (.one .slc)) fun(u20:SLC)=>
 ldW (.int .u32) ((aD r11).add 2) fun(u21:Int)=>
 ze prog 43 [(.slice u20.1 u20.2.1 u20.2.2),(.int .u32 u21)] (.one (.one .slc)) fun(u22:SLC)=>I7 ((u22.1,u22.2.1,u22.2.2),(wrap .i64 (y8.2.1+(1:Int))),()))<|
 ldW .slc ((aD r1).add 1) fun(u23:SLC)=>
 zi (.cells #[(.int .u8 (wrap .u8 ((u23.2.1:Nat):Int)))] 5) fun(r24:Nat)=>
 zv prog (Builtin.append_ #[85,85] 85 #[(.slice y8.1.1 y8.1.2.1 y8.1.2.2),(.slice (some (aD r24)) 1 1)]) .slc fun(u25:SLC)=>
 ldW .slc ((aD r1).add 1) fun(u26:SLC)=>
 zB (SLC×Int×Unit) ((u25.1,u25.2.1,u25.2.2),(0:Int),()) fun(y28:SLC×Int×Unit) (I27:(SLC×Int×Unit)->WP)=>
 za (decide (y28.2.1<((u26.2.1:Nat):Int))) (zc (0<=y28.2.1/\y28.2.1<((u26.2.1:Nat):Int))<|
 zh u26.1 fun(p29:Addr)=>
 zl [.str,(.int .u32)] (p29.add (Int.toNat y28.2.1*2)) fun(u30:(ByteArray×Int×Unit))=>
 zi (.cells #[(.string ByteArray.empty),(.int .u32 (0:Int))] 46) fun(r31:Nat)=>
 zc ((#[(.string u30.1),(.int .u32 u30.2.1)]:Array Value).size=2)<|
 zt (aD r31) [(.string u30.1),(.int .u32 u30.2.1)]<|
 zD<|
 ldW .str (aD r31) fun(u32:ByteArray)=>
 ldW (.int .u32) ((aD r31).add 1) fun(u33:Int)=>
 ze prog 41 [(.slice y28.1.1 y28.1.2.1 y28.1.2.2),(.string u32)] (.one (.one .slc)) fun(u34:SLC)=>
 zr [[(((aD r31).add 1),(.int .u32 u33))]]<|
 ze prog 43 [(.slice u34.1 u34.2.1 u34.2.2),(.int .u32 u33)] (.one (.one .slc)) fun(u35:SLC)=>I27 ((u35.1,u35.2.1,u35.2.2),(wrap .i64 (y28.2.1+(1:Int))),()))<|
 zv prog (Go.convert 85 9 (.slice y28.1.1 y28.1.2.1 y28.1.2.2)) .str fun(u36:ByteArray)=>K (.tuple #[(.string u36),(.int .i64 (0:Int))])
theorem zn1 (Af:Option Addr) (Ag Ah:Nat) (Aa:Option Addr) (Ab Ac:Nat) {K:Value->WP} {w:World} (h:S11 Af Ag Ah Aa Ab Ac K w):Calls prog 11 #[(.agg #[(.slice Af Ag Ah),(.slice Aa Ab Ac)])] w (Ret K):=cF an11 false Tryz.func11 h
def an12:Ann:=(AN (AN (.join [] [2,4,1000000] (AN (.block (.loop [(5,.sh (.one (.int .u64)))] [2,4,1000000] (AR (AN (AQ AP AP)) (AR (.block AP) AP))))) (.join [] [2,4,1000000] (AN (.block (.loop [(6,.sh (.one (.int .u64)))] [2,4,1000000] (AR (AN (AQ AP AP)) (AR (.block AP) AP))))) (AR (AN (AQ AO AP)) AO)))))
def S12 (x0:ByteArray) (K:Value->WP):WP:=
 zi (.cells #[(.slice none 0 0),(.slice none 0 0)] 25) fun(r1:Nat)=>
 zi (.cells #[(.string x0),(.int .i64 (0:Int))] 92) fun(r2:Nat)=>
 yD (Unit) (fun(J3:(Unit)->WP)=>
 ze prog 44 [(.pointer (some (aD r2))),(.int .i64 (1:Int))] (.one (.one (.int .u64))) fun(u5:Int)=>
 zB (Int×Unit) (u5,()) fun(y7:Int×Unit) (I6:(Int×Unit)->WP)=>
 za (decide (y7.1>(0:Int))) (zh (some (aD r2)) fun(p8:Addr)=>
 ldW (.int .i64) (p8.add 1) fun(u9:Int)=>
 za (u9==(0:Int)) (zD<|
 ldW .slc (aD r1) fun(u10:SLC)=>
 ze prog 45 [(.pointer (some (aD r2)))] (.one (.one .str)) fun(u11:ByteArray)=>
 zr [[((aD r1),(.slice u10.1 u10.2.1 u10.2.2))]]<|
 ze prog 46 [(.pointer (some (aD r2)))] (.one (.one .slc)) fun(u12:SLC)=>
 zr [[((aD r1),(.slice u10.1 u10.2.1 u10.2.2))]]<|
 ze prog 44 [(.pointer (some (aD r2))),(.int .i64 (8:Int))] (.one (.one (.int .u64))) fun(u13:Int)=>
 zr [[((aD r1),(.slice u10.1 u10.2.1 u10.2.2))]]<|
 ze prog 44 [(.pointer (some (aD r2))),(.int .i64 (4:Int))] (.one (.one (.int .u64))) fun(u14:Int)=>
 zr [[((aD r1),(.slice u10.1 u10.2.1 u10.2.2))]]<|
 ze prog 47 [(.pointer (some (aD r2)))] (.one (.one (.int .u32))) fun(u15:Int)=>
 zr [[((aD r1),(.slice u10.1 u10.2.1 u10.2.2))]]<|
 zi (.cells #[(.string u11),(.slice u12.1 u12.2.1 u12.2.2),(.int .u32 u15),(.int .u64 u13),(.int .i64 (wrap .i64 u14))] 44) fun(r16:Nat)=>
 zr [[((aD r1),(.slice u10.1 u10.2.1 u10.2.2))]]<|
 zv prog (Builtin.append_ #[22,22] 22 #[(.slice u10.1 u10.2.1 u10.2.2),(.slice (some (aD r16)) 1 1)]) .slc fun(u17:SLC)=>
 stW (aD r1) (.slice u17.1 u17.2.1 u17.2.2)<|I6 ((wrap .u64 (y7.1-(1:Int))),()))<|J3 ())<|J3 ()) fun(y4:Unit)=>
 yD (Unit) (fun(J18:(Unit)->WP)=>
 ze prog 44 [(.pointer (some (aD r2))),(.int .i64 (1:Int))] (.one (.one (.int .u64))) fun(u20:Int)=>
 zB (Int×Unit) (u20,()) fun(y22:Int×Unit) (I21:(Int×Unit)->WP)=>
 za (decide (y22.1>(0:Int))) (zh (some (aD r2)) fun(p23:Addr)=>
 ldW (.int .i64) (p23.add 1) fun(u24:Int)=>
 za (u24==(0:Int)) (zD<|
 ldW .slc ((aD r1).add 1) fun(u25:SLC)=>
 ze prog 45 [(.pointer (some (aD r2)))] (.one (.one .str)) fun(u26:ByteArray)=>
 zr [[(((aD r1).add 1),(.slice u25.1 u25.2.1 u25.2.2))]]<|
 ze prog 47 [(.pointer (some (aD r2)))] (.one (.one (.int .u32))) fun(u27:Int)=>
 zr [[(((aD r1).add 1),(.slice u25.1 u25.2.1 u25.2.2))]]<|
 zi (.cells #[(.string u26),(.int .u32 u27)] 46) fun(r28:Nat)=>
 zr [[(((aD r1).add 1),(.slice u25.1 u25.2.1 u25.2.2))]]<|
 zv prog (Builtin.append_ #[23,23] 23 #[(.slice u25.1 u25.2.1 u25.2.2),(.slice (some (aD r28)) 1 1)]) .slc fun(u29:SLC)=>
 stW ((aD r1).add 1) (.slice u29.1 u29.2.1 u29.2.2)<|I21 ((wrap .u64 (y22.1-(1:Int))),()))<|J18 ())<|J18 ()) fun(y19:Unit)=>
 zh (some (aD r2)) fun(p30:Addr)=>
 ldW (.int .i64) (p30.add 1) fun(u31:Int)=>
 za (u31 !=(0:Int)) (zc ((#[(.slice none 0 0),(.slice none 0 0)]:Array Value).size=2)<|
 zt (aD r1) [(.slice none 0 0),(.slice none 0 0)]<|
 zl [.slc,.slc] (aD r1) fun(u32:(SLC×SLC×Unit))=>K (.tuple #[(.agg #[(.slice u32.1.1 u32.1.2.1 u32.1.2.2),(.slice u32.2.1.1 u32.2.1.2.1 u32.2.1.2.2)]),(.int .i64 (240:Int))]))<|
 zh (some (aD r2)) fun(p33:Addr)=>
 ldW .str p33 fun(u34:ByteArray)=>
 za (!(u34.toList==(ByteArray.mk #[]).toList)) (zc ((#[(.slice none 0 0),(.slice none 0 0)]:Array Value).size=2)<|
 zt (aD r1) [(.slice none 0 0),(.slice none 0 0)]<|
 zl [.slc,.slc] (aD r1) fun(u35:(SLC×SLC×Unit))=>K (.tuple #[(.agg #[(.slice u35.1.1 u35.1.2.1 u35.1.2.2),(.slice u35.2.1.1 u35.2.1.2.1 u35.2.1.2.2)]),(.int .i64 (240:Int))]))<|
 zl [.slc,.slc] (aD r1) fun(u36:(SLC×SLC×Unit))=>
 ze prog 19 [(.agg #[(.slice u36.1.1 u36.1.2.1 u36.1.2.2),(.slice u36.2.1.1 u36.2.1.2.1 u36.2.1.2.2)])] (.one (.one (.int .i64))) fun(u37:Int)=>
 za (u37 !=(0:Int)) (zc ((#[(.slice none 0 0),(.slice none 0 0)]:Array Value).size=2)<|
 zt (aD r1) [(.slice none 0 0),(.slice none 0 0)]<|
 zl [.slc,.slc] (aD r1) fun(u38:(SLC×SLC×Unit))=>K (.tuple #[(.agg #[(.slice u38.1.1 u38.1.2.1 u38.1.2.2),(.slice u38.2.1.1 u38.2.1.2.1 u38.2.1.2.2)]),(.int .i64 (240:Int))]))<|
 zl [.slc,.slc] (aD r1) fun(u39:(SLC×SLC×Unit))=>
 zc ((#[(.slice u39.1.1 u39.1.2.1 u39.1.2.2),(.slice u39.2.1.1 u39.2.1.2.1 u39.2.1.2.2)]:Array Value).size=2)<|
 zt (aD r1) [(.slice u39.1.1 u39.1.2.1 u39.1.2.2),(.slice u39.2.1.1 u39.2.1.2.1 u39.2.1.2.2)]<|
 zl [.slc,.slc] (aD r1) fun(u40:(SLC×SLC×Unit))=>K (.tuple #[(.agg #[(.slice u40.1.1 u40.1.2.1 u40.1.2.2),(.slice u40.2.1.1 u40.2.1.2.1 u40.2.1.2.2)]),(.int .i64 (0:Int))])
theorem zn2 (x0:ByteArray) {K:Value->WP} {w:World} (h:S12 x0 K w):Calls prog 12 #[(.string x0)] w (Ret K):=cF an12 false Tryz.func12 h
def an13:Ann:=(AN (AR (AN (AQ AO AP)) (AR (AN (.block (.loop [(5,.sh (.one (.int .i64)))] [2,3,1000000] (AR (AN (AQ AP AP)) (AR (.block (AN (AR (AN (AQ AO AP)) (AN (.block (.loop [(8,.sh (.one (.int .i64)))] [2,3,5,6,7,1000000] (AR (AN (AQ AP AP)) (AR (.block (AN (AQ AO AP))) AP)))))))) AP))))) (AR (AN (.block (.loop [(9,.sh (.one (.int .i64)))] [2,3,1000000] (AR (AN (AQ AP AP)) (AR (.block (AN (AQ AO AP))) AP))))) AO))))
def S13 (Af:Option Addr) (Ag Ah:Nat) (Aa:Option Addr) (Ab Ac:Nat) (Ax:Option Addr) (Ay Az:Nat) (As:Option Addr) (Au Av:Nat) (K:Value->WP):WP:=
 zi (.cells #[(.slice Af Ag Ah),(.slice Aa Ab Ac)] 25) fun(r1:Nat)=>
 zi (.cells #[(.slice Ax Ay Az),(.slice As Au Av)] 25) fun(r2:Nat)=>
 ldW .slc (aD r1) fun(u3:SLC)=>
 ldW .slc (aD r2) fun(u4:SLC)=>
 za (((u3.2.1:Nat):Int) !=((u4.2.1:Nat):Int)) (K (.bool false))<|
 ldW .slc ((aD r1).add 1) fun(u5:SLC)=>
 ldW .slc ((aD r2).add 1) fun(u6:SLC)=>
 za (((u5.2.1:Nat):Int) !=((u6.2.1:Nat):Int)) (K (.bool false))<|
 zB (Int×Unit) ((0:Int),()) fun(y8:Int×Unit) (I7:(Int×Unit)->WP)=>
 ldW .slc (aD r1) fun(u9:SLC)=>
 za (decide (y8.1<((u9.2.1:Nat):Int))) (zD<|
 ldW .slc (aD r1) fun(u10:SLC)=>
 zc (0<=y8.1/\y8.1<((u10.2.1:Nat):Int))<|
 zh u10.1 fun(p11:Addr)=>
 zl [.str,.slc,(.int .u32),(.int .u64),(.int .i64)] (p11.add (Int.toNat y8.1*5)) fun(u12:(ByteArray×SLC×Int×Int×Int×Unit))=>
 ldW .slc (aD r2) fun(u13:SLC)=>
 zc (0<=y8.1/\y8.1<((u13.2.1:Nat):Int))<|
 zh u13.1 fun(p14:Addr)=>
 zl [.str,.slc,(.int .u32),(.int .u64),(.int .i64)] (p14.add (Int.toNat y8.1*5)) fun(u15:(ByteArray×SLC×Int×Int×Int×Unit))=>
 kW (zi (.cells #[(.string ByteArray.empty),(.slice none 0 0),(.int .u32 (0:Int)),(.int .u64 (0:Int)),(.int .i64 (0:Int))] 44) fun(r16:Nat)=>
 zr [[((p14.add (Int.toNat y8.1*5)).add 0,(.string u15.1)),((p14.add (Int.toNat y8.1*5)).add 1,(.slice u15.2.1.1 u15.2.1.2.1 u15.2.1.2.2)),((p14.add (Int.toNat y8.1*5)).add 2,(.int .u32 u15.2.2.1)),((p14.add (Int.toNat y8.1*5)).add 3,(.int .u64 u15.2.2.2.1)),((p14.add (Int.toNat y8.1*5)).add 4,(.int .i64 u15.2.2.2.2.1))],[((aD r2),(.slice u13.1 u13.2.1 u13.2.2))],[((p11.add (Int.toNat y8.1*5)).add 0,(.string u12.1)),((p11.add (Int.toNat y8.1*5)).add 1,(.slice u12.2.1.1 u12.2.1.2.1 u12.2.1.2.2)),((p11.add (Int.toNat y8.1*5)).add 2,(.int .u32 u12.2.2.1)),((p11.add (Int.toNat y8.1*5)).add 3,(.int .u64 u12.2.2.2.1)),((p11.add (Int.toNat y8.1*5)).add 4,(.int .i64 u12.2.2.2.2.1))],[((aD r1),(.slice u10.1 u10.2.1 u10.2.2))]]<|
 zi (.cells #[(.string ByteArray.empty),(.slice none 0 0),(.int .u32 (0:Int)),(.int .u64 (0:Int)),(.int .i64 (0:Int))] 44) fun(r17:Nat)=>
 zr [[((p14.add (Int.toNat y8.1*5)).add 0,(.string u15.1)),((p14.add (Int.toNat y8.1*5)).add 1,(.slice u15.2.1.1 u15.2.1.2.1 u15.2.1.2.2)),((p14.add (Int.toNat y8.1*5)).add 2,(.int .u32 u15.2.2.1)),((p14.add (Int.toNat y8.1*5)).add 3,(.int .u64 u15.2.2.2.1)),((p14.add (Int.toNat y8.1*5)).add 4,(.int .i64 u15.2.2.2.2.1))],[((aD r2),(.slice u13.1 u13.2.1 u13.2.2))],[((p11.add (Int.toNat y8.1*5)).add 0,(.string u12.1)),((p11.add (Int.toNat y8.1*5)).add 1,(.slice u12.2.1.1 u12.2.1.2.1 u12.2.1.2.2)),((p11.add (Int.toNat y8.1*5)).add 2,(.int .u32 u12.2.2.1)),((p11.add (Int.toNat y8.1*5)).add 3,(.int .u64 u12.2.2.2.1)),((p11.add (Int.toNat y8.1*5)).add 4,(.int .i64 u12.2.2.2.2.1))],[((aD r1),(.slice u10.1 u10.2.1 u10.2.2))]]<|
 zc ((#[(.string u12.1),(.slice u12.2.1.1 u12.2.1.2.1 u12.2.1.2.2),(.int .u32 u12.2.2.1),(.int .u64 u12.2.2.2.1),(.int .i64 u12.2.2.2.2.1)]:Array Value).size=5)<|
 zt (aD r16) [(.string u12.1),(.slice u12.2.1.1 u12.2.1.2.1 u12.2.1.2.2),(.int .u32 u12.2.2.1),(.int .u64 u12.2.2.2.1),(.int .i64 u12.2.2.2.2.1)]<|
 zr [[((p14.add (Int.toNat y8.1*5)).add 0,(.string u15.1)),((p14.add (Int.toNat y8.1*5)).add 1,(.slice u15.2.1.1 u15.2.1.2.1 u15.2.1.2.2)),((p14.add (Int.toNat y8.1*5)).add 2,(.int .u32 u15.2.2.1)),((p14.add (Int.toNat y8.1*5)).add 3,(.int .u64 u15.2.2.2.1)),((p14.add (Int.toNat y8.1*5)).add 4,(.int .i64 u15.2.2.2.2.1))],[((aD r2),(.slice u13.1 u13.2.1 u13.2.2))]]<|
 zc ((#[(.string u15.1),(.slice u15.2.1.1 u15.2.1.2.1 u15.2.1.2.2),(.int .u32 u15.2.2.1),(.int .u64 u15.2.2.2.1),(.int .i64 u15.2.2.2.2.1)]:Array Value).size=5)<|
 zt (aD r17) [(.string u15.1),(.slice u15.2.1.1 u15.2.1.2.1 u15.2.1.2.2),(.int .u32 u15.2.2.1),(.int .u64 u15.2.2.2.1),(.int .i64 u15.2.2.2.2.1)]<|
 ldW .str (aD r16) fun(u18:ByteArray)=>
 ldW .str (aD r17) fun(u19:ByteArray)=>
 za (!(u18.toList==u19.toList)) (K (.bool false))<|
 ldW (.int .u32) ((aD r16).add 2) fun(u20:Int)=>
 ldW (.int .u32) ((aD r17).add 2) fun(u21:Int)=>
 za (u20 !=u21) (K (.bool false))<|
 ldW (.int .u64) ((aD r16).add 3) fun(u22:Int)=>
 ldW (.int .u64) ((aD r17).add 3) fun(u23:Int)=>
 za (u22 !=u23) (K (.bool false))<|
 ldW (.int .i64) ((aD r16).add 4) fun(u24:Int)=>
 ldW (.int .i64) ((aD r17).add 4) fun(u25:Int)=>
 za (u24 !=u25) (K (.bool false))<|
 ldW .slc ((aD r16).add 1) fun(u26:SLC)=>
 ldW .slc ((aD r17).add 1) fun(u27:SLC)=>
 za (((u26.2.1:Nat):Int) !=((u27.2.1:Nat):Int)) (K (.bool false))<|
 zB (Int×Unit) ((0:Int),()) fun(y29:Int×Unit) (I28:(Int×Unit)->WP)=>
 ldW .slc ((aD r16).add 1) fun(u30:SLC)=>
 za (decide (y29.1<((u30.2.1:Nat):Int))) (zD<|
 ldW .slc ((aD r16).add 1) fun(u31:SLC)=>
 zc (0<=y29.1/\y29.1<((u31.2.1:Nat):Int))<|
 zh u31.1 fun(p32:Addr)=>
 zl [.str,(.int .i64),.bool] (p32.add (Int.toNat y29.1*3)) fun(u33:(ByteArray×Int×Bool×Unit))=>
 ldW .slc ((aD r17).add 1) fun(u34:SLC)=>
 zc (0<=y29.1/\y29.1<((u34.2.1:Nat):Int))<|
 zh u34.1 fun(p35:Addr)=>
 zl [.str,(.int .i64),.bool] (p35.add (Int.toNat y29.1*3)) fun(u36:(ByteArray×Int×Bool×Unit))=>
 eqW prog (eqS .neq 62 (.tmp 89) (.tmp 94) (.agg #[(.string u33.1),(.int .i64 u33.2.1),(.bool u33.2.2.1)]) (.agg #[(.string u36.1),(.int .i64 u36.2.1),(.bool u36.2.2.1)])) fun(b37:Bool)=>
 za b37 (K (.bool false))<|I28 ((wrap .i64 (y29.1+(1:Int))),()))<|I7 ((wrap .i64 (y8.1+(1:Int))),()))<|
 zi (.cells #[(.string ByteArray.empty),(.slice none 0 0),(.int .u32 (0:Int)),(.int .u64 (0:Int)),(.int .i64 (0:Int))] 44) fun(r38:Nat)=>
 zr [[((p14.add (Int.toNat y8.1*5)).add 0,(.string u15.1)),((p14.add (Int.toNat y8.1*5)).add 1,(.slice u15.2.1.1 u15.2.1.2.1 u15.2.1.2.2)),((p14.add (Int.toNat y8.1*5)).add 2,(.int .u32 u15.2.2.1)),((p14.add (Int.toNat y8.1*5)).add 3,(.int .u64 u15.2.2.2.1)),((p14.add (Int.toNat y8.1*5)).add 4,(.int .i64 u15.2.2.2.2.1))],[((aD r2),(.slice u13.1 u13.2.1 u13.2.2))],[((p11.add (Int.toNat y8.1*5)).add 0,(.string u12.1)),((p11.add (Int.toNat y8.1*5)).add 1,(.slice u12.2.1.1 u12.2.1.2.1 u12.2.1.2.2)),((p11.add (Int.toNat y8.1*5)).add 2,(.int .u32 u12.2.2.1)),((p11.add (Int.toNat y8.1*5)).add 3,(.int .u64 u12.2.2.2.1)),((p11.add (Int.toNat y8.1*5)).add 4,(.int .i64 u12.2.2.2.2.1))],[((aD r1),(.slice u10.1 u10.2.1 u10.2.2))]]<|
 zi (.cells #[(.string ByteArray.empty),(.slice none 0 0),(.int .u32 (0:Int)),(.int .u64 (0:Int)),(.int .i64 (0:Int))] 44) fun(r39:Nat)=>
 zr [[((p14.add (Int.toNat y8.1*5)).add 0,(.string u15.1)),((p14.add (Int.toNat y8.1*5)).add 1,(.slice u15.2.1.1 u15.2.1.2.1 u15.2.1.2.2)),((p14.add (Int.toNat y8.1*5)).add 2,(.int .u32 u15.2.2.1)),((p14.add (Int.toNat y8.1*5)).add 3,(.int .u64 u15.2.2.2.1)),((p14.add (Int.toNat y8.1*5)).add 4,(.int .i64 u15.2.2.2.2.1))],[((aD r2),(.slice u13.1 u13.2.1 u13.2.2))],[((p11.add (Int.toNat y8.1*5)).add 0,(.string u12.1)),((p11.add (Int.toNat y8.1*5)).add 1,(.slice u12.2.1.1 u12.2.1.2.1 u12.2.1.2.2)),((p11.add (Int.toNat y8.1*5)).add 2,(.int .u32 u12.2.2.1)),((p11.add (Int.toNat y8.1*5)).add 3,(.int .u64 u12.2.2.2.1)),((p11.add (Int.toNat y8.1*5)).add 4,(.int .i64 u12.2.2.2.2.1))],[((aD r1),(.slice u10.1 u10.2.1 u10.2.2))]]<|
 zc ((#[(.string u12.1),(.slice u12.2.1.1 u12.2.1.2.1 u12.2.1.2.2),(.int .u32 u12.2.2.1),(.int .u64 u12.2.2.2.1),(.int .i64 u12.2.2.2.2.1)]:Array Value).size=5)<|
 zt (aD r39) [(.string u12.1),(.slice u12.2.1.1 u12.2.1.2.1 u12.2.1.2.2),(.int .u32 u12.2.2.1),(.int .u64 u12.2.2.2.1),(.int .i64 u12.2.2.2.2.1)]<|
 zr [[((p14.add (Int.toNat y8.1*5)).add 0,(.string u15.1)),((p14.add (Int.toNat y8.1*5)).add 1,(.slice u15.2.1.1 u15.2.1.2.1 u15.2.1.2.2)),((p14.add (Int.toNat y8.1*5)).add 2,(.int .u32 u15.2.2.1)),((p14.add (Int.toNat y8.1*5)).add 3,(.int .u64 u15.2.2.2.1)),((p14.add (Int.toNat y8.1*5)).add 4,(.int .i64 u15.2.2.2.2.1))],[((aD r2),(.slice u13.1 u13.2.1 u13.2.2))]]<|
 zc ((#[(.string u15.1),(.slice u15.2.1.1 u15.2.1.2.1 u15.2.1.2.2),(.int .u32 u15.2.2.1),(.int .u64 u15.2.2.2.1),(.int .i64 u15.2.2.2.2.1)]:Array Value).size=5)<|
 zt (aD r38) [(.string u15.1),(.slice u15.2.1.1 u15.2.1.2.1 u15.2.1.2.2),(.int .u32 u15.2.2.1),(.int .u64 u15.2.2.2.1),(.int .i64 u15.2.2.2.2.1)]<|
 ldW .str (aD r39) fun(u40:ByteArray)=>
 ldW .str (aD r38) fun(u41:ByteArray)=>
 za (!(u40.toList==u41.toList)) (K (.bool false))<|
 ldW (.int .u32) ((aD r39).add 2) fun(u42:Int)=>
 ldW (.int .u32) ((aD r38).add 2) fun(u43:Int)=>
 za (u42 !=u43) (K (.bool false))<|
 ldW (.int .u64) ((aD r39).add 3) fun(u44:Int)=>
 ldW (.int .u64) ((aD r38).add 3) fun(u45:Int)=>
 za (u44 !=u45) (K (.bool false))<|
 ldW (.int .i64) ((aD r39).add 4) fun(u46:Int)=>
 ldW (.int .i64) ((aD r38).add 4) fun(u47:Int)=>
 za (u46 !=u47) (K (.bool false))<|
 ldW .slc ((aD r39).add 1) fun(u48:SLC)=>
 ldW .slc ((aD r38).add 1) fun(u49:SLC)=>
 za (((u48.2.1:Nat):Int) !=((u49.2.1:Nat):Int)) (K (.bool false))<|
 zB (Int×Unit) ((0:Int),()) fun(y51:Int×Unit) (I50:(Int×Unit)->WP)=>
 ldW .slc ((aD r39).add 1) fun(u52:SLC)=>
 za (decide (y51.1<((u52.2.1:Nat):Int))) (zD<|
 ldW .slc ((aD r39).add 1) fun(u53:SLC)=>
 zc (0<=y51.1/\y51.1<((u53.2.1:Nat):Int))<|
 zh u53.1 fun(p54:Addr)=>
 zl [.str,(.int .i64),.bool] (p54.add (Int.toNat y51.1*3)) fun(u55:(ByteArray×Int×Bool×Unit))=>
 ldW .slc ((aD r38).add 1) fun(u56:SLC)=>
 zc (0<=y51.1/\y51.1<((u56.2.1:Nat):Int))<|
 zh u56.1 fun(p57:Addr)=>
 zl [.str,(.int .i64),.bool] (p57.add (Int.toNat y51.1*3)) fun(u58:(ByteArray×Int×Bool×Unit))=>
 eqW prog (eqS .neq 62 (.tmp 89) (.tmp 94) (.agg #[(.string u55.1),(.int .i64 u55.2.1),(.bool u55.2.2.1)]) (.agg #[(.string u58.1),(.int .i64 u58.2.1),(.bool u58.2.2.1)])) fun(b59:Bool)=>
 za b59 (K (.bool false))<|I50 ((wrap .i64 (y51.1+(1:Int))),()))<|I7 ((wrap .i64 (y8.1+(1:Int))),()))<|
 zB (Int×Unit) ((0:Int),()) fun(y61:Int×Unit) (I60:(Int×Unit)->WP)=>
 ldW .slc ((aD r1).add 1) fun(u62:SLC)=>
 za (decide (y61.1<((u62.2.1:Nat):Int))) (zD<|
 ldW .slc ((aD r1).add 1) fun(u63:SLC)=>
 zc (0<=y61.1/\y61.1<((u63.2.1:Nat):Int))<|
 zh u63.1 fun(p64:Addr)=>
 zl [.str,(.int .u32)] (p64.add (Int.toNat y61.1*2)) fun(u65:(ByteArray×Int×Unit))=>
 ldW .slc ((aD r2).add 1) fun(u66:SLC)=>
 zc (0<=y61.1/\y61.1<((u66.2.1:Nat):Int))<|
 zh u66.1 fun(p67:Addr)=>
 zl [.str,(.int .u32)] (p67.add (Int.toNat y61.1*2)) fun(u68:(ByteArray×Int×Unit))=>
 eqW prog (eqS .neq 46 (.tmp 107) (.tmp 112) (.agg #[(.string u65.1),(.int .u32 u65.2.1)]) (.agg #[(.string u68.1),(.int .u32 u68.2.1)])) fun(b69:Bool)=>
 za b69 (K (.bool false))<|I60 ((wrap .i64 (y61.1+(1:Int))),()))<|K (.bool true)
theorem zn3 (Af:Option Addr) (Ag Ah:Nat) (Aa:Option Addr) (Ab Ac:Nat) (Ax:Option Addr) (Ay Az:Nat) (As:Option Addr) (Au Av:Nat) {K:Value->WP} {w:World} (h:S13 Af Ag Ah Aa Ab Ac Ax Ay Az As Au Av K w):Calls prog 13 #[(.agg #[(.slice Af Ag Ah),(.slice Aa Ab Ac)]),(.agg #[(.slice Ax Ay Az),(.slice As Au Av)])] w (Ret K):=cF an13 false Tryz.func13 h
def an15:Ann:=(AN (AN (AR (AN (AQ AO AP)) (AN (AR (AN (.block (.loop [(5,.sh (.one .slc)),(6,.sh (.one (.int .i64)))] [1,1000000] (AR (AN (AQ AP AP)) (AR (.block (AN (AN AO))) AP))))) (AN (AR (AN (.block (.loop [(5,.sh (.one .slc)),(10,.sh (.one (.int .i64)))] [1,1000000] (AR (AN (AQ AP AP)) (AR (.block AP) AP))))) AO)))))))
def S15 (Af:Option Addr) (Ag Ah:Nat) (Aa:Option Addr) (Ab Ac:Nat) (K:Value->WP):WP:=
 zi (.cells #[(.slice Af Ag Ah),(.slice Aa Ab Ac)] 25) fun(r1:Nat)=>
 zl [.slc,.slc] (aD r1) fun(u2:(SLC×SLC×Unit))=>
 ze prog 20 [(.agg #[(.slice u2.1.1 u2.1.2.1 u2.1.2.2),(.slice u2.2.1.1 u2.2.1.2.1 u2.2.1.2.2)])] (.one (.one (.int .i64))) fun(u3:Int)=>
 za (u3 !=(0:Int)) (K (.tuple #[(.string (ByteArray.mk #[])),(.int .i64 u3)]))<|
 ldW .slc (aD r1) fun(u4:SLC)=>
 zi (.cells #[(.int .u8 (wrap .u8 ((u4.2.1:Nat):Int)))] 5) fun(r5:Nat)=>
 zB (SLC×Int×Unit) (((some (aD r5)),1,1),(0:Int),()) fun(y7:SLC×Int×Unit) (I6:(SLC×Int×Unit)->WP)=>
 ldW .slc (aD r1) fun(u8:SLC)=>
 za (decide (y7.2.1<((u8.2.1:Nat):Int))) (ldW .slc (aD r1) fun(u9:SLC)=>
 zc (0<=y7.2.1/\y7.2.1<((u9.2.1:Nat):Int))<|
 zh u9.1 fun(p10:Addr)=>
 zl [.str,.slc,(.int .u32),(.int .u64),(.int .i64)] (p10.add (Int.toNat y7.2.1*5)) fun(u11:(ByteArray×SLC×Int×Int×Int×Unit))=>
 zi (.cells #[(.string ByteArray.empty),(.slice none 0 0),(.int .u32 (0:Int)),(.int .u64 (0:Int)),(.int .i64 (0:Int))] 44) fun(r12:Nat)=>
 zc ((#[(.string u11.1),(.slice u11.2.1.1 u11.2.1.2.1 u11.2.1.2.2),(.int .u32 u11.2.2.1),(.int .u64 u11.2.2.2.1),(.int .i64 u11.2.2.2.2.1)]:Array Value).size=5)<|
 zt (aD r12) [(.string u11.1),(.slice u11.2.1.1 u11.2.1.2.1 u11.2.1.2.2),(.int .u32 u11.2.2.1),(.int .u64 u11.2.2.2.1),(.int .i64 u11.2.2.2.2.1)]<|
 ldW .slc ((aD r12).add 1) fun(u13:SLC)=>
 ze prog 48 [(.slice u13.1 u13.2.1 u13.2.2)] (.many [(.one .str),(.one (.int .i64))]) fun(u14:ByteArray×Int×Unit)=>
 ldW .str (aD r12) fun(u15:ByteArray)=>
 ze prog 49 [(.slice y7.1.1 y7.1.2.1 y7.1.2.2),(.string u15)] (.one (.one .slc)) fun(u16:SLC)=>
 zv prog (Builtin.append_ #[85,9] 85 #[(.slice u16.1 u16.2.1 u16.2.2),(.string u14.1)]) .slc fun(u17:SLC)=>
 zD<|
 ldW (.int .u64) ((aD r12).add 3) fun(u18:Int)=>
 ldW (.int .i64) ((aD r12).add 4) fun(u19:Int)=>
 ldW (.int .u32) ((aD r12).add 2) fun(u20:Int)=>
 ze prog 51 [(.slice u17.1 u17.2.1 u17.2.2),(.int .u64 u18),(.int .i64 (8:Int))] (.one (.one .slc)) fun(u21:SLC)=>
 zr [[(((aD r12).add 2),(.int .u32 u20))],[(((aD r12).add 4),(.int .i64 u19))]]<|
 ze prog 51 [(.slice u21.1 u21.2.1 u21.2.2),(.int .u64 (wrap .u64 u19)),(.int .i64 (4:Int))] (.one (.one .slc)) fun(u22:SLC)=>
 zr [[(((aD r12).add 2),(.int .u32 u20))]]<|
 ze prog 50 [(.slice u22.1 u22.2.1 u22.2.2),(.int .u32 u20)] (.one (.one .slc)) fun(u23:SLC)=>I6 ((u23.1,u23.2.1,u23.2.2),(wrap .i64 (y7.2.1+(1:Int))),()))<|
 ldW .slc ((aD r1).add 1) fun(u24:SLC)=>
 zi (.cells #[(.int .u8 (wrap .u8 ((u24.2.1:Nat):Int)))] 5) fun(r25:Nat)=>
 zv prog (Builtin.append_ #[85,85] 85 #[(.slice y7.1.1 y7.1.2.1 y7.1.2.2),(.slice (some (aD r25)) 1 1)]) .slc fun(u26:SLC)=>
 zB (SLC×Int×Unit) ((u26.1,u26.2.1,u26.2.2),(0:Int),()) fun(y28:SLC×Int×Unit) (I27:(SLC×Int×Unit)->WP)=>
 ldW .slc ((aD r1).add 1) fun(u29:SLC)=>
 za (decide (y28.2.1<((u29.2.1:Nat):Int))) (zD<|
 ldW .slc ((aD r1).add 1) fun(u30:SLC)=>
 zc (0<=y28.2.1/\y28.2.1<((u30.2.1:Nat):Int))<|
 zh u30.1 fun(p31:Addr)=>
 ldW .str (p31.add (Int.toNat y28.2.1*2)) fun(u32:ByteArray)=>
 ldW .slc ((aD r1).add 1) fun(u33:SLC)=>
 zc (0<=y28.2.1/\y28.2.1<((u33.2.1:Nat):Int))<|
 zh u33.1 fun(p34:Addr)=>
 ldW (.int .u32) ((p34.add (Int.toNat y28.2.1*2)).add 1) fun(u35:Int)=>
 ze prog 49 [(.slice y28.1.1 y28.1.2.1 y28.1.2.2),(.string u32)] (.one (.one .slc)) fun(u36:SLC)=>
 zr [[(((p34.add (Int.toNat y28.2.1*2)).add 1),(.int .u32 u35))],[(((aD r1).add 1),(.slice u33.1 u33.2.1 u33.2.2))]]<|
 ze prog 50 [(.slice u36.1 u36.2.1 u36.2.2),(.int .u32 u35)] (.one (.one .slc)) fun(u37:SLC)=>I27 ((u37.1,u37.2.1,u37.2.2),(wrap .i64 (y28.2.1+(1:Int))),()))<|
 zv prog (Go.convert 85 9 (.slice y28.1.1 y28.1.2.1 y28.1.2.2)) .str fun(u38:ByteArray)=>K (.tuple #[(.string u38),(.int .i64 (0:Int))])
theorem zn4 (Af:Option Addr) (Ag Ah:Nat) (Aa:Option Addr) (Ab Ac:Nat) {K:Value->WP} {w:World} (h:S15 Af Ag Ah Aa Ab Ac K w):Calls prog 15 #[(.agg #[(.slice Af Ag Ah),(.slice Aa Ab Ac)])] w (Ret K):=cF an15 false Tryz.func15 h
def an16:Ann:=(AN (AN (AN (AN (.join [] [2,4,5,1000000] (AN (.block (.loop [(7,.sh (.one (.int .i64)))] [2,4,5,6,1000000] (AR (AN (AQ AP AP)) (AR (.block (AN (AN (.join [] [2,4,5,6,7,8,9,10,1000000] AP (AN AO))))) AP))))) (AN (.join [] [2,4,5,1000000] (AN (.block (.loop [(12,.sh (.one (.int .i64)))] [2,4,5,6,1000000] (AR (AN (AQ AP AP)) (AR (.block (AN AO)) AP))))) (AR (AN (.block (.loop [(14,.sh (.one (.int .i64)))] [2,4,5,1000000] (AR (AN (AQ AP AP)) (AR (.block AP) AP))))) (AR (AN (.block (.loop [(15,.sh (.one (.int .i64)))] [2,4,5,1000000] (AR (AN (AQ AP AP)) (AR (.block AP) AP))))) (AR (AN (AQ AO AP)) AO))))))))))
def S16 (x0:ByteArray) (K:Value->WP):WP:=
 zi (.cells #[(.slice none 0 0),(.slice none 0 0)] 25) fun(r1:Nat)=>
 zi (.cells #[(.string x0),(.bool true)] 98) fun(r2:Nat)=>
 zi (.cells #[(.slice none 0 0),(.slice none 0 0)] 25) fun(r3:Nat)=>
 ze prog 52 [(.pointer (some (aD r2))),(.int .i64 (1:Int))] (.one (.one (.int .u64))) fun(u4:Int)=>
 yD (Unit) (fun(J5:(Unit)->WP)=>
 zB (Int×Unit) ((0:Int),()) fun(y8:Int×Unit) (I7:(Int×Unit)->WP)=>
 za (decide (y8.1<(wrap .i64 u4))) (zh (some (aD r2)) fun(p9:Addr)=>
 ldW .bool (p9.add 1) fun(u10:Bool)=>
 za u10 (ze prog 52 [(.pointer (some (aD r2))),(.int .i64 (1:Int))] (.one (.one (.int .u64))) fun(u11:Int)=>
 ze prog 53 [(.pointer (some (aD r2))),(.int .i64 (wrap .i64 u11))] (.one (.one .str)) fun(u12:ByteArray)=>
 zi (.cells #[(.string ByteArray.empty),(.slice none 0 0),(.int .u32 (0:Int)),(.int .u64 (0:Int)),(.int .i64 (0:Int))] 44) fun(r13:Nat)=>
 zc ((#[(.string u12),(.slice none 0 0),(.int .u32 (0:Int)),(.int .u64 (0:Int)),(.int .i64 (0:Int))]:Array Value).size=5)<|
 zt (aD r13) [(.string u12),(.slice none 0 0),(.int .u32 (0:Int)),(.int .u64 (0:Int)),(.int .i64 (0:Int))]<|
 zh (some (aD r2)) fun(p14:Addr)=>
 ldW .str p14 fun(u15:ByteArray)=>
 ze prog 54 [(.string u15)] (.many [(.one .slc),(.one .str),(.one (.int .i64))]) fun(u16:SLC×ByteArray×Int×Unit)=>
 yD (Unit) (fun(J17:(Unit)->WP)=>
 zh (some (aD r2)) fun(p19:Addr)=>
 ldW .bool (p19.add 1) fun(u20:Bool)=>
 za u20 (zh (some (aD r2)) fun(p21:Addr)=>
 stW (p21.add 1) (.bool (u16.2.2.1==(0:Int)))<|J17 ())<|
 zh (some (aD r2)) fun(p22:Addr)=>
 stW (p22.add 1) (.bool false)<|J17 ()) fun(y18:Unit)=>
 stW ((aD r13).add 1) (.slice u16.1.1 u16.1.2.1 u16.1.2.2)<|
 zh (some (aD r2)) fun(p23:Addr)=>
 stW p23 (.string u16.2.1)<|
 ze prog 52 [(.pointer (some (aD r2))),(.int .i64 (8:Int))] (.one (.one (.int .u64))) fun(u24:Int)=>
 ze prog 52 [(.pointer (some (aD r2))),(.int .i64 (4:Int))] (.one (.one (.int .u64))) fun(u25:Int)=>
 ze prog 52 [(.pointer (some (aD r2))),(.int .i64 (1:Int))] (.one (.one (.int .u64))) fun(u26:Int)=>
 stW ((aD r13).add 3) (.int .u64 u24)<|
 stW ((aD r13).add 4) (.int .i64 (wrap .i64 u25))<|
 stW ((aD r13).add 2) (.int .u32 (wrap .u32 u26))<|
 ldW .slc (aD r3) fun(u27:SLC)=>
 zl [.str,.slc,(.int .u32),(.int .u64),(.int .i64)] (aD r13) fun(u28:(ByteArray×SLC×Int×Int×Int×Unit))=>
 zi (.cells #[(.string u28.1),(.slice u28.2.1.1 u28.2.1.2.1 u28.2.1.2.2),(.int .u32 u28.2.2.1),(.int .u64 u28.2.2.2.1),(.int .i64 u28.2.2.2.2.1)] 44) fun(r29:Nat)=>
 zv prog (Builtin.append_ #[22,22] 22 #[(.slice u27.1 u27.2.1 u27.2.2),(.slice (some (aD r29)) 1 1)]) .slc fun(u30:SLC)=>
 stW (aD r3) (.slice u30.1 u30.2.1 u30.2.2)<|I7 ((wrap .i64 (y8.1+(1:Int))),()))<|J5 ())<|J5 ()) fun(y6:Unit)=>
 ze prog 52 [(.pointer (some (aD r2))),(.int .i64 (1:Int))] (.one (.one (.int .u64))) fun(u31:Int)=>
 yD (Unit) (fun(J32:(Unit)->WP)=>
 zB (Int×Unit) ((0:Int),()) fun(y35:Int×Unit) (I34:(Int×Unit)->WP)=>
 za (decide (y35.1<(wrap .i64 u31))) (zh (some (aD r2)) fun(p36:Addr)=>
 ldW .bool (p36.add 1) fun(u37:Bool)=>
 za u37 (ze prog 52 [(.pointer (some (aD r2))),(.int .i64 (1:Int))] (.one (.one (.int .u64))) fun(u38:Int)=>
 ze prog 53 [(.pointer (some (aD r2))),(.int .i64 (wrap .i64 u38))] (.one (.one .str)) fun(u39:ByteArray)=>
 zi (.cells #[(.string ByteArray.empty),(.int .u32 (0:Int))] 46) fun(r40:Nat)=>
 zc ((#[(.string u39),(.int .u32 (0:Int))]:Array Value).size=2)<|
 zt (aD r40) [(.string u39),(.int .u32 (0:Int))]<|
 ze prog 52 [(.pointer (some (aD r2))),(.int .i64 (1:Int))] (.one (.one (.int .u64))) fun(u41:Int)=>
 stW ((aD r40).add 1) (.int .u32 (wrap .u32 u41))<|
 ldW .slc ((aD r3).add 1) fun(u42:SLC)=>
 zl [.str,(.int .u32)] (aD r40) fun(u43:(ByteArray×Int×Unit))=>
 zi (.cells #[(.string u43.1),(.int .u32 u43.2.1)] 46) fun(r44:Nat)=>
 zv prog (Builtin.append_ #[23,23] 23 #[(.slice u42.1 u42.2.1 u42.2.2),(.slice (some (aD r44)) 1 1)]) .slc fun(u45:SLC)=>
 stW ((aD r3).add 1) (.slice u45.1 u45.2.1 u45.2.2)<|I34 ((wrap .i64 (y35.1+(1:Int))),()))<|J32 ())<|J32 ()) fun(y33:Unit)=>
 zB (Int×Unit) ((0:Int),()) fun(y47:Int×Unit) (I46:(Int×Unit)->WP)=>
 ldW .slc (aD r3) fun(u48:SLC)=>
 za (decide (y47.1<((u48.2.1:Nat):Int))) (zh (some (aD r2)) fun(p49:Addr)=>
 ldW .bool (p49.add 1) fun(u50:Bool)=>
 za u50 (ldW .slc (aD r3) fun(u51:SLC)=>
 zc (0<=y47.1/\y47.1<((u51.2.1:Nat):Int))<|
 zh u51.1 fun(p52:Addr)=>
 ldW (.int .u32) ((p52.add (Int.toNat y47.1*5)).add 2) fun(u53:Int)=>
 zh (some (aD r2)) fun(p54:Addr)=>
 stW (p54.add 1) (.bool (decide (u53<=(1:Int))))<|I46 ((wrap .i64 (y47.1+(1:Int))),()))<|
 zh (some (aD r2)) fun(p55:Addr)=>
 stW (p55.add 1) (.bool false)<|I46 ((wrap .i64 (y47.1+(1:Int))),()))<|
 zB (Int×Unit) ((0:Int),()) fun(y57:Int×Unit) (I56:(Int×Unit)->WP)=>
 ldW .slc ((aD r3).add 1) fun(u58:SLC)=>
 za (decide (y57.1<((u58.2.1:Nat):Int))) (zh (some (aD r2)) fun(p59:Addr)=>
 ldW .bool (p59.add 1) fun(u60:Bool)=>
 za u60 (ldW .slc ((aD r3).add 1) fun(u61:SLC)=>
 zc (0<=y57.1/\y57.1<((u61.2.1:Nat):Int))<|
 zh u61.1 fun(p62:Addr)=>
 ldW (.int .u32) ((p62.add (Int.toNat y57.1*2)).add 1) fun(u63:Int)=>
 zh (some (aD r2)) fun(p64:Addr)=>
 stW (p64.add 1) (.bool (decide (u63<=(1:Int))))<|I56 ((wrap .i64 (y57.1+(1:Int))),()))<|
 zh (some (aD r2)) fun(p65:Addr)=>
 stW (p65.add 1) (.bool false)<|I56 ((wrap .i64 (y57.1+(1:Int))),()))<|
 zh (some (aD r2)) fun(p66:Addr)=>
 ldW .bool (p66.add 1) fun(u67:Bool)=>
 za (!u67) (zc ((#[(.slice none 0 0),(.slice none 0 0)]:Array Value).size=2)<|
 zt (aD r1) [(.slice none 0 0),(.slice none 0 0)]<|
 zl [.slc,.slc] (aD r1) fun(u68:(SLC×SLC×Unit))=>K (.tuple #[(.agg #[(.slice u68.1.1 u68.1.2.1 u68.1.2.2),(.slice u68.2.1.1 u68.2.1.2.1 u68.2.1.2.2)]),(.int .i64 (240:Int))]))<|
 zh (some (aD r2)) fun(p69:Addr)=>
 ldW .str p69 fun(u70:ByteArray)=>
 za (!(u70.toList==(ByteArray.mk #[]).toList)) (zc ((#[(.slice none 0 0),(.slice none 0 0)]:Array Value).size=2)<|
 zt (aD r1) [(.slice none 0 0),(.slice none 0 0)]<|
 zl [.slc,.slc] (aD r1) fun(u71:(SLC×SLC×Unit))=>K (.tuple #[(.agg #[(.slice u71.1.1 u71.1.2.1 u71.1.2.2),(.slice u71.2.1.1 u71.2.1.2.1 u71.2.1.2.2)]),(.int .i64 (240:Int))]))<|
 zl [.slc,.slc] (aD r3) fun(u72:(SLC×SLC×Unit))=>
 ze prog 20 [(.agg #[(.slice u72.1.1 u72.1.2.1 u72.1.2.2),(.slice u72.2.1.1 u72.2.1.2.1 u72.2.1.2.2)])] (.one (.one (.int .i64))) fun(u73:Int)=>
 za (u73 !=(0:Int)) (zc ((#[(.slice none 0 0),(.slice none 0 0)]:Array Value).size=2)<|
 zt (aD r1) [(.slice none 0 0),(.slice none 0 0)]<|
 zl [.slc,.slc] (aD r1) fun(u74:(SLC×SLC×Unit))=>K (.tuple #[(.agg #[(.slice u74.1.1 u74.1.2.1 u74.1.2.2),(.slice u74.2.1.1 u74.2.1.2.1 u74.2.1.2.2)]),(.int .i64 (240:Int))]))<|
 zl [.slc,.slc] (aD r3) fun(u75:(SLC×SLC×Unit))=>
 zc ((#[(.slice u75.1.1 u75.1.2.1 u75.1.2.2),(.slice u75.2.1.1 u75.2.1.2.1 u75.2.1.2.2)]:Array Value).size=2)<|
 zt (aD r1) [(.slice u75.1.1 u75.1.2.1 u75.1.2.2),(.slice u75.2.1.1 u75.2.1.2.1 u75.2.1.2.2)]<|
 zl [.slc,.slc] (aD r1) fun(u76:(SLC×SLC×Unit))=>K (.tuple #[(.agg #[(.slice u76.1.1 u76.1.2.1 u76.1.2.2),(.slice u76.2.1.1 u76.2.1.2.1 u76.2.1.2.2)]),(.int .i64 (0:Int))])
theorem zn5 (x0:ByteArray) {K:Value->WP} {w:World} (h:S16 x0 K w):Calls prog 16 #[(.string x0)] w (Ret K):=cF an16 false Tryz.func16 h
def an17:Ann:=(AN (AN (AR (AN (AQ AO AP)) AO)))
def S17 (Af:Option Addr) (Ag Ah:Nat) (Aa:Option Addr) (Ab Ac:Nat) (x1:ByteArray) (K:Value->WP):WP:=
 zi (.cells #[(.slice Af Ag Ah),(.slice Aa Ab Ac)] 25) fun(r1:Nat)=>
 zi (.cells #[(.string x1)] 9) fun(r2:Nat)=>
 ldW .slc (aD r1) fun(u3:SLC)=>
 ze prog 55 [(.slice u3.1 u3.2.1 u3.2.2),(.func (.func 56) #[] #[(.pointer (some (aD r2)))])] (.one (.one (.int .i64))) fun(u4:Int)=>
 za (decide (u4<(0:Int))) (K (.tuple #[(.int .i64 (0:Int)),(.int .i64 (210:Int))]))<|K (.tuple #[(.int .i64 u4),(.int .i64 (0:Int))])
theorem zn6 (Af:Option Addr) (Ag Ah:Nat) (Aa:Option Addr) (Ab Ac:Nat) (x1:ByteArray) {K:Value->WP} {w:World} (h:S17 Af Ag Ah Aa Ab Ac x1 K w):Calls prog 17 #[(.agg #[(.slice Af Ag Ah),(.slice Aa Ab Ac)]),(.string x1)] w (Ret K):=cF an17 false Tryz.func17 h
def an18:Ann:=(AN (AR (AN (.block (.loop [(6,.sh (.one (.int .i64)))] [1,2,1000000] (AR (AN (AQ AP AP)) (AR (.block (AN (AQ AO AP))) AP))))) AO))
def S18 (Af:Option Addr) (Ag Ah:Nat) (Aa:Option Addr) (Ab Ac:Nat) (x1:ByteArray) (K:Value->WP):WP:=
 zi (.cells #[(.slice Af Ag Ah),(.slice Aa Ab Ac)] 25) fun(r1:Nat)=>
 zB (Int×Unit) ((0:Int),()) fun(y3:Int×Unit) (I2:(Int×Unit)->WP)=>
 ldW .slc (aD r1) fun(u4:SLC)=>
 za (decide (y3.1<((u4.2.1:Nat):Int))) (ldW .slc (aD r1) fun(u5:SLC)=>
 zc (0<=y3.1/\y3.1<((u5.2.1:Nat):Int))<|
 zh u5.1 fun(p6:Addr)=>
 ldW .str (p6.add (Int.toNat y3.1*5)) fun(u7:ByteArray)=>
 za (u7.toList==x1.toList) (K (.tuple #[(.int .i64 y3.1),(.int .i64 (0:Int))]))<|I2 ((wrap .i64 (y3.1+(1:Int))),()))<|K (.tuple #[(.int .i64 (0:Int)),(.int .i64 (210:Int))])
theorem zn7 (Af:Option Addr) (Ag Ah:Nat) (Aa:Option Addr) (Ab Ac:Nat) (x1:ByteArray) {K:Value->WP} {w:World} (h:S18 Af Ag Ah Aa Ab Ac x1 K w):Calls prog 18 #[(.agg #[(.slice Af Ag Ah),(.slice Aa Ab Ac)]),(.string x1)] w (Ret K):=cF an18 false Tryz.func18 h
def an19:Ann:=(AN (.join [(3,.sh (.one .bool))] [1,1000000] AP (AR (AN (AQ AO AP)) AO)))
def S19 (Af:Option Addr) (Ag Ah:Nat) (Aa:Option Addr) (Ab Ac:Nat) (K:Value->WP):WP:=
 zi (.cells #[(.slice Af Ag Ah),(.slice Aa Ab Ac)] 25) fun(r1:Nat)=>
 yD (Bool×Unit) (fun(J2:(Bool×Unit)->WP)=>
 ldW .slc (aD r1) fun(u4:SLC)=>
 za (decide (((u4.2.1:Nat):Int)>(16:Int))) (J2 (true,()))<|
 ldW .slc ((aD r1).add 1) fun(u5:SLC)=>J2 ((decide (((u5.2.1:Nat):Int)>(16:Int))),())) fun(y3:Bool×Unit)=>
 za y3.1 (K (.int .i64 (240:Int)))<|
 ldW .slc (aD r1) fun(u6:SLC)=>
 ze prog 57 [(.slice u6.1 u6.2.1 u6.2.2),(.func (.func 58) #[] #[])] (.one (.one .bool)) fun(u7:Bool)=>
 za (!u7) (K (.int .i64 (240:Int)))<|
 ldW .slc ((aD r1).add 1) fun(u8:SLC)=>
 ze prog 59 [(.slice u8.1 u8.2.1 u8.2.2),(.func (.func 60) #[] #[])] (.one (.one .bool)) fun(u9:Bool)=>
 za (!u9) (K (.int .i64 (240:Int)))<|
 ldW .slc (aD r1) fun(u10:SLC)=>
 ze prog 61 [(.slice u10.1 u10.2.1 u10.2.2),(.func (.func 62) #[] #[])] (.one (.one .bool)) fun(u11:Bool)=>
 za u11 (K (.int .i64 (240:Int)))<|K (.int .i64 (0:Int))
theorem zn8 (Af:Option Addr) (Ag Ah:Nat) (Aa:Option Addr) (Ab Ac:Nat) {K:Value->WP} {w:World} (h:S19 Af Ag Ah Aa Ab Ac K w):Calls prog 19 #[(.agg #[(.slice Af Ag Ah),(.slice Aa Ab Ac)])] w (Ret K):=cF an19 false Tryz.func19 h
def an20:Ann:=(AN (AR (AN (AQ AO AP)) (AR (AN (.block (.loop [(3,.sh (.one (.int .i64)))] [1,1000000] (AR (AN (AQ AP AP)) (AR (.block (AN (.join [(77,.sh (.one .bool))] [1,3,1000000] AP (AQ AO AP)))) AP))))) (AR (AN (.block (.loop [(5,.sh (.one (.int .i64)))] [1,1000000] (AR (AN (AQ AP AP)) (AR (.block (AN (AQ AO AP))) AP))))) AO))))
def S20 (Af:Option Addr) (Ag Ah:Nat) (Aa:Option Addr) (Ab Ac:Nat) (K:Value->WP):WP:=
 zi (.cells #[(.slice Af Ag Ah),(.slice Aa Ab Ac)] 25) fun(r1:Nat)=>
 ldW .slc (aD r1) fun(u2:SLC)=>
 za (decide (((u2.2.1:Nat):Int)>(16:Int))) (K (.int .i64 (240:Int)))<|
 ldW .slc ((aD r1).add 1) fun(u3:SLC)=>
 za (decide (((u3.2.1:Nat):Int)>(16:Int))) (K (.int .i64 (240:Int)))<|
 zB (Int×Unit) ((0:Int),()) fun(y5:Int×Unit) (I4:(Int×Unit)->WP)=>
 ldW .slc (aD r1) fun(u6:SLC)=>
 za (decide (y5.1<((u6.2.1:Nat):Int))) (ldW .slc (aD r1) fun(u7:SLC)=>
 zc (0<=y5.1/\y5.1<((u7.2.1:Nat):Int))<|
 zh u7.1 fun(p8:Addr)=>
 zl [.str,.slc,(.int .u32),(.int .u64),(.int .i64)] (p8.add (Int.toNat y5.1*5)) fun(u9:(ByteArray×SLC×Int×Int×Int×Unit))=>
 zi (.cells #[(.string ByteArray.empty),(.slice none 0 0),(.int .u32 (0:Int)),(.int .u64 (0:Int)),(.int .i64 (0:Int))] 44) fun(r10:Nat)=>
 zc ((#[(.string u9.1),(.slice u9.2.1.1 u9.2.1.2.1 u9.2.1.2.2),(.int .u32 u9.2.2.1),(.int .u64 u9.2.2.2.1),(.int .i64 u9.2.2.2.2.1)]:Array Value).size=5)<|
 zt (aD r10) [(.string u9.1),(.slice u9.2.1.1 u9.2.1.2.1 u9.2.1.2.2),(.int .u32 u9.2.2.1),(.int .u64 u9.2.2.2.1),(.int .i64 u9.2.2.2.2.1)]<|
 yD (Bool×Unit) (fun(J11:(Bool×Unit)->WP)=>
 zD<|
 ldW .str (aD r10) fun(u13:ByteArray)=>
 ze prog 63 [(.string u13)] (.one (.one (.int .i64))) fun(u14:Int)=>
 za (u14 !=(0:Int)) (J11 (true,()))<|
 za (decide (y5.1>(0:Int))) (ldW .slc (aD r1) fun(u15:SLC)=>
 zc (0<=(wrap .i64 (y5.1-(1:Int)))/\(wrap .i64 (y5.1-(1:Int)))<((u15.2.1:Nat):Int))<|
 zh u15.1 fun(p16:Addr)=>
 ldW .str (p16.add (Int.toNat (wrap .i64 (y5.1-(1:Int)))*5)) fun(u17:ByteArray)=>
 ldW .str (aD r10) fun(u18:ByteArray)=>
 za (!(Op.bytesLess u17.toList u18.toList)) (J11 (true,()))<|
 ldW .slc ((aD r10).add 1) fun(u19:SLC)=>
 ze prog 64 [(.slice u19.1 u19.2.1 u19.2.2)] (.one (.one (.int .i64))) fun(u20:Int)=>
 za (u20 !=(0:Int)) (J11 (true,()))<|
 ldW (.int .i64) ((aD r10).add 4) fun(u21:Int)=>
 za (decide (u21<(0:Int))) (J11 (true,()))<|
 ldW (.int .i64) ((aD r10).add 4) fun(u22:Int)=>
 za (decide (u22>(4096:Int))) (J11 (true,()))<|
 ldW (.int .u32) ((aD r10).add 2) fun(u23:Int)=>
 ldW (.int .i64) ((aD r10).add 4) fun(u24:Int)=>
 za (!((u23==(0:Int))==(u24==(0:Int)))) (J11 (true,()))<|
 ldW (.int .u64) ((aD r10).add 3) fun(u25:Int)=>J11 ((decide (u25>=(1099511627776:Int))),()))<|
 ldW .slc ((aD r10).add 1) fun(u26:SLC)=>
 ze prog 64 [(.slice u26.1 u26.2.1 u26.2.2)] (.one (.one (.int .i64))) fun(u27:Int)=>
 za (u27 !=(0:Int)) (J11 (true,()))<|
 ldW (.int .i64) ((aD r10).add 4) fun(u28:Int)=>
 za (decide (u28<(0:Int))) (J11 (true,()))<|
 ldW (.int .i64) ((aD r10).add 4) fun(u29:Int)=>
 za (decide (u29>(4096:Int))) (J11 (true,()))<|
 ldW (.int .u32) ((aD r10).add 2) fun(u30:Int)=>
 ldW (.int .i64) ((aD r10).add 4) fun(u31:Int)=>
 za (!((u30==(0:Int))==(u31==(0:Int)))) (J11 (true,()))<|
 ldW (.int .u64) ((aD r10).add 3) fun(u32:Int)=>J11 ((decide (u32>=(1099511627776:Int))),())) fun(y12:Bool×Unit)=>
 za y12.1 (K (.int .i64 (240:Int)))<|I4 ((wrap .i64 (y5.1+(1:Int))),()))<|
 zB (Int×Unit) ((0:Int),()) fun(y34:Int×Unit) (I33:(Int×Unit)->WP)=>
 ldW .slc ((aD r1).add 1) fun(u35:SLC)=>
 za (decide (y34.1<((u35.2.1:Nat):Int))) (zD<|
 ldW .slc ((aD r1).add 1) fun(u36:SLC)=>
 zc (0<=y34.1/\y34.1<((u36.2.1:Nat):Int))<|
 zh u36.1 fun(p37:Addr)=>
 ldW .str (p37.add (Int.toNat y34.1*2)) fun(u38:ByteArray)=>
 ze prog 63 [(.string u38)] (.one (.one (.int .i64))) fun(u39:Int)=>
 za (u39 !=(0:Int)) (K (.int .i64 (240:Int)))<|
 za (decide (y34.1>(0:Int))) (ldW .slc ((aD r1).add 1) fun(u40:SLC)=>
 zc (0<=(wrap .i64 (y34.1-(1:Int)))/\(wrap .i64 (y34.1-(1:Int)))<((u40.2.1:Nat):Int))<|
 zh u40.1 fun(p41:Addr)=>
 ldW .str (p41.add (Int.toNat (wrap .i64 (y34.1-(1:Int)))*2)) fun(u42:ByteArray)=>
 ldW .slc ((aD r1).add 1) fun(u43:SLC)=>
 zc (0<=y34.1/\y34.1<((u43.2.1:Nat):Int))<|
 zh u43.1 fun(p44:Addr)=>
 ldW .str (p44.add (Int.toNat y34.1*2)) fun(u45:ByteArray)=>
 za (!(Op.bytesLess u42.toList u45.toList)) (K (.int .i64 (240:Int)))<|I33 ((wrap .i64 (y34.1+(1:Int))),()))<|I33 ((wrap .i64 (y34.1+(1:Int))),()))<|K (.int .i64 (0:Int))
theorem zn9 (Af:Option Addr) (Ag Ah:Nat) (Aa:Option Addr) (Ab Ac:Nat) {K:Value->WP} {w:World} (h:S20 Af Ag Ah Aa Ab Ac K w):Calls prog 20 #[(.agg #[(.slice Af Ag Ah),(.slice Aa Ab Ac)])] w (Ret K):=cF an20 false Tryz.func20 h
def an21:Ann:=(AN (AN (AR (AN (.block (.loop [(16,.sh (.one (.int .i64)))] [2,3,14,15,1000000] (AN (AR (AQ AP AP) (AR (.block AO) AP)))))) AO)))
def S21 (Af:Option Addr) (Ag Ah:Nat) (Aa:Option Addr) (Ab Ac:Nat) (K:Value->WP):WP:=
 zi (.cells #[(.slice Af Ag Ah),(.slice Aa Ab Ac)] 25) fun(r1:Nat)=>
 zi (.cells #[(.slice none 0 0),(.slice none 0 0)] 25) fun(r2:Nat)=>
 zD<|
 ldW .slc (aD r1) fun(u3:SLC)=>
 ldW .slc ((aD r1).add 1) fun(u4:SLC)=>
 kW (ze prog 65 [(.slice u3.1 u3.2.1 u3.2.2)] (.one (.one .slc)) fun(u5:SLC)=>
 zr [[(((aD r1).add 1),(.slice u4.1 u4.2.1 u4.2.2))]]<|
 kW (ze prog 66 [(.slice u4.1 u4.2.1 u4.2.2)] (.one (.one .slc)) fun(u6:SLC)=>
 zi (.cells #[(.slice none 0 0),(.slice none 0 0)] 25) fun(r7:Nat)=>
 zr [[(((aD r1).add 1),(.slice u4.1 u4.2.1 u4.2.2))],[((aD r1),(.slice u3.1 u3.2.1 u3.2.2))]]<|
 zc ((#[(.slice u5.1 u5.2.1 u5.2.2),(.slice u6.1 u6.2.1 u6.2.2)]:Array Value).size=2)<|
 zt (aD r7) [(.slice u5.1 u5.2.1 u5.2.2),(.slice u6.1 u6.2.1 u6.2.2)]<|
 ldW .slc (aD r7) fun(u8:SLC)=>
 zB (Int×Unit) ((0:Int),()) fun(y10:Int×Unit) (I9:(Int×Unit)->WP)=>
 za (decide (y10.1<((u8.2.1:Nat):Int))) (zc (0<=y10.1/\y10.1<((u8.2.1:Nat):Int))<|
 zh u8.1 fun(p11:Addr)=>
 zl [.str,.slc,(.int .u32),(.int .u64),(.int .i64)] (p11.add (Int.toNat y10.1*5)) fun(u12:(ByteArray×SLC×Int×Int×Int×Unit))=>
 zi (.cells #[(.string ByteArray.empty),(.slice none 0 0),(.int .u32 (0:Int)),(.int .u64 (0:Int)),(.int .i64 (0:Int))] 44) fun(r13:Nat)=>
 zc ((#[(.string u12.1),(.slice u12.2.1.1 u12.2.1.2.1 u12.2.1.2.2),(.int .u32 u12.2.2.1),(.int .u64 u12.2.2.2.1),(.int .i64 u12.2.2.2.2.1)]:Array Value).size=5)<|
 zt (aD r13) [(.string u12.1),(.slice u12.2.1.1 u12.2.1.2.1 u12.2.1.2.2),(.int .u32 u12.2.2.1),(.int .u64 u12.2.2.2.1),(.int .i64 u12.2.2.2.2.1)]<|
 zD<|
 ldW .slc (aD r7) fun(u14:SLC)=>
 ldW .slc ((aD r13).add 1) fun(u15:SLC)=>
 ze prog 67 [(.slice u15.1 u15.2.1 u15.2.2)] (.one (.one .slc)) fun(u16:SLC)=>
 zr [[((aD r7),(.slice u14.1 u14.2.1 u14.2.2))]]<|
 zc (0<=y10.1/\y10.1<((u14.2.1:Nat):Int))<|
 zh u14.1 fun(p17:Addr)=>
 stW ((p17.add (Int.toNat y10.1*5)).add 1) (.slice u16.1 u16.2.1 u16.2.2)<|I9 ((wrap .i64 (y10.1+(1:Int))),()))<|
 zl [.slc,.slc] (aD r7) fun(u18:(SLC×SLC×Unit))=>
 zc ((#[(.slice u18.1.1 u18.1.2.1 u18.1.2.2),(.slice u18.2.1.1 u18.2.1.2.1 u18.2.1.2.2)]:Array Value).size=2)<|
 zt (aD r2) [(.slice u18.1.1 u18.1.2.1 u18.1.2.2),(.slice u18.2.1.1 u18.2.1.2.1 u18.2.1.2.2)]<|
 zl [.slc,.slc] (aD r2) fun(u19:(SLC×SLC×Unit))=>K (.agg #[(.slice u19.1.1 u19.1.2.1 u19.1.2.2),(.slice u19.2.1.1 u19.2.1.2.1 u19.2.1.2.2)]))<|
 zi (.cells #[(.slice none 0 0),(.slice none 0 0)] 25) fun(r20:Nat)=>
 zr [[(((aD r1).add 1),(.slice u4.1 u4.2.1 u4.2.2))],[((aD r1),(.slice u3.1 u3.2.1 u3.2.2))]]<|
 ze prog 66 [(.slice u4.1 u4.2.1 u4.2.2)] (.one (.one .slc)) fun(u21:SLC)=>
 zc ((#[(.slice u5.1 u5.2.1 u5.2.2),(.slice u21.1 u21.2.1 u21.2.2)]:Array Value).size=2)<|
 zt (aD r20) [(.slice u5.1 u5.2.1 u5.2.2),(.slice u21.1 u21.2.1 u21.2.2)]<|
 ldW .slc (aD r20) fun(u22:SLC)=>
 zB (Int×Unit) ((0:Int),()) fun(y24:Int×Unit) (I23:(Int×Unit)->WP)=>
 za (decide (y24.1<((u22.2.1:Nat):Int))) (zc (0<=y24.1/\y24.1<((u22.2.1:Nat):Int))<|
 zh u22.1 fun(p25:Addr)=>
 zl [.str,.slc,(.int .u32),(.int .u64),(.int .i64)] (p25.add (Int.toNat y24.1*5)) fun(u26:(ByteArray×SLC×Int×Int×Int×Unit))=>
 zi (.cells #[(.string ByteArray.empty),(.slice none 0 0),(.int .u32 (0:Int)),(.int .u64 (0:Int)),(.int .i64 (0:Int))] 44) fun(r27:Nat)=>
 zc ((#[(.string u26.1),(.slice u26.2.1.1 u26.2.1.2.1 u26.2.1.2.2),(.int .u32 u26.2.2.1),(.int .u64 u26.2.2.2.1),(.int .i64 u26.2.2.2.2.1)]:Array Value).size=5)<|
 zt (aD r27) [(.string u26.1),(.slice u26.2.1.1 u26.2.1.2.1 u26.2.1.2.2),(.int .u32 u26.2.2.1),(.int .u64 u26.2.2.2.1),(.int .i64 u26.2.2.2.2.1)]<|
 zD<|
 ldW .slc (aD r20) fun(u28:SLC)=>
 ldW .slc ((aD r27).add 1) fun(u29:SLC)=>
 ze prog 67 [(.slice u29.1 u29.2.1 u29.2.2)] (.one (.one .slc)) fun(u30:SLC)=>
 zr [[((aD r20),(.slice u28.1 u28.2.1 u28.2.2))]]<|
 zc (0<=y24.1/\y24.1<((u28.2.1:Nat):Int))<|
 zh u28.1 fun(p31:Addr)=>
 stW ((p31.add (Int.toNat y24.1*5)).add 1) (.slice u30.1 u30.2.1 u30.2.2)<|I23 ((wrap .i64 (y24.1+(1:Int))),()))<|
 zl [.slc,.slc] (aD r20) fun(u32:(SLC×SLC×Unit))=>
 zc ((#[(.slice u32.1.1 u32.1.2.1 u32.1.2.2),(.slice u32.2.1.1 u32.2.1.2.1 u32.2.1.2.2)]:Array Value).size=2)<|
 zt (aD r2) [(.slice u32.1.1 u32.1.2.1 u32.1.2.2),(.slice u32.2.1.1 u32.2.1.2.1 u32.2.1.2.2)]<|
 zl [.slc,.slc] (aD r2) fun(u33:(SLC×SLC×Unit))=>K (.agg #[(.slice u33.1.1 u33.1.2.1 u33.1.2.2),(.slice u33.2.1.1 u33.2.1.2.1 u33.2.1.2.2)]))<|
 zi (.cells #[(.slice none 0 0),(.slice none 0 0)] 25) fun(r34:Nat)=>
 zr [[(((aD r1).add 1),(.slice u4.1 u4.2.1 u4.2.2))],[((aD r1),(.slice u3.1 u3.2.1 u3.2.2))]]<|
 ze prog 65 [(.slice u3.1 u3.2.1 u3.2.2)] (.one (.one .slc)) fun(u35:SLC)=>
 zr [[(((aD r1).add 1),(.slice u4.1 u4.2.1 u4.2.2))]]<|
 ze prog 66 [(.slice u4.1 u4.2.1 u4.2.2)] (.one (.one .slc)) fun(u36:SLC)=>
 zc ((#[(.slice u35.1 u35.2.1 u35.2.2),(.slice u36.1 u36.2.1 u36.2.2)]:Array Value).size=2)<|
 zt (aD r34) [(.slice u35.1 u35.2.1 u35.2.2),(.slice u36.1 u36.2.1 u36.2.2)]<|
 ldW .slc (aD r34) fun(u37:SLC)=>
 zB (Int×Unit) ((0:Int),()) fun(y39:Int×Unit) (I38:(Int×Unit)->WP)=>
 za (decide (y39.1<((u37.2.1:Nat):Int))) (zc (0<=y39.1/\y39.1<((u37.2.1:Nat):Int))<|
 zh u37.1 fun(p40:Addr)=>
 zl [.str,.slc,(.int .u32),(.int .u64),(.int .i64)] (p40.add (Int.toNat y39.1*5)) fun(u41:(ByteArray×SLC×Int×Int×Int×Unit))=>
 zi (.cells #[(.string ByteArray.empty),(.slice none 0 0),(.int .u32 (0:Int)),(.int .u64 (0:Int)),(.int .i64 (0:Int))] 44) fun(r42:Nat)=>
 zc ((#[(.string u41.1),(.slice u41.2.1.1 u41.2.1.2.1 u41.2.1.2.2),(.int .u32 u41.2.2.1),(.int .u64 u41.2.2.2.1),(.int .i64 u41.2.2.2.2.1)]:Array Value).size=5)<|
 zt (aD r42) [(.string u41.1),(.slice u41.2.1.1 u41.2.1.2.1 u41.2.1.2.2),(.int .u32 u41.2.2.1),(.int .u64 u41.2.2.2.1),(.int .i64 u41.2.2.2.2.1)]<|
 zD<|
 ldW .slc (aD r34) fun(u43:SLC)=>
 ldW .slc ((aD r42).add 1) fun(u44:SLC)=>
 ze prog 67 [(.slice u44.1 u44.2.1 u44.2.2)] (.one (.one .slc)) fun(u45:SLC)=>
 zr [[((aD r34),(.slice u43.1 u43.2.1 u43.2.2))]]<|
 zc (0<=y39.1/\y39.1<((u43.2.1:Nat):Int))<|
 zh u43.1 fun(p46:Addr)=>
 stW ((p46.add (Int.toNat y39.1*5)).add 1) (.slice u45.1 u45.2.1 u45.2.2)<|I38 ((wrap .i64 (y39.1+(1:Int))),()))<|
 zl [.slc,.slc] (aD r34) fun(u47:(SLC×SLC×Unit))=>
 zc ((#[(.slice u47.1.1 u47.1.2.1 u47.1.2.2),(.slice u47.2.1.1 u47.2.1.2.1 u47.2.1.2.2)]:Array Value).size=2)<|
 zt (aD r2) [(.slice u47.1.1 u47.1.2.1 u47.1.2.2),(.slice u47.2.1.1 u47.2.1.2.1 u47.2.1.2.2)]<|
 zl [.slc,.slc] (aD r2) fun(u48:(SLC×SLC×Unit))=>K (.agg #[(.slice u48.1.1 u48.1.2.1 u48.1.2.2),(.slice u48.2.1.1 u48.2.1.2.1 u48.2.1.2.2)])
theorem zoa (Af:Option Addr) (Ag Ah:Nat) (Aa:Option Addr) (Ab Ac:Nat) {K:Value->WP} {w:World} (h:S21 Af Ag Ah Aa Ab Ac K w):Calls prog 21 #[(.agg #[(.slice Af Ag Ah),(.slice Aa Ab Ac)])] w (Ret K):=cF an21 false Tryz.func21 h
def an22:Ann:=(AN (AN (AN (AR (AN (AQ AO AP)) AO))))
def S22  (K:Value->WP):WP:=
 ze prog 68 [(.agg #[(.int .i64 (256:Int)),(.int .i64 (256:Int))])] (.many [(.one .ptr),(.one (.int .i64))]) fun(u1:Option Addr×Int×Unit)=>
 ze prog 69 [(.pointer u1.1)] (.many [(.one .ptr),(.one (.int .i64))]) fun(u2:Option Addr×Int×Unit)=>
 za (u2.2.1 !=(0:Int)) (K (.tuple #[(.pointer none),(.pointer none)]))<|K (.tuple #[(.pointer u1.1),(.pointer u2.1)])
theorem zob  {K:Value->WP} {w:World} (h:S22  K w):Calls prog 22 #[] w (Ret K):=cF an22 false Tryz.func22 h
def an23:Ann:=(AN (AN (AR (AN (AQ AP AP)) AO)))
def S23 (x0:Int) (x1:Int) (K:Value->WP):WP:=
 zi (.cells #[(.slice none 0 0),(.slice none 0 0)] 25) fun(r1:Nat)=>
 za (x0 !=(0:Int)) (ze prog 70 [] (.one (.one .slc)) fun(u2:SLC)=>
 zi (.cells #[(.string (ByteArray.mk #[116])),(.slice u2.1 u2.2.1 u2.2.2),(.int .u32 x0),(.int .u64 (5:Int)),(.int .i64 (3:Int))] 44) fun(r3:Nat)=>
 zi (.cells #[(.string (ByteArray.mk #[115])),(.int .u32 x1)] 46) fun(r4:Nat)=>
 zc ((#[(.slice (some (aD r3)) 1 1),(.slice (some (aD r4)) 1 1)]:Array Value).size=2)<|
 zt (aD r1) [(.slice (some (aD r3)) 1 1),(.slice (some (aD r4)) 1 1)]<|
 zl [.slc,.slc] (aD r1) fun(u5:(SLC×SLC×Unit))=>K (.agg #[(.slice u5.1.1 u5.1.2.1 u5.1.2.2),(.slice u5.2.1.1 u5.2.1.2.1 u5.2.1.2.2)]))<|
 ze prog 70 [] (.one (.one .slc)) fun(u6:SLC)=>
 zi (.cells #[(.string (ByteArray.mk #[116])),(.slice u6.1 u6.2.1 u6.2.2),(.int .u32 x0),(.int .u64 (5:Int)),(.int .i64 (0:Int))] 44) fun(r7:Nat)=>
 zi (.cells #[(.string (ByteArray.mk #[115])),(.int .u32 x1)] 46) fun(r8:Nat)=>
 zc ((#[(.slice (some (aD r7)) 1 1),(.slice (some (aD r8)) 1 1)]:Array Value).size=2)<|
 zt (aD r1) [(.slice (some (aD r7)) 1 1),(.slice (some (aD r8)) 1 1)]<|
 zl [.slc,.slc] (aD r1) fun(u9:(SLC×SLC×Unit))=>K (.agg #[(.slice u9.1.1 u9.1.2.1 u9.1.2.2),(.slice u9.2.1.1 u9.2.1.2.1 u9.2.1.2.2)])
theorem zoc (x0:Int) (x1:Int) {K:Value->WP} {w:World} (h:S23 x0 x1 K w):Calls prog 23 #[(.int .u32 x0),(.int .u32 x1)] w (Ret K):=cF an23 false Tryz.func23 h
def an24:Ann:=(AN (AR (.block (AN (AQ AO (.join [(15,.sh (.one .bool))] [2,3,1000000] AP (AQ AO (AN (AQ AO (.join [(36,.sh (.one .bool))] [2,3,1000000] AP (AQ AO (AN (AQ AO AP))))))))))) (AN (AR (AN (AQ AO AP)) (AN (AR (AN (.block (.loop [(8,.sh (.one .slc)),(81,.sh (.one (.int .i64)))] [2,3,6,79,80,1000000] (AN (AR (AQ AP AP) (AR (.block AO) AP)))))) (AR (AN (AN (AQ AO AP))) AO)))))))
def S24 (x0:Option Addr) (AA:Int) (As:Option Addr) (Au Av:Nat) (AB:ByteArray) (K:Value->WP):WP:=
 zi (.cells #[(.pointer x0)] 48) fun(r1:Nat)=>
 zi (.cells #[(.int .u8 AA),(.slice As Au Av),(.string AB)] 56) fun(r2:Nat)=>
 ldW .ptr (aD r1) fun(u3:Option Addr)=>
 za (Option.isNone u3) (K (.tuple #[(.int .u32 (0:Int)),(.int .i64 (1:Int))]))<|
 yD (Bool×Unit) (fun(J4:(Bool×Unit)->WP)=>
 ldW (.int .u8) (aD r2) fun(u6:Int)=>
 za (decide (u6<(3:Int))) (J4 (true,()))<|
 ldW .slc ((aD r2).add 1) fun(u7:SLC)=>
 za (decide (((u7.2.1:Nat):Int)>(65535:Int))) (J4 (true,()))<|
 ldW .slc ((aD r2).add 1) fun(u8:SLC)=>
 ze prog 71 [(.slice u8.1 u8.2.1 u8.2.2),(.func (.func 72) #[] #[(.pointer (some (aD r1)))])] (.one (.one .bool)) fun(u9:Bool)=>J4 (u9,())) fun(y5:Bool×Unit)=>
 za y5.1 (K (.tuple #[(.int .u32 (0:Int)),(.int .i64 (2:Int))]))<|
 ldW .slc ((aD r2).add 1) fun(u10:SLC)=>
 ze prog 71 [(.slice u10.1 u10.2.1 u10.2.2),(.func (.func 74) #[] #[(.pointer (some (aD r1)))])] (.one (.one .bool)) fun(u11:Bool)=>
 za u11 (K (.tuple #[(.int .u32 (0:Int)),(.int .i64 (8:Int))]))<|
 yD (Bool×Unit) (fun(J12:(Bool×Unit)->WP)=>
 zD<|
 ldW .slc ((aD r2).add 1) fun(u14:SLC)=>
 ldW .ptr (aD r1) fun(u15:Option Addr)=>
 ze prog 76 [(.pointer u15),(.int .i64 (0:Int))] (.one (.one (.int .i64))) fun(u16:Int)=>
 zr [[(((aD r2).add 1),(.slice u14.1 u14.2.1 u14.2.2))]]<|
 za (decide (((u14.2.1:Nat):Int)>(wrap .i64 (Int.tdiv u16 (4:Int))))) (J12 (true,()))<|
 ldW .str ((aD r2).add 2) fun(u17:ByteArray)=>
 ldW .ptr (aD r1) fun(u18:Option Addr)=>
 ldW .slc ((aD r2).add 1) fun(u19:SLC)=>
 ze prog 76 [(.pointer u18),(.int .i64 ((u19.2.1:Nat):Int))] (.one (.one (.int .i64))) fun(u20:Int)=>
 zr [[(((aD r2).add 2),(.string u17))]]<|J12 ((decide (((u17.size:Nat):Int)>u20)),())) fun(y13:Bool×Unit)=>
 za y13.1 (K (.tuple #[(.int .u32 (0:Int)),(.int .i64 (3:Int))]))<|
 zD<|
 ldW .ptr (aD r1) fun(u21:Option Addr)=>
 ldW .ptr (aD r1) fun(u22:Option Addr)=>
 zh u22 fun(p23:Addr)=>
 ldW .slc ((p23.add 1).add 4) fun(u24:SLC)=>
 ze prog 26 [(.pointer u21)] (.one (.one (.int .i64))) fun(u25:Int)=>
 zr [[(((p23.add 1).add 4),(.slice u24.1 u24.2.1 u24.2.2))],[((aD r1),(.pointer u22))]]<|
 za (decide (u25<=((u24.2.1:Nat):Int))) (K (.tuple #[(.int .u32 (0:Int)),(.int .i64 (9:Int))]))<|
 ldW .ptr (aD r1) fun(u26:Option Addr)=>
 ze prog 77 [(.pointer u26)] (.many [(.one (.int .u32)),(.one (.int .i64))]) fun(u27:Int×Int×Unit)=>
 za (u27.2.1 !=(0:Int)) (K (.tuple #[(.int .u32 (0:Int)),(.int .i64 u27.2.1)]))<|
 ldW .slc ((aD r2).add 1) fun(u28:SLC)=>
 ze prog 42 [(.slice none 0 0),(.int .u64 (wrap .u64 ((u28.2.1:Nat):Int))),(.int .i64 (2:Int))] (.one (.one .slc)) fun(u29:SLC)=>
 ldW .slc ((aD r2).add 1) fun(u30:SLC)=>
 zB (SLC×Int×Unit) ((u29.1,u29.2.1,u29.2.2),(0:Int),()) fun(y32:SLC×Int×Unit) (I31:(SLC×Int×Unit)->WP)=>
 za (decide (y32.2.1<((u30.2.1:Nat):Int))) (zc (0<=y32.2.1/\y32.2.1<((u30.2.1:Nat):Int))<|
 zh u30.1 fun(p33:Addr)=>
 ldW (.int .u32) (p33.add (Int.toNat y32.2.1*1)) fun(u34:Int)=>
 ze prog 42 [(.slice y32.1.1 y32.1.2.1 y32.1.2.2),(.int .u64 (wrap .u64 u34)),(.int .i64 (4:Int))] (.one (.one .slc)) fun(u35:SLC)=>I31 ((u35.1,u35.2.1,u35.2.2),(wrap .i64 (y32.2.1+(1:Int))),()))<|
 zD<|
 ldW .ptr (aD r1) fun(u36:Option Addr)=>
 zh u36 fun(p37:Addr)=>
 ldW .ptr p37 fun(u38:Option Addr)=>
 ldW (.int .u8) (aD r2) fun(u39:Int)=>
 ldW .ptr (aD r1) fun(u40:Option Addr)=>
 zh u40 fun(p41:Addr)=>
 ldW (.int .u64) (p41.add 1) fun(u42:Int)=>
 ldW .str ((aD r2).add 2) fun(u43:ByteArray)=>
 zv prog (Go.convert 85 9 (.slice y32.1.1 y32.1.2.1 y32.1.2.2)) .str fun(u44:ByteArray)=>
 zr [[(((aD r2).add 2),(.string u43))],[((p41.add 1),(.int .u64 u42))],[((aD r1),(.pointer u40))],[((aD r2),(.int .u8 u39))],[(p37,(.pointer u38))],[((aD r1),(.pointer u36))]]<|
 zc (((u44.size+u43.size:Nat):Int)<=IntKind.i64.max)<|
 ze prog 78 [(.pointer u38),(.int .u32 u27.1),(.agg #[(.int .u8 u39),(.int .u64 (wrap .u64 (u42+(1:Int)))),(.string (u44++u43))])] (.one (.one (.int .i64))) fun(u45:Int)=>
 za (u45 !=(0:Int)) (K (.tuple #[(.int .u32 (0:Int)),(.int .i64 u45)]))<|K (.tuple #[(.int .u32 u27.1),(.int .i64 (0:Int))])
theorem zod (x0:Option Addr) (AA:Int) (As:Option Addr) (Au Av:Nat) (AB:ByteArray) {K:Value->WP} {w:World} (h:S24 x0 AA As Au Av AB K w):Calls prog 24 #[(.pointer x0),(.agg #[(.int .u8 AA),(.slice As Au Av),(.string AB)])] w (Ret K):=cF an24 false Tryz.func24 h
def an25:Ann:=(AN (AR (AN (AQ AO AP)) (AR (AN (AN (AQ AO AP))) (AN (AN (AR (AN (.block (.loop [(30,.sh (.one (.int .u64))),(31,.sh (.one (.int .u64)))] [] (AR AO (.block AP))))) (AR (AN (AQ AO AP)) (AN (AR (AN (AQ AO AP)) (AN (AR (AN (AQ AO AP)) (AN (AR (AN (AQ AO AP)) (AR (AN (.block (.loop [(87,.sh (.one (.int .i64)))] [4,7,8,13,85,86,1000000] (AN (AR (AQ AP AP) (AR (.block (AN (AR (AN (AQ AO AP)) AP))) AP)))))) AO))))))))))))))
def S25 (x0:Option Addr) (x1:Int) (K:Value->WP):WP:=
 zi (.cells #[(.slice none 0 0),(.slice none 0 0)] 25) fun(r1:Nat)=>
 za (x1==(0:Int)) (zc ((#[(.slice none 0 0),(.slice none 0 0)]:Array Value).size=2)<|
 zt (aD r1) [(.slice none 0 0),(.slice none 0 0)]<|
 zS prog []<|
 zl [.slc,.slc] (aD r1) fun(u2:(SLC×SLC×Unit))=>K (.tuple #[(.agg #[(.slice u2.1.1 u2.1.2.1 u2.1.2.2),(.slice u2.2.1.1 u2.2.1.2.1 u2.2.1.2.2)]),(.int .i64 (0:Int))]))<|
 ze prog 79 [(.pointer x0),(.int .u32 x1)] (.one (.one (.int .i64))) fun(u3:Int)=>
 za (u3 !=(0:Int)) (zc ((#[(.slice none 0 0),(.slice none 0 0)]:Array Value).size=2)<|
 zt (aD r1) [(.slice none 0 0),(.slice none 0 0)]<|
 zS prog []<|
 zl [.slc,.slc] (aD r1) fun(u4:(SLC×SLC×Unit))=>K (.tuple #[(.agg #[(.slice u4.1.1 u4.1.2.1 u4.1.2.2),(.slice u4.2.1.1 u4.2.1.2.1 u4.2.1.2.2)]),(.int .i64 u3)]))<|
 zi (.cells #[(.slice none 0 0)] 129) fun(r5:Nat)=>
 zi (.cells #[(.slice none 0 0)] 54) fun(r6:Nat)=>
 ze prog 80 [(.pointer x0),(.int .u32 x1),(.int .u64 (0:Int))] (.one (.one .any)) fun(u7:Value)=>
 jE prog u7 (Int×Int×Unit) (fun(t8:Int×Int×Unit)=>[(.int .u64 t8.1),(.int .u64 t8.2.1)]) (fun(t8:Int×Int×Unit) (B9:WP->WP) (N10:WP) (Q11:Code->WP)=>B9 (zD<|
 ldW .slc (aD r5) fun(u14:SLC)=>
 ldW .slc (aD r6) fun(u15:SLC)=>
 kW (zi (.cells #[(.int .u64 t8.1)] 42) fun(r16:Nat)=>
 zr [[((aD r6),(.slice u15.1 u15.2.1 u15.2.2))],[((aD r5),(.slice u14.1 u14.2.1 u14.2.2))]]<|
 kW (zv prog (Builtin.append_ #[129,129] 129 #[(.slice u14.1 u14.2.1 u14.2.2),(.slice (some (aD r16)) 1 1)]) .slc fun(u17:SLC)=>
 zr [[((aD r6),(.slice u15.1 u15.2.1 u15.2.2))]]<|
 zi (.cells #[(.int .u32 (wrap .u32 t8.2.1))] 41) fun(r18:Nat)=>
 zr [[((aD r6),(.slice u15.1 u15.2.1 u15.2.2))],[((aD r5),(.slice u14.1 u14.2.1 u14.2.2))]]<|
 zv prog (Builtin.append_ #[54,54] 54 #[(.slice u15.1 u15.2.1 u15.2.2),(.slice (some (aD r18)) 1 1)]) .slc fun(u19:SLC)=>
 stW (aD r5) (.slice u17.1 u17.2.1 u17.2.2)<|
 stW (aD r6) (.slice u19.1 u19.2.1 u19.2.2)<|N10)<|
 zi (.cells #[(.int .u32 (wrap .u32 t8.2.1))] 41) fun(r20:Nat)=>
 zr [[((aD r6),(.slice u15.1 u15.2.1 u15.2.2))],[((aD r5),(.slice u14.1 u14.2.1 u14.2.2))]]<|
 zv prog (Builtin.append_ #[129,129] 129 #[(.slice u14.1 u14.2.1 u14.2.2),(.slice (some (aD r16)) 1 1)]) .slc fun(u21:SLC)=>
 zr [[((aD r6),(.slice u15.1 u15.2.1 u15.2.2))]]<|
 zv prog (Builtin.append_ #[54,54] 54 #[(.slice u15.1 u15.2.1 u15.2.2),(.slice (some (aD r20)) 1 1)]) .slc fun(u22:SLC)=>
 stW (aD r5) (.slice u21.1 u21.2.1 u21.2.2)<|
 stW (aD r6) (.slice u22.1 u22.2.1 u22.2.2)<|N10)<|
 zi (.cells #[(.int .u32 (wrap .u32 t8.2.1))] 41) fun(r23:Nat)=>
 zr [[((aD r6),(.slice u15.1 u15.2.1 u15.2.2))],[((aD r5),(.slice u14.1 u14.2.1 u14.2.2))]]<|
 zi (.cells #[(.int .u64 t8.1)] 42) fun(r24:Nat)=>
 zr [[((aD r6),(.slice u15.1 u15.2.1 u15.2.2))],[((aD r5),(.slice u14.1 u14.2.1 u14.2.2))]]<|
 zv prog (Builtin.append_ #[129,129] 129 #[(.slice u14.1 u14.2.1 u14.2.2),(.slice (some (aD r24)) 1 1)]) .slc fun(u25:SLC)=>
 zr [[((aD r6),(.slice u15.1 u15.2.1 u15.2.2))]]<|
 zv prog (Builtin.append_ #[54,54] 54 #[(.slice u15.1 u15.2.1 u15.2.2),(.slice (some (aD r23)) 1 1)]) .slc fun(u26:SLC)=>
 stW (aD r5) (.slice u25.1 u25.2.1 u25.2.2)<|
 stW (aD r6) (.slice u26.1 u26.2.1 u26.2.2)<|N10)) fun(r12:Nat) (p13:Option Code)=>
 jw (ze prog 81 [(.pointer x0),(.int .u32 x1)] (.one (.one .bool)) fun(u27:Bool)=>
 za (!u27) (zc ((#[(.slice none 0 0),(.slice none 0 0)]:Array Value).size=2)<|
 zt (aD r1) [(.slice none 0 0),(.slice none 0 0)]<|
 zS prog (⟨.collected r12,#[]⟩::[])<|
 zl [.slc,.slc] (aD r1) fun(u28:(SLC×SLC×Unit))=>K (.tuple #[(.agg #[(.slice u28.1.1 u28.1.2.1 u28.1.2.2),(.slice u28.2.1.1 u28.2.1.2.1 u28.2.1.2.2)]),(.int .i64 (10:Int))]))<|
 ldW .slc (aD r5) fun(u29:SLC)=>
 za (((u29.2.1:Nat):Int)==(0:Int)) (zc ((#[(.slice none 0 0),(.slice none 0 0)]:Array Value).size=2)<|
 zt (aD r1) [(.slice none 0 0),(.slice none 0 0)]<|
 zS prog (⟨.collected r12,#[]⟩::[])<|
 zl [.slc,.slc] (aD r1) fun(u30:(SLC×SLC×Unit))=>K (.tuple #[(.agg #[(.slice u30.1.1 u30.1.2.1 u30.1.2.2),(.slice u30.2.1.1 u30.2.1.2.1 u30.2.1.2.2)]),(.int .i64 (10:Int))]))<|
 ldW .slc (aD r5) fun(u31:SLC)=>
 zc (0<=(0:Int)/\(0:Int)<((u31.2.1:Nat):Int))<|
 zh u31.1 fun(p32:Addr)=>
 ldW (.int .u64) (p32.add (Int.toNat (0:Int)*1)) fun(u33:Int)=>
 za (u33 !=(0:Int)) (zc ((#[(.slice none 0 0),(.slice none 0 0)]:Array Value).size=2)<|
 zt (aD r1) [(.slice none 0 0),(.slice none 0 0)]<|
 zS prog (⟨.collected r12,#[]⟩::[])<|
 zl [.slc,.slc] (aD r1) fun(u34:(SLC×SLC×Unit))=>K (.tuple #[(.agg #[(.slice u34.1.1 u34.1.2.1 u34.1.2.2),(.slice u34.2.1.1 u34.2.1.2.1 u34.2.1.2.2)]),(.int .i64 (10:Int))]))<|
 ldW .slc (aD r6) fun(u35:SLC)=>
 zc (0<=(0:Int)/\(0:Int)<((u35.2.1:Nat):Int))<|
 zh u35.1 fun(p36:Addr)=>
 ldW (.int .u32) (p36.add (Int.toNat (0:Int)*1)) fun(u37:Int)=>
 ze prog 82 [(.pointer x0),(.int .u32 u37)] (.many [(.one .str),(.one (.int .i64))]) fun(u38:ByteArray×Int×Unit)=>
 za (u38.2.1 !=(0:Int)) (zc ((#[(.slice none 0 0),(.slice none 0 0)]:Array Value).size=2)<|
 zt (aD r1) [(.slice none 0 0),(.slice none 0 0)]<|
 zS prog (⟨.collected r12,#[]⟩::[])<|
 zl [.slc,.slc] (aD r1) fun(u39:(SLC×SLC×Unit))=>K (.tuple #[(.agg #[(.slice u39.1.1 u39.1.2.1 u39.1.2.2),(.slice u39.2.1.1 u39.2.1.2.1 u39.2.1.2.2)]),(.int .i64 u38.2.1)]))<|
 ze prog 12 [(.string u38.1)] (.many [(.agg [.slc,.slc]),(.one (.int .i64))]) fun(u40:(SLC×SLC×Unit)×Int×Unit)=>
 zi (.cells #[(.slice none 0 0),(.slice none 0 0)] 25) fun(r41:Nat)=>
 zc ((#[(.slice u40.1.1.1 u40.1.1.2.1 u40.1.1.2.2),(.slice u40.1.2.1.1 u40.1.2.1.2.1 u40.1.2.1.2.2)]:Array Value).size=2)<|
 zt (aD r41) [(.slice u40.1.1.1 u40.1.1.2.1 u40.1.1.2.2),(.slice u40.1.2.1.1 u40.1.2.1.2.1 u40.1.2.1.2.2)]<|
 za (u40.2.1 !=(0:Int)) (zc ((#[(.slice none 0 0),(.slice none 0 0)]:Array Value).size=2)<|
 zt (aD r1) [(.slice none 0 0),(.slice none 0 0)]<|
 zS prog (⟨.collected r12,#[]⟩::[])<|
 zl [.slc,.slc] (aD r1) fun(u42:(SLC×SLC×Unit))=>K (.tuple #[(.agg #[(.slice u42.1.1 u42.1.2.1 u42.1.2.2),(.slice u42.2.1.1 u42.2.1.2.1 u42.2.1.2.2)]),(.int .i64 (10:Int))]))<|
 ze prog 83 [(.pointer (some (aD r41)))] (.one (.one .slc)) fun(u43:SLC)=>
 ldW .slc (aD r5) fun(u44:SLC)=>
 za (((u43.2.1:Nat):Int) !=(wrap .i64 (((u44.2.1:Nat):Int)-(1:Int)))) (zc ((#[(.slice none 0 0),(.slice none 0 0)]:Array Value).size=2)<|
 zt (aD r1) [(.slice none 0 0),(.slice none 0 0)]<|
 zS prog (⟨.collected r12,#[]⟩::[])<|
 zl [.slc,.slc] (aD r1) fun(u45:(SLC×SLC×Unit))=>K (.tuple #[(.agg #[(.slice u45.1.1 u45.1.2.1 u45.1.2.2),(.slice u45.2.1.1 u45.2.1.2.1 u45.2.1.2.2)]),(.int .i64 (10:Int))]))<|
 zB (Int×Unit) ((0:Int),()) fun(y47:Int×Unit) (I46:(Int×Unit)->WP)=>
 za (decide (y47.1<((u43.2.1:Nat):Int))) (zc (0<=y47.1/\y47.1<((u43.2.1:Nat):Int))<|
 zh u43.1 fun(p48:Addr)=>
 zl [(.int .u64),.ptr] (p48.add (Int.toNat y47.1*2)) fun(u49:(Int×Option Addr×Unit))=>
 zi (.cells #[(.int .u64 (0:Int)),(.pointer none)] 140) fun(r50:Nat)=>
 zc ((#[(.int .u64 u49.1),(.pointer u49.2.1)]:Array Value).size=2)<|
 zt (aD r50) [(.int .u64 u49.1),(.pointer u49.2.1)]<|
 zD<|
 ldW .slc (aD r5) fun(u51:SLC)=>
 zc (0<=(wrap .i64 (y47.1+(1:Int)))/\(wrap .i64 (y47.1+(1:Int)))<((u51.2.1:Nat):Int))<|
 zh u51.1 fun(p52:Addr)=>
 ldW (.int .u64) (p52.add (Int.toNat (wrap .i64 (y47.1+(1:Int)))*1)) fun(u53:Int)=>
 ldW (.int .u64) (aD r50) fun(u54:Int)=>
 za (u53 !=u54) (zc ((#[(.slice none 0 0),(.slice none 0 0)]:Array Value).size=2)<|
 zt (aD r1) [(.slice none 0 0),(.slice none 0 0)]<|
 zS prog (⟨.collected r12,#[]⟩::[])<|
 zl [.slc,.slc] (aD r1) fun(u55:(SLC×SLC×Unit))=>K (.tuple #[(.agg #[(.slice u55.1.1 u55.1.2.1 u55.1.2.2),(.slice u55.2.1.1 u55.2.1.2.1 u55.2.1.2.2)]),(.int .i64 (10:Int))]))<|
 zD<|
 ldW .ptr ((aD r50).add 1) fun(u56:Option Addr)=>
 ldW .slc (aD r6) fun(u57:SLC)=>
 zc (0<=(wrap .i64 (y47.1+(1:Int)))/\(wrap .i64 (y47.1+(1:Int)))<((u57.2.1:Nat):Int))<|
 zh u57.1 fun(p58:Addr)=>
 ldW (.int .u32) (p58.add (Int.toNat (wrap .i64 (y47.1+(1:Int)))*1)) fun(u59:Int)=>
 zh u56 fun(p60:Addr)=>
 stW p60 (.int .u32 u59)<|I46 ((wrap .i64 (y47.1+(1:Int))),()))<|
 zl [.slc,.slc] (aD r41) fun(u61:(SLC×SLC×Unit))=>
 zc ((#[(.slice u61.1.1 u61.1.2.1 u61.1.2.2),(.slice u61.2.1.1 u61.2.1.2.1 u61.2.1.2.2)]:Array Value).size=2)<|
 zt (aD r1) [(.slice u61.1.1 u61.1.2.1 u61.1.2.2),(.slice u61.2.1.1 u61.2.1.2.1 u61.2.1.2.2)]<|
 zS prog (⟨.collected r12,#[]⟩::[])<|
 zl [.slc,.slc] (aD r1) fun(u62:(SLC×SLC×Unit))=>K (.tuple #[(.agg #[(.slice u62.1.1 u62.1.2.1 u62.1.2.2),(.slice u62.2.1.1 u62.2.1.2.1 u62.2.1.2.2)]),(.int .i64 (0:Int))])) (zS prog (⟨.collected r12,#[]⟩::[])<|
 zl [.slc,.slc] (aD r1) fun(u63:(SLC×SLC×Unit))=>K (.tuple #[(.agg #[(.slice u63.1.1 u63.1.2.1 u63.1.2.2),(.slice u63.2.1.1 u63.2.1.2.1 u63.2.1.2.2)]),(.int .i64 (0:Int))])) [] p13
theorem zoe (x0:Option Addr) (x1:Int) {K:Value->WP} {w:World} (h:S25 x0 x1 K w):Calls prog 25 #[(.pointer x0),(.int .u32 x1)] w (Ret K):=cF an25 true Tryz.func25 h
def an26:Ann:=(AN (AR (AN (AQ AO AP)) (AR (AN (.block (.loop [(7,.sh (.one (.int .u32)))] [] (AN (.block AP))))) AO)))
def S26 (x0:Option Addr) (K:Value->WP):WP:=
 zi (.cells #[(.int .i64 (0:Int))] 3) fun(r1:Nat)=>
 za (Option.isNone x0) (stW (aD r1) (.int .i64 (0:Int))<|
 zS prog []<|
 ldW (.int .i64) (aD r1) fun(u2:Int)=>K (.int .i64 u2))<|
 ze prog 84 [(.pointer x0)] (.one (.one .any)) fun(u3:Value)=>
 jE prog u3 (Int×Unit) (fun(t4:Int×Unit)=>[(.int .u32 t4.1)]) (fun(t4:Int×Unit) (B5:WP->WP) (N6:WP) (Q7:Code->WP)=>B5 (ldW (.int .i64) (aD r1) fun(u10:Int)=>
 stW (aD r1) (.int .i64 (wrap .i64 (u10+(1:Int))))<|N6)) fun(r8:Nat) (p9:Option Code)=>
 jw (ldW (.int .i64) (aD r1) fun(u11:Int)=>
 stW (aD r1) (.int .i64 u11)<|
 zS prog (⟨.collected r8,#[]⟩::[])<|
 ldW (.int .i64) (aD r1) fun(u12:Int)=>K (.int .i64 u12)) (zS prog (⟨.collected r8,#[]⟩::[])<|
 ldW (.int .i64) (aD r1) fun(u13:Int)=>K (.int .i64 u13)) [] p9
theorem zof (x0:Option Addr) {K:Value->WP} {w:World} (h:S26 x0 K w):Calls prog 26 #[(.pointer x0)] w (Ret K):=cF an26 true Tryz.func26 h
def an27:Ann:=(AN (AN (AR (AN (AQ AO AP)) (AR (AN (AQ AO AP)) (AN (AR (AN (AQ AO AP)) (AN (AR (AN (.block (.loop [(9,.sh (.one .slc)),(10,.sh (.one .slc)),(44,.sh (.one (.int .i64)))] [0,42,43,1000000] (AN (AR (AQ AP AP) (AR (.block AO) AP)))))) AO))))))))
def S27 (x0:Option Addr) (Ax:Option Addr) (Ay Az:Nat) (As:Option Addr) (Au Av:Nat) (K:Value->WP):WP:=
 zi (.cells #[(.slice Ax Ay Az),(.slice As Au Av)] 25) fun(r1:Nat)=>
 zl [.slc,.slc] (aD r1) fun(u2:(SLC×SLC×Unit))=>
 ze prog 11 [(.agg #[(.slice u2.1.1 u2.1.2.1 u2.1.2.2),(.slice u2.2.1.1 u2.2.1.2.1 u2.2.1.2.2)])] (.many [(.one .str),(.one (.int .i64))]) fun(u3:ByteArray×Int×Unit)=>
 za (u3.2.1 !=(0:Int)) (K (.tuple #[(.int .u32 (0:Int)),(.int .i64 u3.2.1)]))<|
 ldW .slc (aD r1) fun(u4:SLC)=>
 ldW .slc ((aD r1).add 1) fun(u5:SLC)=>
 za ((wrap .i64 (((u4.2.1:Nat):Int)+((u5.2.1:Nat):Int)))==(0:Int)) (K (.tuple #[(.int .u32 (0:Int)),(.int .i64 (0:Int))]))<|
 ze prog 85 [(.pointer x0),(.string u3.1)] (.many [(.one (.int .u32)),(.one (.int .i64))]) fun(u6:Int×Int×Unit)=>
 za (u6.2.1 !=(0:Int)) (K (.tuple #[(.int .u32 (0:Int)),(.int .i64 u6.2.1)]))<|
 zi (.cells #[(.int .u64 (0:Int))] 42) fun(r7:Nat)=>
 zi (.cells #[(.int .u64 (wrap .u64 u6.1))] 42) fun(r8:Nat)=>
 ze prog 83 [(.pointer (some (aD r1)))] (.one (.one .slc)) fun(u9:SLC)=>
 zB (SLC×SLC×Int×Unit) (((some (aD r7)),1,1),((some (aD r8)),1,1),(0:Int),()) fun(y11:SLC×SLC×Int×Unit) (I10:(SLC×SLC×Int×Unit)->WP)=>
 za (decide (y11.2.2.1<((u9.2.1:Nat):Int))) (zc (0<=y11.2.2.1/\y11.2.2.1<((u9.2.1:Nat):Int))<|
 zh u9.1 fun(p12:Addr)=>
 zl [(.int .u64),.ptr] (p12.add (Int.toNat y11.2.2.1*2)) fun(u13:(Int×Option Addr×Unit))=>
 zi (.cells #[(.int .u64 (0:Int)),(.pointer none)] 140) fun(r14:Nat)=>
 zc ((#[(.int .u64 u13.1),(.pointer u13.2.1)]:Array Value).size=2)<|
 zt (aD r14) [(.int .u64 u13.1),(.pointer u13.2.1)]<|
 zD<|
 ldW (.int .u64) (aD r14) fun(u15:Int)=>
 ldW .ptr ((aD r14).add 1) fun(u16:Option Addr)=>
 zh u16 fun(p17:Addr)=>
 ldW (.int .u32) p17 fun(u18:Int)=>
 kW (zi (.cells #[(.int .u64 u15)] 42) fun(r19:Nat)=>
 zr [[(p17,(.int .u32 u18))],[(((aD r14).add 1),(.pointer u16))]]<|
 kW (zv prog (Builtin.append_ #[129,129] 129 #[(.slice y11.1.1 y11.1.2.1 y11.1.2.2),(.slice (some (aD r19)) 1 1)]) .slc fun(u20:SLC)=>
 zr [[(p17,(.int .u32 u18))],[(((aD r14).add 1),(.pointer u16))]]<|
 zi (.cells #[(.int .u64 (wrap .u64 u18))] 42) fun(r21:Nat)=>
 zr [[((aD r14),(.int .u64 u15))]]<|
 zv prog (Builtin.append_ #[129,129] 129 #[(.slice y11.2.1.1 y11.2.1.2.1 y11.2.1.2.2),(.slice (some (aD r21)) 1 1)]) .slc fun(u22:SLC)=>I10 ((u20.1,u20.2.1,u20.2.2),(u22.1,u22.2.1,u22.2.2),(wrap .i64 (y11.2.2.1+(1:Int))),()))<|
 zi (.cells #[(.int .u64 (wrap .u64 u18))] 42) fun(r23:Nat)=>
 zr [[((aD r14),(.int .u64 u15))]]<|
 zv prog (Builtin.append_ #[129,129] 129 #[(.slice y11.1.1 y11.1.2.1 y11.1.2.2),(.slice (some (aD r19)) 1 1)]) .slc fun(u24:SLC)=>
 zr [[(p17,(.int .u32 u18))],[(((aD r14).add 1),(.pointer u16))]]<|
 zv prog (Builtin.append_ #[129,129] 129 #[(.slice y11.2.1.1 y11.2.1.2.1 y11.2.1.2.2),(.slice (some (aD r23)) 1 1)]) .slc fun(u25:SLC)=>I10 ((u24.1,u24.2.1,u24.2.2),(u25.1,u25.2.1,u25.2.2),(wrap .i64 (y11.2.2.1+(1:Int))),()))<|
 zi (.cells #[(.int .u64 (wrap .u64 u18))] 42) fun(r26:Nat)=>
 zr [[((aD r14),(.int .u64 u15))]]<|
 zi (.cells #[(.int .u64 u15)] 42) fun(r27:Nat)=>
 zr [[(p17,(.int .u32 u18))],[(((aD r14).add 1),(.pointer u16))]]<|
 zv prog (Builtin.append_ #[129,129] 129 #[(.slice y11.1.1 y11.1.2.1 y11.1.2.2),(.slice (some (aD r27)) 1 1)]) .slc fun(u28:SLC)=>
 zr [[(p17,(.int .u32 u18))],[(((aD r14).add 1),(.pointer u16))]]<|
 zv prog (Builtin.append_ #[129,129] 129 #[(.slice y11.2.1.1 y11.2.1.2.1 y11.2.1.2.2),(.slice (some (aD r26)) 1 1)]) .slc fun(u29:SLC)=>I10 ((u28.1,u28.2.1,u28.2.2),(u29.1,u29.2.1,u29.2.2),(wrap .i64 (y11.2.2.1+(1:Int))),()))<|
 ze prog 86 [(.pointer x0),(.bool true),(.slice y11.1.1 y11.1.2.1 y11.1.2.2),(.slice y11.2.1.1 y11.2.1.2.1 y11.2.1.2.2)] (.many [(.one (.int .u32)),(.one (.int .i64))]) fun(u30:Int×Int×Unit)=>K (.tuple #[(.int .u32 u30.1),(.int .i64 u30.2.1)])
theorem zog (x0:Option Addr) (Ax:Option Addr) (Ay Az:Nat) (As:Option Addr) (Au Av:Nat) {K:Value->WP} {w:World} (h:S27 x0 Ax Ay Az As Au Av K w):Calls prog 27 #[(.pointer x0),(.agg #[(.slice Ax Ay Az),(.slice As Au Av)])] w (Ret K):=cF an27 false Tryz.func27 h
def an28:Ann:=(AN (AR (.block (AN (AQ AO (AN (AQ AO AP))))) (AN (AN (AR (.block (.loop [(5,.sh (.one .slc))] [0,1000000] (AR (AN (AQ AP AP)) (.block (AN (AN (AN (AR (AN (AQ (AR (AN (AN (AQ AO AP))) AP) AP)) (AN (AR (AN (AQ AO AP)) (AR (AN (AN (AQ AO AP))) AO))))))))))) AO)))))
def S28 (x0:Option Addr) (x1:Int) (K:Value->WP):WP:=
 za (Option.isNone x0) (K (.int .i64 (1:Int)))<|
 ze prog 73 [(.pointer x0),(.int .u32 x1)] (.one (.one .bool)) fun(u1:Bool)=>
 za (!u1) (K (.int .i64 (2:Int)))<|
 zi (.cells #[(.int .u32 x1)] 41) fun(r2:Nat)=>
 zB (SLC×Unit) (((some (aD r2)),1,1),()) fun(y4:SLC×Unit) (I3:(SLC×Unit)->WP)=>
 za (decide (((y4.1.2.1:Nat):Int)>(0:Int))) (zc (0<=(wrap .i64 (((y4.1.2.1:Nat):Int)-(1:Int)))/\(wrap .i64 (((y4.1.2.1:Nat):Int)-(1:Int)))<((y4.1.2.1:Nat):Int))<|
 zh y4.1.1 fun(p5:Addr)=>
 ldW (.int .u32) (p5.add (Int.toNat (wrap .i64 (((y4.1.2.1:Nat):Int)-(1:Int)))*1)) fun(u6:Int)=>
 zc (0<=(wrap .i64 (((y4.1.2.1:Nat):Int)-(1:Int)))/\(wrap .i64 (((y4.1.2.1:Nat):Int)-(1:Int)))<=((y4.1.2.2:Nat):Int))<|
 zh x0 fun(p7:Addr)=>
 ldW .ptr (p7.add 8) fun(u8:Option Addr)=>
 ze prog 75 [(.pointer u8),(.int .u32 u6)] (.one (.one (.int .i64))) fun(u9:Int)=>
 za (u9 !=(1:Int)) (zh x0 fun(p10:Addr)=>
 ldW .ptr (p10.add 8) fun(u11:Option Addr)=>
 ze prog 87 [(.pointer u11),(.int .u32 u6)] (.many [(.one (.int .i64)),(.one (.int .i64))]) fun(u12:Int×Int×Unit)=>
 za (u12.2.1 !=(0:Int)) (K (.int .i64 u12.2.1))<|I3 (((zn y4.1.1 0 y4.1.2.2 1),(Int.toNat (wrap .i64 (((y4.1.2.1:Nat):Int)-(1:Int)))),y4.1.2.2),()))<|
 ze prog 88 [(.pointer x0),(.int .u32 u6)] (.many [(.agg [(.int .u8),.slc,.str]),(.one (.int .i64))]) fun(u13:(Int×SLC×ByteArray×Unit)×Int×Unit)=>
 zi (.cells #[(.int .u8 (0:Int)),(.slice none 0 0),(.string ByteArray.empty)] 56) fun(r14:Nat)=>
 zc ((#[(.int .u8 u13.1.1),(.slice u13.1.2.1.1 u13.1.2.1.2.1 u13.1.2.1.2.2),(.string u13.1.2.2.1)]:Array Value).size=3)<|
 zt (aD r14) [(.int .u8 u13.1.1),(.slice u13.1.2.1.1 u13.1.2.1.2.1 u13.1.2.1.2.2),(.string u13.1.2.2.1)]<|
 za (u13.2.1 !=(0:Int)) (K (.int .i64 u13.2.1))<|
 zh x0 fun(p15:Addr)=>
 ldW .ptr (p15.add 8) fun(u16:Option Addr)=>
 ze prog 87 [(.pointer u16),(.int .u32 u6)] (.many [(.one (.int .i64)),(.one (.int .i64))]) fun(u17:Int×Int×Unit)=>
 za (u17.2.1 !=(0:Int)) (K (.int .i64 u17.2.1))<|
 ldW .slc ((aD r14).add 1) fun(u18:SLC)=>
 ze prog 89 [(.slice u18.1 u18.2.1 u18.2.2)] .none fun(u19:Unit)=>
 ldW .slc ((aD r14).add 1) fun(u20:SLC)=>
 zv prog (Builtin.append_ #[54,54] 54 #[(.slice (zn y4.1.1 0 y4.1.2.2 1) (Int.toNat (wrap .i64 (((y4.1.2.1:Nat):Int)-(1:Int)))) y4.1.2.2),(.slice u20.1 u20.2.1 u20.2.2)]) .slc fun(u21:SLC)=>I3 ((u21.1,u21.2.1,u21.2.2),()))<|K (.int .i64 (0:Int))
theorem zoh (x0:Option Addr) (x1:Int) {K:Value->WP} {w:World} (h:S28 x0 x1 K w):Calls prog 28 #[(.pointer x0),(.int .u32 x1)] w (Ret K):=cF an28 false Tryz.func28 h
def an35:Ann:=(AN (AR (AN (AQ AO AP)) AO))
def S35 (x0:Option Addr) (K:Value->WP):WP:=
 zi (.cells #[(.int .i64 (0:Int)),(.int .i64 (0:Int))] 72) fun(r1:Nat)=>
 za (Option.isNone x0) (zc ((#[(.int .i64 (0:Int)),(.int .i64 (0:Int))]:Array Value).size=2)<|
 zt (aD r1) [(.int .i64 (0:Int)),(.int .i64 (0:Int))]<|
 zl [(.int .i64),(.int .i64)] (aD r1) fun(u2:(Int×Int×Unit))=>K (.agg #[(.int .i64 u2.1),(.int .i64 u2.2.1)]))<|
 zh x0 fun(p3:Addr)=>
 zl [(.int .i64),(.int .i64)] p3 fun(u4:(Int×Int×Unit))=>
 zc ((#[(.int .i64 u4.1),(.int .i64 u4.2.1)]:Array Value).size=2)<|
 zt (aD r1) [(.int .i64 u4.1),(.int .i64 u4.2.1)]<|
 zl [(.int .i64),(.int .i64)] (aD r1) fun(u5:(Int×Int×Unit))=>K (.agg #[(.int .i64 u5.1),(.int .i64 u5.2.1)])
theorem zoi (x0:Option Addr) {K:Value->WP} {w:World} (h:S35 x0 K w):Calls prog 35 #[(.pointer x0)] w (Ret K):=cF an35 false Tryz.func35 h
def an39:Ann:=(AN (AR (AN (.block (.loop [(3,.sh (.one (.int .i64)))] [0,1000000] (AR (AN (AQ AP AP)) (AR (.block (AN (AQ AO AP))) AP))))) AO))
def S39 (a0:Option Addr) (n0 c0:Nat) (K:Value->WP):WP:=
 zB (Int×Unit) ((0:Int),()) fun(y2:Int×Unit) (I1:(Int×Unit)->WP)=>
 za (decide (y2.1<((n0:Nat):Int))) (zc (0<=y2.1/\y2.1<((n0:Nat):Int))<|
 zh a0 fun(p3:Addr)=>
 ldW .str (p3.add (Int.toNat y2.1*3)) fun(u4:ByteArray)=>
 za (decide (((u4.size:Nat):Int)>(60:Int))) (K (.bool false))<|I1 ((wrap .i64 (y2.1+(1:Int))),()))<|K (.bool (decide (((n0:Nat):Int)<=(20:Int))))
theorem zoj (a0:Option Addr) (n0 c0:Nat) {K:Value->WP} {w:World} (h:S39 a0 n0 c0 K w):Calls prog 39 #[(.slice a0 n0 c0)] w (Ret K):=cF an39 false Tryz.func39 h
def an40:Ann:=(AN (AR (AN (AN (AQ AO AP))) (AN (AR (AN (.block (.loop [(5,.sh (.one .slc)),(20,.sh (.one (.int .i64)))] [18,19,1000000] (AN (AR (AQ AP AP) (AR (.block (AN (AN (AR (AN (AQ AP AP)) AP)))) AP)))))) AO))))
def S40 (a0:Option Addr) (n0 c0:Nat) (K:Value->WP):WP:=
 ze prog 106 [(.slice a0 n0 c0)] (.one (.one (.int .i64))) fun(u1:Int)=>
 za (u1 !=(0:Int)) (K (.tuple #[(.string (ByteArray.mk #[])),(.int .i64 u1)]))<|
 zi (.cells #[(.int .u8 (wrap .u8 ((n0:Nat):Int)))] 5) fun(r2:Nat)=>
 zB (SLC×Int×Unit) (((some (aD r2)),1,1),(0:Int),()) fun(y4:SLC×Int×Unit) (I3:(SLC×Int×Unit)->WP)=>
 za (decide (y4.2.1<((n0:Nat):Int))) (zc (0<=y4.2.1/\y4.2.1<((n0:Nat):Int))<|
 zh a0 fun(p5:Addr)=>
 zl [.str,(.int .i64),.bool] (p5.add (Int.toNat y4.2.1*3)) fun(u6:(ByteArray×Int×Bool×Unit))=>
 zi (.cells #[(.string ByteArray.empty),(.int .i64 (0:Int)),(.bool false)] 62) fun(r7:Nat)=>
 zc ((#[(.string u6.1),(.int .i64 u6.2.1),(.bool u6.2.2.1)]:Array Value).size=3)<|
 zt (aD r7) [(.string u6.1),(.int .i64 u6.2.1),(.bool u6.2.2.1)]<|
 ldW (.int .i64) ((aD r7).add 1) fun(u8:Int)=>
 ldW .bool ((aD r7).add 2) fun(u9:Bool)=>
 za u9 (zD<|
 ldW .str (aD r7) fun(u10:ByteArray)=>
 ldW .str (aD r7) fun(u11:ByteArray)=>
 zi (.cells #[(.int .u8 (ior .u8 (wrap .u8 u8) (128:Int))),(.int .u8 (wrap .u8 ((u10.size:Nat):Int)))] 5) fun(r12:Nat)=>
 zr [[((aD r7),(.string u11))]]<|
 zv prog (Builtin.append_ #[85,85] 85 #[(.slice y4.1.1 y4.1.2.1 y4.1.2.2),(.slice (some (aD r12)) 2 2)]) .slc fun(u13:SLC)=>
 zr [[((aD r7),(.string u11))]]<|
 zv prog (Builtin.append_ #[85,9] 85 #[(.slice u13.1 u13.2.1 u13.2.2),(.string u11)]) .slc fun(u14:SLC)=>I3 ((u14.1,u14.2.1,u14.2.2),(wrap .i64 (y4.2.1+(1:Int))),()))<|
 zD<|
 ldW .str (aD r7) fun(u15:ByteArray)=>
 ldW .str (aD r7) fun(u16:ByteArray)=>
 zi (.cells #[(.int .u8 (wrap .u8 u8)),(.int .u8 (wrap .u8 ((u15.size:Nat):Int)))] 5) fun(r17:Nat)=>
 zr [[((aD r7),(.string u16))]]<|
 zv prog (Builtin.append_ #[85,85] 85 #[(.slice y4.1.1 y4.1.2.1 y4.1.2.2),(.slice (some (aD r17)) 2 2)]) .slc fun(u18:SLC)=>
 zr [[((aD r7),(.string u16))]]<|
 zv prog (Builtin.append_ #[85,9] 85 #[(.slice u18.1 u18.2.1 u18.2.2),(.string u16)]) .slc fun(u19:SLC)=>I3 ((u19.1,u19.2.1,u19.2.2),(wrap .i64 (y4.2.1+(1:Int))),()))<|
 zv prog (Go.convert 85 9 (.slice y4.1.1 y4.1.2.1 y4.1.2.2)) .str fun(u20:ByteArray)=>K (.tuple #[(.string u20),(.int .i64 (0:Int))])
theorem zok (a0:Option Addr) (n0 c0:Nat) {K:Value->WP} {w:World} (h:S40 a0 n0 c0 K w):Calls prog 40 #[(.slice a0 n0 c0)] w (Ret K):=cF an40 false Tryz.func40 h
def an41:Ann:=(AN AO)
def S41 (a0:Option Addr) (n0 c0:Nat) (x1:ByteArray) (K:Value->WP):WP:=
 zi (.cells #[(.int .u8 (wrap .u8 ((x1.size:Nat):Int)))] 5) fun(r1:Nat)=>
 zv prog (Builtin.append_ #[85,85] 85 #[(.slice a0 n0 c0),(.slice (some (aD r1)) 1 1)]) .slc fun(u2:SLC)=>
 zv prog (Builtin.append_ #[85,9] 85 #[(.slice u2.1 u2.2.1 u2.2.2),(.string x1)]) .slc fun(u3:SLC)=>K (.slice u3.1 u3.2.1 u3.2.2)
theorem zol (a0:Option Addr) (n0 c0:Nat) (x1:ByteArray) {K:Value->WP} {w:World} (h:S41 a0 n0 c0 x1 K w):Calls prog 41 #[(.slice a0 n0 c0),(.string x1)] w (Ret K):=cF an41 false Tryz.func41 h
def an42:Ann:=(AN (AR (AN (AQ AO AP)) (AR (AN (.block (.loop [(0,.sh (.one .slc)),(16,.sh (.one (.int .i64)))] [1,15,1000000] (AN (AR (AQ AP AP) (AR (.block AO) AP)))))) AO)))
def S42 (a0:Option Addr) (n0 c0:Nat) (x1:Int) (x2:Int) (K:Value->WP):WP:=
 za (decide (x2<(1:Int))) (K (.slice a0 n0 c0))<|
 za (decide (x2>(8:Int))) (K (.slice a0 n0 c0))<|
 zB (SLC×Int×Unit) ((a0,n0,c0),(0:Int),()) fun(y2:SLC×Int×Unit) (I1:(SLC×Int×Unit)->WP)=>
 za (decide (y2.2.1<x2)) (zc (0<=(wrap .i64 ((8:Int)*y2.2.1)))<|
 zi (.cells #[(.int .u8 (wrap .u8 (ishr .u64 x1 (wrap .i64 ((8:Int)*y2.2.1)))))] 5) fun(r3:Nat)=>
 zv prog (Builtin.append_ #[85,85] 85 #[(.slice y2.1.1 y2.1.2.1 y2.1.2.2),(.slice (some (aD r3)) 1 1)]) .slc fun(u4:SLC)=>I1 ((u4.1,u4.2.1,u4.2.2),(wrap .i64 (y2.2.1+(1:Int))),()))<|K (.slice y2.1.1 y2.1.2.1 y2.1.2.2)
theorem zi0 (a0:Option Addr) (n0 c0:Nat) (x1:Int) (x2:Int) {K:Value->WP} {w:World} (h:S42 a0 n0 c0 x1 x2 K w):Calls prog 42 #[(.slice a0 n0 c0),(.int .u64 x1),(.int .i64 x2)] w (Ret K):=cF an42 false Tryz.func42 h
def an43:Ann:=(AN AO)
def S43 (a0:Option Addr) (n0 c0:Nat) (x1:Int) (K:Value->WP):WP:=
 zi (.cells #[(.int .u8 (wrap .u8 (if (1:Int)<x1 then (1:Int) else x1)))] 5) fun(r1:Nat)=>
 zv prog (Builtin.append_ #[85,85] 85 #[(.slice a0 n0 c0),(.slice (some (aD r1)) 1 1)]) .slc fun(u2:SLC)=>K (.slice u2.1 u2.2.1 u2.2.2)
theorem zom (a0:Option Addr) (n0 c0:Nat) (x1:Int) {K:Value->WP} {w:World} (h:S43 a0 n0 c0 x1 K w):Calls prog 43 #[(.slice a0 n0 c0),(.int .u32 x1)] w (Ret K):=cF an43 false Tryz.func43 h
def an44:Ann:=(AN AO)
def S44 (x0:Option Addr) (x1:Int) (K:Value->WP):WP:=
 ze prog 108 [(.pointer x0),(.int .i64 x1)] (.one (.one .str)) fun(u1:ByteArray)=>
 zv prog (Go.convert 9 85 (.string u1)) .slc fun(u2:SLC)=>
 ze prog 107 [(.slice u2.1 u2.2.1 u2.2.2)] (.one (.one (.int .u64))) fun(u3:Int)=>K (.int .u64 u3)
theorem zon (x0:Option Addr) (x1:Int) {K:Value->WP} {w:World} (h:S44 x0 x1 K w):Calls prog 44 #[(.pointer x0),(.int .i64 x1)] w (Ret K):=cF an44 false Tryz.func44 h
def an45:Ann:=(AN AO)
def S45 (x0:Option Addr) (K:Value->WP):WP:=
 ze prog 44 [(.pointer x0),(.int .i64 (1:Int))] (.one (.one (.int .u64))) fun(u1:Int)=>
 ze prog 108 [(.pointer x0),(.int .i64 (wrap .i64 u1))] (.one (.one .str)) fun(u2:ByteArray)=>K (.string u2)
theorem zoo (x0:Option Addr) {K:Value->WP} {w:World} (h:S45 x0 K w):Calls prog 45 #[(.pointer x0)] w (Ret K):=cF an45 false Tryz.func45 h
def an46:Ann:=(AN (AR (AN (AQ AO AP)) (AN (AR (AN (AQ AP AP)) (AN AO)))))
def S46 (x0:Option Addr) (K:Value->WP):WP:=
 zh x0 fun(p1:Addr)=>
 ldW (.int .i64) (p1.add 1) fun(u2:Int)=>
 za (u2 !=(0:Int)) (K (.slice none 0 0))<|
 zh x0 fun(p3:Addr)=>
 ldW .str p3 fun(u4:ByteArray)=>
 ze prog 109 [(.string u4)] (.many [(.one .slc),(.one .str),(.one (.int .i64))]) fun(u5:SLC×ByteArray×Int×Unit)=>
 za (u5.2.2.1 !=(0:Int)) (zh x0 fun(p6:Addr)=>
 stW (p6.add 1) (.int .i64 (240:Int))<|
 zh x0 fun(p7:Addr)=>
 stW p7 (.string u5.2.1)<|K (.slice u5.1.1 u5.1.2.1 u5.1.2.2))<|
 zh x0 fun(p8:Addr)=>
 stW p8 (.string u5.2.1)<|K (.slice u5.1.1 u5.1.2.1 u5.1.2.2)
theorem zop (x0:Option Addr) {K:Value->WP} {w:World} (h:S46 x0 K w):Calls prog 46 #[(.pointer x0)] w (Ret K):=cF an46 false Tryz.func46 h
def an47:Ann:=(AN (AN (AR (AN (AQ AP AP)) AO)))
def S47 (x0:Option Addr) (K:Value->WP):WP:=
 ze prog 44 [(.pointer x0),(.int .i64 (1:Int))] (.one (.one (.int .u64))) fun(u1:Int)=>
 zh x0 fun(p2:Addr)=>
 ldW (.int .i64) (p2.add 1) fun(u3:Int)=>
 za (u3==(0:Int)) (za (decide (u1>(1:Int))) (zh x0 fun(p4:Addr)=>
 stW (p4.add 1) (.int .i64 (240:Int))<|K (.int .u32 (wrap .u32 u1)))<|K (.int .u32 (wrap .u32 u1)))<|K (.int .u32 (wrap .u32 u1))
theorem zoq (x0:Option Addr) {K:Value->WP} {w:World} (h:S47 x0 K w):Calls prog 47 #[(.pointer x0)] w (Ret K):=cF an47 false Tryz.func47 h
def an48:Ann:=(AN (AN (AR (AN (AQ AO AP)) (AN (AR (AN (.block (.loop [(5,.sh (.one .slc)),(6,.sh (.one (.int .i64)))] [0,1000000] (AR (AN (AQ AP AP)) (AR (.block (AN (.join [(7,.sh (.one (.int .u8)))] [0,5,6,1000000] (AN (AQ AP AP)) AO))) AP))))) AO)))))
def S48 (a0:Option Addr) (n0 c0:Nat) (K:Value->WP):WP:=
 ze prog 64 [(.slice a0 n0 c0)] (.one (.one (.int .i64))) fun(u1:Int)=>
 za (u1 !=(0:Int)) (K (.tuple #[(.string (ByteArray.mk #[])),(.int .i64 u1)]))<|
 zi (.cells #[(.int .u8 (wrap .u8 ((n0:Nat):Int)))] 5) fun(r2:Nat)=>
 zB (SLC×Int×Unit) (((some (aD r2)),1,1),(0:Int),()) fun(y4:SLC×Int×Unit) (I3:(SLC×Int×Unit)->WP)=>
 za (decide (y4.2.1<((n0:Nat):Int))) (zc (0<=y4.2.1/\y4.2.1<((n0:Nat):Int))<|
 zh a0 fun(p5:Addr)=>
 ldW (.int .i64) ((p5.add (Int.toNat y4.2.1*3)).add 1) fun(u6:Int)=>
 yD (Int×Unit) (fun(J7:(Int×Unit)->WP)=>
 zc (0<=y4.2.1/\y4.2.1<((n0:Nat):Int))<|
 zh a0 fun(p9:Addr)=>
 ldW .bool ((p9.add (Int.toNat y4.2.1*3)).add 2) fun(u10:Bool)=>
 za u10 (J7 ((wrap .u8 ((wrap .u8 u6)+(128:Int))),()))<|J7 ((wrap .u8 u6),())) fun(y8:Int×Unit)=>
 zc (0<=y4.2.1/\y4.2.1<((n0:Nat):Int))<|
 zh a0 fun(p11:Addr)=>
 ldW .str (p11.add (Int.toNat y4.2.1*3)) fun(u12:ByteArray)=>
 zi (.cells #[(.int .u8 y8.1),(.int .u8 (wrap .u8 ((u12.size:Nat):Int)))] 5) fun(r13:Nat)=>
 zv prog (Builtin.append_ #[85,85] 85 #[(.slice y4.1.1 y4.1.2.1 y4.1.2.2),(.slice (some (aD r13)) 2 2)]) .slc fun(u14:SLC)=>
 zc (0<=y4.2.1/\y4.2.1<((n0:Nat):Int))<|
 zh a0 fun(p15:Addr)=>
 ldW .str (p15.add (Int.toNat y4.2.1*3)) fun(u16:ByteArray)=>
 zv prog (Builtin.append_ #[85,9] 85 #[(.slice u14.1 u14.2.1 u14.2.2),(.string u16)]) .slc fun(u17:SLC)=>I3 ((u17.1,u17.2.1,u17.2.2),(wrap .i64 (y4.2.1+(1:Int))),()))<|
 zv prog (Go.convert 85 9 (.slice y4.1.1 y4.1.2.1 y4.1.2.2)) .str fun(u18:ByteArray)=>K (.tuple #[(.string u18),(.int .i64 (0:Int))])
theorem zor (a0:Option Addr) (n0 c0:Nat) {K:Value->WP} {w:World} (h:S48 a0 n0 c0 K w):Calls prog 48 #[(.slice a0 n0 c0)] w (Ret K):=cF an48 false Tryz.func48 h
def an49:Ann:=(AN AO)
def S49 (a0:Option Addr) (n0 c0:Nat) (x1:ByteArray) (K:Value->WP):WP:=
 zi (.cells #[(.int .u8 (wrap .u8 ((x1.size:Nat):Int)))] 5) fun(r1:Nat)=>
 zv prog (Builtin.append_ #[85,85] 85 #[(.slice a0 n0 c0),(.slice (some (aD r1)) 1 1)]) .slc fun(u2:SLC)=>
 zv prog (Builtin.append_ #[85,9] 85 #[(.slice u2.1 u2.2.1 u2.2.2),(.string x1)]) .slc fun(u3:SLC)=>K (.slice u3.1 u3.2.1 u3.2.2)
theorem zos (a0:Option Addr) (n0 c0:Nat) (x1:ByteArray) {K:Value->WP} {w:World} (h:S49 a0 n0 c0 x1 K w):Calls prog 49 #[(.slice a0 n0 c0),(.string x1)] w (Ret K):=cF an49 false Tryz.func49 h
def an50:Ann:=(AN (AR (AN (AQ AO AP)) AO))
def S50 (a0:Option Addr) (n0 c0:Nat) (x1:Int) (K:Value->WP):WP:=
 za (x1 !=(0:Int)) (zi (.cells #[(.int .u8 (1:Int))] 5) fun(r1:Nat)=>
 zv prog (Builtin.append_ #[85,85] 85 #[(.slice a0 n0 c0),(.slice (some (aD r1)) 1 1)]) .slc fun(u2:SLC)=>K (.slice u2.1 u2.2.1 u2.2.2))<|
 zi (.cells #[(.int .u8 (0:Int))] 5) fun(r3:Nat)=>
 zv prog (Builtin.append_ #[85,85] 85 #[(.slice a0 n0 c0),(.slice (some (aD r3)) 1 1)]) .slc fun(u4:SLC)=>K (.slice u4.1 u4.2.1 u4.2.2)
theorem zot (a0:Option Addr) (n0 c0:Nat) (x1:Int) {K:Value->WP} {w:World} (h:S50 a0 n0 c0 x1 K w):Calls prog 50 #[(.slice a0 n0 c0),(.int .u32 x1)] w (Ret K):=cF an50 false Tryz.func50 h
def an51:Ann:=(AN (AR (AN (.block (.loop [(0,.sh (.one .slc)),(7,.sh (.one (.int .i64)))] [1,2,1000000] (AR (AN (AQ AP AP)) (AR (.block AP) AP))))) AO))
def S51 (a0:Option Addr) (n0 c0:Nat) (x1:Int) (x2:Int) (K:Value->WP):WP:=
 zB (SLC×Int×Unit) ((a0,n0,c0),(0:Int),()) fun(y2:SLC×Int×Unit) (I1:(SLC×Int×Unit)->WP)=>
 za (decide (y2.2.1<x2)) (zc (0<=(wrap .u64 (wrap .i64 ((8:Int)*y2.2.1))))<|
 zi (.cells #[(.int .u8 (wrap .u8 (ishr .u64 x1 (wrap .u64 (wrap .i64 ((8:Int)*y2.2.1))))))] 5) fun(r3:Nat)=>
 zv prog (Builtin.append_ #[85,85] 85 #[(.slice y2.1.1 y2.1.2.1 y2.1.2.2),(.slice (some (aD r3)) 1 1)]) .slc fun(u4:SLC)=>I1 ((u4.1,u4.2.1,u4.2.2),(wrap .i64 (y2.2.1+(1:Int))),()))<|K (.slice y2.1.1 y2.1.2.1 y2.1.2.2)
theorem zou (a0:Option Addr) (n0 c0:Nat) (x1:Int) (x2:Int) {K:Value->WP} {w:World} (h:S51 a0 n0 c0 x1 x2 K w):Calls prog 51 #[(.slice a0 n0 c0),(.int .u64 x1),(.int .i64 x2)] w (Ret K):=cF an51 false Tryz.func51 h
def an52:Ann:=(AN (AN (AN (AR (AN (.block (.loop [(6,.sh (.one (.int .u64))),(7,.sh (.one (.int .i64)))] [5,1000000] (AR (AN (AQ AP AP)) (AR (.block AP) AP))))) AO))))
def S52 (x0:Option Addr) (x1:Int) (K:Value->WP):WP:=
 ze prog 53 [(.pointer x0),(.int .i64 x1)] (.one (.one .str)) fun(u1:ByteArray)=>
 zB (Int×Int×Unit) ((0:Int),(wrap .i64 (x1-(1:Int))),()) fun(y3:Int×Int×Unit) (I2:(Int×Int×Unit)->WP)=>
 za (decide (y3.2.1>=(0:Int))) (zc (0<=y3.2.1/\y3.2.1<((u1.size:Nat):Int))<|I2 ((ior .u64 (ishl .u64 y3.1 (8:Int)) (wrap .u64 (bt u1 y3.2.1))),(wrap .i64 (y3.2.1-(1:Int))),()))<|K (.int .u64 y3.1)
theorem zov (x0:Option Addr) (x1:Int) {K:Value->WP} {w:World} (h:S52 x0 x1 K w):Calls prog 52 #[(.pointer x0),(.int .i64 x1)] w (Ret K):=cF an52 false Tryz.func52 h
def an53:Ann:=(AN (AR (AN (AQ (AN AO) AP)) (AN (AN AO))))
def S53 (x0:Option Addr) (x1:Int) (K:Value->WP):WP:=
 zh x0 fun(p1:Addr)=>
 ldW .str p1 fun(u2:ByteArray)=>
 za (decide (x1>((u2.size:Nat):Int))) (zh x0 fun(p3:Addr)=>
 stW (p3.add 1) (.bool false)<|
 zh x0 fun(p4:Addr)=>
 stW p4 (.string (ByteArray.mk #[]))<|
 zv prog (Instr.makeSlice 85 (.int .i64 x1) (.int .i64 x1)) .slc fun(u5:SLC)=>
 zv prog (Go.convert 85 9 (.slice u5.1 u5.2.1 u5.2.2)) .str fun(u6:ByteArray)=>K (.string u6))<|
 zh x0 fun(p7:Addr)=>
 ldW .str p7 fun(u8:ByteArray)=>
 zc (0<=x1/\x1<=((u8.size:Nat):Int))<|
 zh x0 fun(p9:Addr)=>
 ldW .str p9 fun(u10:ByteArray)=>
 zc (0<=x1/\x1<=((u10.size:Nat):Int))<|
 zh x0 fun(p11:Addr)=>
 stW p11 (.string (ByteArray.extract u10 (Int.toNat x1) u10.size))<|K (.string (ByteArray.extract u8 0 (Int.toNat x1)))
theorem zow (x0:Option Addr) (x1:Int) {K:Value->WP} {w:World} (h:S53 x0 x1 K w):Calls prog 53 #[(.pointer x0),(.int .i64 x1)] w (Ret K):=cF an53 false Tryz.func53 h
def an54:Ann:=(AN (AR (AN (AQ AO AP)) (AN (AN (AN (AR (AN (.block (.loop [(0,.sh (.one .str)),(6,.sh (.one .slc)),(7,.sh (.one (.int .i64)))] [5,1000000] (AR (AN (AQ AP AP)) (AR (.block (AR (AN (AQ AO AP)) AO)) AP))))) (AR (AN (AQ AO AP)) AO)))))))
def S54 (x0:ByteArray) (K:Value->WP):WP:=
 za (x0.toList==(ByteArray.mk #[]).toList) (K (.tuple #[(.slice none 0 0),(.string (ByteArray.mk #[])),(.int .i64 (171:Int))]))<|
 zc (0<=(0:Int)/\(0:Int)<((x0.size:Nat):Int))<|
 zc (0<=(1:Int)/\(1:Int)<=((x0.size:Nat):Int))<|
 zB (ByteArray×SLC×Int×Unit) ((ByteArray.extract x0 (Int.toNat (1:Int)) x0.size),(none,0,0),(0:Int),()) fun(y2:ByteArray×SLC×Int×Unit) (I1:(ByteArray×SLC×Int×Unit)->WP)=>
 za (decide (y2.2.2.1<(wrap .i64 (bt x0 (0:Int))))) (za (decide (((y2.1.size:Nat):Int)<(2:Int))) (K (.tuple #[(.slice none 0 0),(.string (ByteArray.mk #[])),(.int .i64 (171:Int))]))<|
 zc (0<=(1:Int)/\(1:Int)<((y2.1.size:Nat):Int))<|
 za (decide (((y2.1.size:Nat):Int)<(wrap .i64 ((2:Int)+(wrap .i64 (bt y2.1 (1:Int))))))) (K (.tuple #[(.slice none 0 0),(.string (ByteArray.mk #[])),(.int .i64 (171:Int))]))<|
 zD<|
 zc (0<=(1:Int)/\(1:Int)<((y2.1.size:Nat):Int))<|
 zc (0<=(2:Int)/\(2:Int)<=(wrap .i64 ((2:Int)+(wrap .i64 (bt y2.1 (1:Int)))))/\(wrap .i64 ((2:Int)+(wrap .i64 (bt y2.1 (1:Int)))))<=((y2.1.size:Nat):Int))<|
 zc (0<=(0:Int)/\(0:Int)<((y2.1.size:Nat):Int))<|
 zc (0<=(0:Int)/\(0:Int)<((y2.1.size:Nat):Int))<|
 zi (.cells #[(.string (ByteArray.extract y2.1 (Int.toNat (2:Int)) (Int.toNat (wrap .i64 ((2:Int)+(wrap .i64 (bt y2.1 (1:Int)))))))),(.int .i64 (wrap .i64 (Int.tmod (bt y2.1 (0:Int)) (128:Int)))),(.bool (decide ((bt y2.1 (0:Int))>=(128:Int))))] 62) fun(r3:Nat)=>
 zv prog (Builtin.append_ #[40,40] 40 #[(.slice y2.2.1.1 y2.2.1.2.1 y2.2.1.2.2),(.slice (some (aD r3)) 1 1)]) .slc fun(u4:SLC)=>
 zc (0<=(1:Int)/\(1:Int)<((y2.1.size:Nat):Int))<|
 zc (0<=(wrap .i64 ((2:Int)+(wrap .i64 (bt y2.1 (1:Int)))))/\(wrap .i64 ((2:Int)+(wrap .i64 (bt y2.1 (1:Int)))))<=((y2.1.size:Nat):Int))<|I1 ((ByteArray.extract y2.1 (Int.toNat (wrap .i64 ((2:Int)+(wrap .i64 (bt y2.1 (1:Int)))))) y2.1.size),(u4.1,u4.2.1,u4.2.2),(wrap .i64 (y2.2.2.1+(1:Int))),()))<|
 ze prog 64 [(.slice y2.2.1.1 y2.2.1.2.1 y2.2.1.2.2)] (.one (.one (.int .i64))) fun(u5:Int)=>
 za (u5 !=(0:Int)) (K (.tuple #[(.slice none 0 0),(.string (ByteArray.mk #[])),(.int .i64 (171:Int))]))<|K (.tuple #[(.slice y2.2.1.1 y2.2.1.2.1 y2.2.1.2.2),(.string y2.1),(.int .i64 (0:Int))])
theorem zox (x0:ByteArray) {K:Value->WP} {w:World} (h:S54 x0 K w):Calls prog 54 #[(.string x0)] w (Ret K):=cF an54 false Tryz.func54 h
def an55:Ann:=(AN (AR (AN (.block (.loop [(8,.sh (.one (.int .i64)))] [0,1,7,1000000] (AN (AR (AQ AP AP) (AR (.block (AN (AN (AQ AO AP)))) AP)))))) AO))
def S55 (a0:Option Addr) (n0 c0:Nat) (x1:Value) (K:Value->WP):WP:=
 zB (Int×Unit) ((0:Int),()) fun(y2:Int×Unit) (I1:(Int×Unit)->WP)=>
 za (decide (y2.1<((n0:Nat):Int))) (zc (0<=y2.1/\y2.1<((n0:Nat):Int))<|
 zh a0 fun(p3:Addr)=>
 zl [.str,.slc,(.int .u32),(.int .u64),(.int .i64)] (p3.add (Int.toNat y2.1*5)) fun(u4:(ByteArray×SLC×Int×Int×Int×Unit))=>
 yJ prog x1 [(.agg #[(.string u4.1),(.slice u4.2.1.1 u4.2.1.2.1 u4.2.1.2.2),(.int .u32 u4.2.2.1),(.int .u64 u4.2.2.2.1),(.int .i64 u4.2.2.2.2.1)])] (.one (.one .bool)) fun(u5:Bool)=>
 za u5 (K (.int .i64 y2.1))<|I1 ((wrap .i64 (y2.1+(1:Int))),()))<|K (.int .i64 (-1:Int))
theorem zoy (a0:Option Addr) (n0 c0:Nat) (x1:Value) {K:Value->WP} {w:World} (h:S55 a0 n0 c0 x1 K w):Calls prog 55 #[(.slice a0 n0 c0),x1] w (Ret K):=cF an55 false Tryz.func55 h
def an56:Ann:=(AN AO)
def S56 (Ae:ByteArray) (Aa:Option Addr) (Ab Ac:Nat) (Aj:Int) (Ar:Int) (Aw:Int) (a1:Addr) (K:Value->WP):WP:=
 zi (.cells #[(.string Ae),(.slice Aa Ab Ac),(.int .u32 Aj),(.int .u64 Ar),(.int .i64 Aw)] 44) fun(r1:Nat)=>
 ldW .str (aD r1) fun(u2:ByteArray)=>
 ldW .str a1 fun(u3:ByteArray)=>K (.bool (u2.toList==u3.toList))
theorem zoz (Ae:ByteArray) (Aa:Option Addr) (Ab Ac:Nat) (Aj:Int) (Ar:Int) (Aw:Int) (a1:Addr) {K:Value->WP} {w:World} (h:S56 Ae Aa Ab Ac Aj Ar Aw a1 K w):Calls prog 56 #[(.agg #[(.string Ae),(.slice Aa Ab Ac),(.int .u32 Aj),(.int .u64 Ar),(.int .i64 Aw)]),(.pointer (some a1))] w (Ret K):=cF an56 false Tryz.func56 h
def an57:Ann:=(AN (AR (AN (.block (.loop [(9,.sh (.one (.int .i64)))] [0,1,7,8,1000000] (AN (AR (AQ AP AP) (AR (.block (AN (AN (AQ AO AP)))) AP)))))) AO))
def S57 (a0:Option Addr) (n0 c0:Nat) (x1:Value) (K:Value->WP):WP:=
 zB (Int×Unit) ((0:Int),()) fun(y2:Int×Unit) (I1:(Int×Unit)->WP)=>
 za (decide (y2.1<((n0:Nat):Int))) (zc (0<=y2.1/\y2.1<((n0:Nat):Int))<|
 zh a0 fun(p3:Addr)=>
 zl [.str,.slc,(.int .u32),(.int .u64),(.int .i64)] (p3.add (Int.toNat y2.1*5)) fun(u4:(ByteArray×SLC×Int×Int×Int×Unit))=>
 zi (.cells #[(.string ByteArray.empty),(.slice none 0 0),(.int .u32 (0:Int)),(.int .u64 (0:Int)),(.int .i64 (0:Int))] 44) fun(r5:Nat)=>
 zc ((#[(.string u4.1),(.slice u4.2.1.1 u4.2.1.2.1 u4.2.1.2.2),(.int .u32 u4.2.2.1),(.int .u64 u4.2.2.2.1),(.int .i64 u4.2.2.2.2.1)]:Array Value).size=5)<|
 zt (aD r5) [(.string u4.1),(.slice u4.2.1.1 u4.2.1.2.1 u4.2.1.2.2),(.int .u32 u4.2.2.1),(.int .u64 u4.2.2.2.1),(.int .i64 u4.2.2.2.2.1)]<|
 zD<|
 zl [.str,.slc,(.int .u32),(.int .u64),(.int .i64)] (aD r5) fun(u6:(ByteArray×SLC×Int×Int×Int×Unit))=>
 yJ prog x1 [(.agg #[(.string u6.1),(.slice u6.2.1.1 u6.2.1.2.1 u6.2.1.2.2),(.int .u32 u6.2.2.1),(.int .u64 u6.2.2.2.1),(.int .i64 u6.2.2.2.2.1)])] (.one (.one .str)) fun(u7:ByteArray)=>
 ze prog 110 [(.string u7)] (.one (.one (.int .i64))) fun(u8:Int)=>
 za (u8 !=(0:Int)) (K (.bool false))<|
 za (decide (y2.1>(0:Int))) (zc (0<=(wrap .i64 (y2.1-(1:Int)))/\(wrap .i64 (y2.1-(1:Int)))<((n0:Nat):Int))<|
 zh a0 fun(p9:Addr)=>
 zl [.str,.slc,(.int .u32),(.int .u64),(.int .i64)] (p9.add (Int.toNat (wrap .i64 (y2.1-(1:Int)))*5)) fun(u10:(ByteArray×SLC×Int×Int×Int×Unit))=>
 zl [.str,.slc,(.int .u32),(.int .u64),(.int .i64)] (aD r5) fun(u11:(ByteArray×SLC×Int×Int×Int×Unit))=>
 yJ prog x1 [(.agg #[(.string u10.1),(.slice u10.2.1.1 u10.2.1.2.1 u10.2.1.2.2),(.int .u32 u10.2.2.1),(.int .u64 u10.2.2.2.1),(.int .i64 u10.2.2.2.2.1)])] (.one (.one .str)) fun(u12:ByteArray)=>
 zr [[((aD r5).add 0,(.string u11.1)),((aD r5).add 1,(.slice u11.2.1.1 u11.2.1.2.1 u11.2.1.2.2)),((aD r5).add 2,(.int .u32 u11.2.2.1)),((aD r5).add 3,(.int .u64 u11.2.2.2.1)),((aD r5).add 4,(.int .i64 u11.2.2.2.2.1))]]<|
 yJ prog x1 [(.agg #[(.string u11.1),(.slice u11.2.1.1 u11.2.1.2.1 u11.2.1.2.2),(.int .u32 u11.2.2.1),(.int .u64 u11.2.2.2.1),(.int .i64 u11.2.2.2.2.1)])] (.one (.one .str)) fun(u13:ByteArray)=>
 za (!(Op.bytesLess u12.toList u13.toList)) (K (.bool false))<|I1 ((wrap .i64 (y2.1+(1:Int))),()))<|I1 ((wrap .i64 (y2.1+(1:Int))),()))<|K (.bool true)
theorem zoA (a0:Option Addr) (n0 c0:Nat) (x1:Value) {K:Value->WP} {w:World} (h:S57 a0 n0 c0 x1 K w):Calls prog 57 #[(.slice a0 n0 c0),x1] w (Ret K):=cF an57 false Tryz.func57 h
def an58:Ann:=(AN AO)
def S58 (Ae:ByteArray) (Aa:Option Addr) (Ab Ac:Nat) (Aj:Int) (Ar:Int) (Aw:Int) (K:Value->WP):WP:=
 zi (.cells #[(.string Ae),(.slice Aa Ab Ac),(.int .u32 Aj),(.int .u64 Ar),(.int .i64 Aw)] 44) fun(r1:Nat)=>
 ldW .str (aD r1) fun(u2:ByteArray)=>K (.string u2)
theorem zoB (Ae:ByteArray) (Aa:Option Addr) (Ab Ac:Nat) (Aj:Int) (Ar:Int) (Aw:Int) {K:Value->WP} {w:World} (h:S58 Ae Aa Ab Ac Aj Ar Aw K w):Calls prog 58 #[(.agg #[(.string Ae),(.slice Aa Ab Ac),(.int .u32 Aj),(.int .u64 Ar),(.int .i64 Aw)])] w (Ret K):=cF an58 false Tryz.func58 h
def an59:Ann:=(AN (AR (AN (.block (.loop [(9,.sh (.one (.int .i64)))] [0,1,7,8,1000000] (AN (AR (AQ AP AP) (AR (.block (AN (AN (AQ AO AP)))) AP)))))) AO))
def S59 (a0:Option Addr) (n0 c0:Nat) (x1:Value) (K:Value->WP):WP:=
 zB (Int×Unit) ((0:Int),()) fun(y2:Int×Unit) (I1:(Int×Unit)->WP)=>
 za (decide (y2.1<((n0:Nat):Int))) (zc (0<=y2.1/\y2.1<((n0:Nat):Int))<|
 zh a0 fun(p3:Addr)=>
 zl [.str,(.int .u32)] (p3.add (Int.toNat y2.1*2)) fun(u4:(ByteArray×Int×Unit))=>
 zi (.cells #[(.string ByteArray.empty),(.int .u32 (0:Int))] 46) fun(r5:Nat)=>
 zc ((#[(.string u4.1),(.int .u32 u4.2.1)]:Array Value).size=2)<|
 zt (aD r5) [(.string u4.1),(.int .u32 u4.2.1)]<|
 zD<|
 zl [.str,(.int .u32)] (aD r5) fun(u6:(ByteArray×Int×Unit))=>
 yJ prog x1 [(.agg #[(.string u6.1),(.int .u32 u6.2.1)])] (.one (.one .str)) fun(u7:ByteArray)=>
 ze prog 110 [(.string u7)] (.one (.one (.int .i64))) fun(u8:Int)=>
 za (u8 !=(0:Int)) (K (.bool false))<|
 za (decide (y2.1>(0:Int))) (zc (0<=(wrap .i64 (y2.1-(1:Int)))/\(wrap .i64 (y2.1-(1:Int)))<((n0:Nat):Int))<|
 zh a0 fun(p9:Addr)=>
 zl [.str,(.int .u32)] (p9.add (Int.toNat (wrap .i64 (y2.1-(1:Int)))*2)) fun(u10:(ByteArray×Int×Unit))=>
 zl [.str,(.int .u32)] (aD r5) fun(u11:(ByteArray×Int×Unit))=>
 yJ prog x1 [(.agg #[(.string u10.1),(.int .u32 u10.2.1)])] (.one (.one .str)) fun(u12:ByteArray)=>
 zr [[((aD r5).add 0,(.string u11.1)),((aD r5).add 1,(.int .u32 u11.2.1))]]<|
 yJ prog x1 [(.agg #[(.string u11.1),(.int .u32 u11.2.1)])] (.one (.one .str)) fun(u13:ByteArray)=>
 za (!(Op.bytesLess u12.toList u13.toList)) (K (.bool false))<|I1 ((wrap .i64 (y2.1+(1:Int))),()))<|I1 ((wrap .i64 (y2.1+(1:Int))),()))<|K (.bool true)
theorem zoC (a0:Option Addr) (n0 c0:Nat) (x1:Value) {K:Value->WP} {w:World} (h:S59 a0 n0 c0 x1 K w):Calls prog 59 #[(.slice a0 n0 c0),x1] w (Ret K):=cF an59 false Tryz.func59 h
def an60:Ann:=(AN AO)
def S60 (Ae:ByteArray) (Ai:Int) (K:Value->WP):WP:=
 zi (.cells #[(.string Ae),(.int .u32 Ai)] 46) fun(r1:Nat)=>
 ldW .str (aD r1) fun(u2:ByteArray)=>K (.string u2)
theorem zoD (Ae:ByteArray) (Ai:Int) {K:Value->WP} {w:World} (h:S60 Ae Ai K w):Calls prog 60 #[(.agg #[(.string Ae),(.int .u32 Ai)])] w (Ret K):=cF an60 false Tryz.func60 h
def an61:Ann:=(AN AO)
def S61 (a0:Option Addr) (n0 c0:Nat) (x1:Value) (K:Value->WP):WP:=
 ze prog 55 [(.slice a0 n0 c0),x1] (.one (.one (.int .i64))) fun(u1:Int)=>K (.bool (decide (u1>=(0:Int))))
theorem zoE (a0:Option Addr) (n0 c0:Nat) (x1:Value) {K:Value->WP} {w:World} (h:S61 a0 n0 c0 x1 K w):Calls prog 61 #[(.slice a0 n0 c0),x1] w (Ret K):=cF an61 false Tryz.func61 h
def an62:Ann:=(AN AO)
def S62 (Ae:ByteArray) (Aa:Option Addr) (Ab Ac:Nat) (Aj:Int) (Ar:Int) (Aw:Int) (K:Value->WP):WP:=
 zi (.cells #[(.string Ae),(.slice Aa Ab Ac),(.int .u32 Aj),(.int .u64 Ar),(.int .i64 Aw)] 44) fun(r1:Nat)=>
 ldW .slc ((aD r1).add 1) fun(u2:SLC)=>
 ze prog 106 [(.slice u2.1 u2.2.1 u2.2.2)] (.one (.one (.int .i64))) fun(u3:Int)=>
 za (u3 !=(0:Int)) (K (.bool true))<|
 ldW (.int .i64) ((aD r1).add 4) fun(u4:Int)=>
 za (decide (u4<(0:Int))) (K (.bool true))<|
 ldW (.int .i64) ((aD r1).add 4) fun(u5:Int)=>
 za (decide (u5>(4096:Int))) (K (.bool true))<|
 ldW (.int .u32) ((aD r1).add 2) fun(u6:Int)=>
 ldW (.int .i64) ((aD r1).add 4) fun(u7:Int)=>
 za (!((u6==(0:Int))==(u7==(0:Int)))) (K (.bool true))<|
 ldW (.int .u64) ((aD r1).add 3) fun(u8:Int)=>K (.bool (decide (u8>=(1099511627776:Int))))
theorem zoF (Ae:ByteArray) (Aa:Option Addr) (Ab Ac:Nat) (Aj:Int) (Ar:Int) (Aw:Int) {K:Value->WP} {w:World} (h:S62 Ae Aa Ab Ac Aj Ar Aw K w):Calls prog 62 #[(.agg #[(.string Ae),(.slice Aa Ab Ac),(.int .u32 Aj),(.int .u64 Ar),(.int .i64 Aw)])] w (Ret K):=cF an62 false Tryz.func62 h
def an63:Ann:=(AN (AR (AN (AQ AO AP)) (AR (AN (.block (.loop [(3,.sh (.one (.int .i64)))] [0,1000000] (AR (AN (AQ AP AP)) (.join [] [0,3,1000000] (.block (AN (.join [(5,.sh (.one .bool))] [0,3,4,1000000] AP (.join [(54,.sh (.one .bool))] [0,3,1000000] AP (AQ AO AP))))) AP))))) AO)))
def S63 (x0:ByteArray) (K:Value->WP):WP:=
 za (decide (((x0.size:Nat):Int)<(1:Int))) (K (.int .i64 (170:Int)))<|
 za (decide (((x0.size:Nat):Int)>(32:Int))) (K (.int .i64 (170:Int)))<|
 zB (Int×Unit) ((0:Int),()) fun(y2:Int×Unit) (I1:(Int×Unit)->WP)=>
 za (decide (y2.1<((x0.size:Nat):Int))) (yD (Unit) (fun(J3:(Unit)->WP)=>
 zc (0<=y2.1/\y2.1<((x0.size:Nat):Int))<|
 yD (Bool×Unit) (fun(J5:(Bool×Unit)->WP)=>
 za (decide ((bt x0 y2.1)>=(48:Int))) (J5 ((decide ((bt x0 y2.1)<=(57:Int))),()))<|J5 (false,())) fun(y6:Bool×Unit)=>
 yD (Bool×Unit) (fun(J7:(Bool×Unit)->WP)=>
 za (decide ((bt x0 y2.1)>=(97:Int))) (za (decide ((bt x0 y2.1)<=(122:Int))) (J7 (false,()))<|
 za (decide ((bt x0 y2.1)>=(65:Int))) (za (decide ((bt x0 y2.1)<=(90:Int))) (J7 (false,()))<|
 za ((bt x0 y2.1)==(95:Int)) (J7 (false,()))<|
 za y6.1 (J7 ((!(decide (y2.1>(0:Int)))),()))<|J7 (true,()))<|
 za ((bt x0 y2.1)==(95:Int)) (J7 (false,()))<|
 za y6.1 (J7 ((!(decide (y2.1>(0:Int)))),()))<|J7 (true,()))<|
 za (decide ((bt x0 y2.1)>=(65:Int))) (za (decide ((bt x0 y2.1)<=(90:Int))) (J7 (false,()))<|
 za ((bt x0 y2.1)==(95:Int)) (J7 (false,()))<|
 za y6.1 (J7 ((!(decide (y2.1>(0:Int)))),()))<|J7 (true,()))<|
 za ((bt x0 y2.1)==(95:Int)) (J7 (false,()))<|
 za y6.1 (J7 ((!(decide (y2.1>(0:Int)))),()))<|J7 (true,())) fun(y8:Bool×Unit)=>
 za y8.1 (K (.int .i64 (170:Int)))<|J3 ()) fun(y4:Unit)=>I1 ((wrap .i64 (y2.1+(1:Int))),()))<|K (.int .i64 (0:Int))
theorem zoG (x0:ByteArray) {K:Value->WP} {w:World} (h:S63 x0 K w):Calls prog 63 #[(.string x0)] w (Ret K):=cF an63 false Tryz.func63 h
def an64:Ann:=(AN (AR (AN (AQ AO AP)) (AR (AN (.block (.loop [(3,.sh (.one (.int .i64)))] [0,1000000] (AR (AN (AQ AP AP)) (AR (.block (AR (AN (AQ AO AP)) (AR (AN (AQ AO AP)) (AN (.block (.loop [(4,.sh (.one (.int .i64)))] [0,3,1000000] (AR (AN (AQ AP AP)) (AR (.block (AN (AQ AO AP))) AP)))))))) AP))))) AO)))
def S64 (a0:Option Addr) (n0 c0:Nat) (K:Value->WP):WP:=
 za (decide (((n0:Nat):Int)<(1:Int))) (K (.int .i64 (171:Int)))<|
 za (decide (((n0:Nat):Int)>(16:Int))) (K (.int .i64 (171:Int)))<|
 zB (Int×Unit) ((0:Int),()) fun(y2:Int×Unit) (I1:(Int×Unit)->WP)=>
 za (decide (y2.1<((n0:Nat):Int))) (zc (0<=y2.1/\y2.1<((n0:Nat):Int))<|
 zh a0 fun(p3:Addr)=>
 ldW .str (p3.add (Int.toNat y2.1*3)) fun(u4:ByteArray)=>
 ze prog 63 [(.string u4)] (.one (.one (.int .i64))) fun(u5:Int)=>
 za (u5 !=(0:Int)) (K (.int .i64 (170:Int)))<|
 zc (0<=y2.1/\y2.1<((n0:Nat):Int))<|
 zh a0 fun(p6:Addr)=>
 ldW (.int .i64) ((p6.add (Int.toNat y2.1*3)).add 1) fun(u7:Int)=>
 za (decide (u7<(1:Int))) (K (.int .i64 (171:Int)))<|
 zc (0<=y2.1/\y2.1<((n0:Nat):Int))<|
 zh a0 fun(p8:Addr)=>
 ldW (.int .i64) ((p8.add (Int.toNat y2.1*3)).add 1) fun(u9:Int)=>
 za (decide (u9>(3:Int))) (K (.int .i64 (171:Int)))<|
 zB (Int×Unit) ((0:Int),()) fun(y11:Int×Unit) (I10:(Int×Unit)->WP)=>
 za (decide (y11.1<y2.1)) (zD<|
 zc (0<=y11.1/\y11.1<((n0:Nat):Int))<|
 zh a0 fun(p12:Addr)=>
 ldW .str (p12.add (Int.toNat y11.1*3)) fun(u13:ByteArray)=>
 zc (0<=y2.1/\y2.1<((n0:Nat):Int))<|
 zh a0 fun(p14:Addr)=>
 ldW .str (p14.add (Int.toNat y2.1*3)) fun(u15:ByteArray)=>
 za (u13.toList==u15.toList) (K (.int .i64 (171:Int)))<|I10 ((wrap .i64 (y11.1+(1:Int))),()))<|I1 ((wrap .i64 (y2.1+(1:Int))),()))<|K (.int .i64 (0:Int))
theorem zoH (a0:Option Addr) (n0 c0:Nat) {K:Value->WP} {w:World} (h:S64 a0 n0 c0 K w):Calls prog 64 #[(.slice a0 n0 c0)] w (Ret K):=cF an64 false Tryz.func64 h
def an65:Ann:=(AN (AR (AN (AQ AO AP)) AO))
def S65 (a0:Option Addr) (n0 c0:Nat) (K:Value->WP):WP:=
 za (Option.isNone a0) (K (.slice none 0 0))<|
 zi (.cells #[] 44) fun(r1:Nat)=>
 zv prog (Builtin.append_ #[22,22] 22 #[(.slice (some (aD r1)) 0 0),(.slice a0 n0 c0)]) .slc fun(u2:SLC)=>K (.slice u2.1 u2.2.1 u2.2.2)
theorem zoI (a0:Option Addr) (n0 c0:Nat) {K:Value->WP} {w:World} (h:S65 a0 n0 c0 K w):Calls prog 65 #[(.slice a0 n0 c0)] w (Ret K):=cF an65 false Tryz.func65 h
def an66:Ann:=(AN (AR (AN (AQ AO AP)) AO))
def S66 (a0:Option Addr) (n0 c0:Nat) (K:Value->WP):WP:=
 za (Option.isNone a0) (K (.slice none 0 0))<|
 zi (.cells #[] 46) fun(r1:Nat)=>
 zv prog (Builtin.append_ #[23,23] 23 #[(.slice (some (aD r1)) 0 0),(.slice a0 n0 c0)]) .slc fun(u2:SLC)=>K (.slice u2.1 u2.2.1 u2.2.2)
theorem zoJ (a0:Option Addr) (n0 c0:Nat) {K:Value->WP} {w:World} (h:S66 a0 n0 c0 K w):Calls prog 66 #[(.slice a0 n0 c0)] w (Ret K):=cF an66 false Tryz.func66 h
def an67:Ann:=(AN (AR (AN (AQ AO AP)) AO))
def S67 (a0:Option Addr) (n0 c0:Nat) (K:Value->WP):WP:=
 za (Option.isNone a0) (K (.slice none 0 0))<|
 zi (.cells #[] 62) fun(r1:Nat)=>
 zv prog (Builtin.append_ #[40,40] 40 #[(.slice (some (aD r1)) 0 0),(.slice a0 n0 c0)]) .slc fun(u2:SLC)=>K (.slice u2.1 u2.2.1 u2.2.2)
theorem zoK (a0:Option Addr) (n0 c0:Nat) {K:Value->WP} {w:World} (h:S67 a0 n0 c0 K w):Calls prog 67 #[(.slice a0 n0 c0)] w (Ret K):=cF an67 false Tryz.func67 h
def an68:Ann:=(AN (AR (AN (AN (AQ AO AP))) AO))
def S68 (Ae:Int) (Ai:Int) (K:Value->WP):WP:=
 zi (.cells #[(.int .i64 Ae),(.int .i64 Ai)] 72) fun(r1:Nat)=>
 zl [(.int .i64),(.int .i64)] (aD r1) fun(u2:(Int×Int×Unit))=>
 ze prog 111 [(.agg #[(.int .i64 u2.1),(.int .i64 u2.2.1)])] (.one (.one (.int .i64))) fun(u3:Int)=>
 za (u3 !=(0:Int)) (K (.tuple #[(.pointer none),(.int .i64 u3)]))<|
 zD<|
 zl [(.int .i64),(.int .i64)] (aD r1) fun(u4:(Int×Int×Unit))=>
 ldW (.int .i64) (aD r1) fun(u5:Int)=>
 ldW (.int .i64) ((aD r1).add 1) fun(u6:Int)=>
 ze prog 113 [(.string (ByteArray.mk #[0])),(.int .i64 u5)] (.one (.one .str)) fun(u7:ByteArray)=>
 zr [[(((aD r1).add 1),(.int .i64 u6))],[((aD r1).add 0,(.int .i64 u4.1)),((aD r1).add 1,(.int .i64 u4.2.1))]]<|
 zi (.cells #[(.string u7)] 9) fun(r8:Nat)=>
 zr [[(((aD r1).add 1),(.int .i64 u6))],[((aD r1).add 0,(.int .i64 u4.1)),((aD r1).add 1,(.int .i64 u4.2.1))]]<|
 ze prog 112 [(.slice (some (aD r8)) 1 1),(.int .i64 u6)] (.one (.one .slc)) fun(u9:SLC)=>
 zr [[((aD r1).add 0,(.int .i64 u4.1)),((aD r1).add 1,(.int .i64 u4.2.1))]]<|
 zi (.cells #[(.int .i64 u4.1),(.int .i64 u4.2.1),(.slice u9.1 u9.2.1 u9.2.2),(.slice none 0 0),(.int .i64 (0:Int)),(.int .i64 (-1:Int))] 163) fun(r10:Nat)=>K (.tuple #[(.pointer (some (aD r10))),(.int .i64 (0:Int))])
theorem zoL (Ae:Int) (Ai:Int) {K:Value->WP} {w:World} (h:S68 Ae Ai K w):Calls prog 68 #[(.agg #[(.int .i64 Ae),(.int .i64 Ai)])] w (Ret K):=cF an68 false Tryz.func68 h
def an69:Ann:=(AN (AR (AN (AQ AO AP)) (AN (AR (AN (AQ AO AP)) (AN (AR (AN (.block (.loop [(29,.sh (.one (.int .i64)))] [0,4,6,28,1000000] (AN (AR (AQ AP AP) (AR (.block (AN (AR (AN (AQ AO AP)) AP))) AP)))))) (AR (AN (AN (AQ AO AP))) (AR (AN (AN (AQ AO AP))) (AR (AN (AN (AQ AO AP))) AO)))))))))
def S69 (x0:Option Addr) (K:Value->WP):WP:=
 za (Option.isNone x0) (K (.tuple #[(.pointer none),(.int .i64 (1:Int))]))<|
 ze prog 35 [(.pointer x0)] (.one (.agg [(.int .i64),(.int .i64)])) fun(u1:(Int×Int×Unit))=>
 ze prog 114 [(.agg #[(.int .i64 u1.1),(.int .i64 u1.2.1)])] (.many [(.one .ptr),(.one (.int .i64))]) fun(u2:Option Addr×Int×Unit)=>
 za (u2.2.1 !=(0:Int)) (K (.tuple #[(.pointer none),(.int .i64 u2.2.1)]))<|
 ze prog 35 [(.pointer x0)] (.one (.agg [(.int .i64),(.int .i64)])) fun(u3:(Int×Int×Unit))=>
 zi (.cells #[(.int .u64 (0:Int)),(.int .i64 (0:Int)),(.int .i64 (0:Int)),(.int .u32 (0:Int)),(.slice none 0 0)] 79) fun(r4:Nat)=>
 zc ((#[(.int .u64 (1:Int)),(.int .i64 u3.1),(.int .i64 u3.2.1),(.int .u32 (0:Int)),(.slice none 0 0)]:Array Value).size=5)<|
 zt (aD r4) [(.int .u64 (1:Int)),(.int .i64 u3.1),(.int .i64 u3.2.1),(.int .u32 (0:Int)),(.slice none 0 0)]<|
 ze prog 35 [(.pointer x0)] (.one (.agg [(.int .i64),(.int .i64)])) fun(u5:(Int×Int×Unit))=>
 ze prog 115 [(.agg #[(.int .i64 u5.1),(.int .i64 u5.2.1)])] (.one (.one (.int .i64))) fun(u6:Int)=>
 zB (Int×Unit) ((0:Int),()) fun(y8:Int×Unit) (I7:(Int×Unit)->WP)=>
 za (decide (y8.1<u6)) (ze prog 116 [(.pointer u2.1),(.pointer none)] (.many [(.one (.int .u32)),(.one (.int .i64))]) fun(u9:Int×Int×Unit)=>
 za (u9.2.1 !=(0:Int)) (K (.tuple #[(.pointer none),(.int .i64 (2:Int))]))<|
 ldW .slc ((aD r4).add 4) fun(u10:SLC)=>
 zi (.cells #[(.int .u32 u9.1)] 41) fun(r11:Nat)=>
 zv prog (Builtin.append_ #[54,54] 54 #[(.slice u10.1 u10.2.1 u10.2.2),(.slice (some (aD r11)) 1 1)]) .slc fun(u12:SLC)=>
 stW ((aD r4).add 4) (.slice u12.1 u12.2.1 u12.2.2)<|I7 ((wrap .i64 (y8.1+(1:Int))),()))<|
 zl [(.int .u64),(.int .i64),(.int .i64),(.int .u32),.slc] (aD r4) fun(u13:(Int×Int×Int×Int×SLC×Unit))=>
 ze prog 117 [(.agg #[(.int .u64 u13.1),(.int .i64 u13.2.1),(.int .i64 u13.2.2.1),(.int .u32 u13.2.2.2.1),(.slice u13.2.2.2.2.1.1 u13.2.2.2.2.1.2.1 u13.2.2.2.2.1.2.2)])] (.one (.one (.int .i64))) fun(u14:Int)=>
 za (u14 !=(0:Int)) (K (.tuple #[(.pointer none),(.int .i64 u14)]))<|
 ze prog 35 [(.pointer x0)] (.one (.agg [(.int .i64),(.int .i64)])) fun(u15:(Int×Int×Unit))=>
 zv prog (Instr.makeSlice 85 (.int .i64 u15.1) (.int .i64 u15.1)) .slc fun(u16:SLC)=>
 zv prog (Go.convert 85 9 (.slice u16.1 u16.2.1 u16.2.2)) .str fun(u17:ByteArray)=>
 ze prog 118 [(.pointer x0),(.int .i64 (1:Int)),(.string u17)] (.one (.one (.int .i64))) fun(u18:Int)=>
 za (u18 !=(0:Int)) (K (.tuple #[(.pointer none),(.int .i64 u18)]))<|
 zl [(.int .u64),(.int .i64),(.int .i64),(.int .u32),.slc] (aD r4) fun(u19:(Int×Int×Int×Int×SLC×Unit))=>
 ze prog 95 [(.pointer x0),(.pointer u2.1),(.agg #[(.int .u64 u19.1),(.int .i64 u19.2.1),(.int .i64 u19.2.2.1),(.int .u32 u19.2.2.2.1),(.slice u19.2.2.2.2.1.1 u19.2.2.2.2.1.2.1 u19.2.2.2.2.1.2.2)]),(.int .i64 (0:Int))] (.one (.one (.int .i64))) fun(u20:Int)=>
 za (u20 !=(0:Int)) (K (.tuple #[(.pointer none),(.int .i64 u20)]))<|
 zD<|
 zl [(.int .u64),(.int .i64),(.int .i64),(.int .u32),.slc] (aD r4) fun(u21:(Int×Int×Int×Int×SLC×Unit))=>
 ze prog 96 [(.pointer u2.1)] (.one (.one .ptr)) fun(u22:Option Addr)=>
 zr [[((aD r4).add 0,(.int .u64 u21.1)),((aD r4).add 1,(.int .i64 u21.2.1)),((aD r4).add 2,(.int .i64 u21.2.2.1)),((aD r4).add 3,(.int .u32 u21.2.2.2.1)),((aD r4).add 4,(.slice u21.2.2.2.2.1.1 u21.2.2.2.2.1.2.1 u21.2.2.2.2.1.2.2))]]<|
 zi (.cells #[(.pointer x0),(.int .u64 u21.1),(.int .i64 u21.2.1),(.int .i64 u21.2.2.1),(.int .u32 u21.2.2.2.1),(.slice u21.2.2.2.2.1.1 u21.2.2.2.2.1.2.1 u21.2.2.2.2.1.2.2),(.int .i64 (0:Int)),(.pointer u2.1),(.pointer u22),(.pointer none)] 122) fun(r23:Nat)=>K (.tuple #[(.pointer (some (aD r23))),(.int .i64 (0:Int))])
theorem zoM (x0:Option Addr) {K:Value->WP} {w:World} (h:S69 x0 K w):Calls prog 69 #[(.pointer x0)] w (Ret K):=cF an69 false Tryz.func69 h
def an70:Ann:=(AN AO)
def S70  (K:Value->WP):WP:=
 zi (.cells #[(.string (ByteArray.mk #[107])),(.int .i64 (3:Int)),(.bool false),(.string (ByteArray.mk #[118])),(.int .i64 (1:Int)),(.bool true)] 62) fun(r1:Nat)=>K (.slice (some (aD r1)) 2 2)
theorem zoN  {K:Value->WP} {w:World} (h:S70  K w):Calls prog 70 #[] w (Ret K):=cF an70 false Tryz.func70 h
def an71:Ann:=(AN AO)
def S71 (a0:Option Addr) (n0 c0:Nat) (x1:Value) (K:Value->WP):WP:=
 ze prog 119 [(.slice a0 n0 c0),x1] (.one (.one (.int .i64))) fun(u1:Int)=>K (.bool (decide (u1>=(0:Int))))
theorem zoO (a0:Option Addr) (n0 c0:Nat) (x1:Value) {K:Value->WP} {w:World} (h:S71 a0 n0 c0 x1 K w):Calls prog 71 #[(.slice a0 n0 c0),x1] w (Ret K):=cF an71 false Tryz.func71 h
def an72:Ann:=(AN AO)
def S72 (x0:Int) (a1:Addr) (K:Value->WP):WP:=
 ldW .ptr a1 fun(u1:Option Addr)=>
 ze prog 73 [(.pointer u1),(.int .u32 x0)] (.one (.one .bool)) fun(u2:Bool)=>K (.bool (!u2))
theorem zoP (x0:Int) (a1:Addr) {K:Value->WP} {w:World} (h:S72 x0 a1 K w):Calls prog 72 #[(.int .u32 x0),(.pointer (some a1))] w (Ret K):=cF an72 false Tryz.func72 h
def an73:Ann:=(AN AO)
def S73 (x0:Option Addr) (x1:Int) (K:Value->WP):WP:=
 za (decide (x1>=(2:Int))) (zh x0 fun(p1:Addr)=>
 ldW (.int .i64) (((p1.add 1).add 1).add 1) fun(u2:Int)=>
 za (decide ((wrap .u64 x1)<(wrap .u64 u2))) (zh x0 fun(p3:Addr)=>
 ldW .slc ((p3.add 1).add 4) fun(u4:SLC)=>
 ze prog 120 [(.slice u4.1 u4.2.1 u4.2.2),(.int .u32 x1)] (.one (.one .bool)) fun(u5:Bool)=>K (.bool (!u5)))<|K (.bool false))<|K (.bool false)
theorem zoQ (x0:Option Addr) (x1:Int) {K:Value->WP} {w:World} (h:S73 x0 x1 K w):Calls prog 73 #[(.pointer x0),(.int .u32 x1)] w (Ret K):=cF an73 false Tryz.func73 h
def an74:Ann:=(AN AO)
def S74 (x0:Int) (a1:Addr) (K:Value->WP):WP:=
 ldW .ptr a1 fun(u1:Option Addr)=>
 zh u1 fun(p2:Addr)=>
 ldW .ptr (p2.add 8) fun(u3:Option Addr)=>
 ze prog 75 [(.pointer u3),(.int .u32 x0)] (.one (.one (.int .i64))) fun(u4:Int)=>K (.bool (u4==(0:Int)))
theorem zoR (x0:Int) (a1:Addr) {K:Value->WP} {w:World} (h:S74 x0 a1 K w):Calls prog 74 #[(.int .u32 x0),(.pointer (some a1))] w (Ret K):=cF an74 false Tryz.func74 h
def an75:Ann:=(AN (AR (AN (AQ AO AP)) AO))
def S75 (x0:Option Addr) (x1:Int) (K:Value->WP):WP:=
 za (Option.isNone x0) (K (.int .i64 (0:Int)))<|
 zh x0 fun(p1:Addr)=>
 ldW .slc (p1.add 2) fun(u2:SLC)=>
 za (decide ((wrap .u64 x1)>=(wrap .u64 ((u2.2.1:Nat):Int)))) (K (.int .i64 (0:Int)))<|
 zh x0 fun(p3:Addr)=>
 ldW .slc (p3.add 2) fun(u4:SLC)=>
 zc (0<=x1/\x1<((u4.2.1:Nat):Int))<|
 zh u4.1 fun(p5:Addr)=>
 ldW (.int .u16) (p5.add (Int.toNat x1*1)) fun(u6:Int)=>K (.int .i64 (wrap .i64 u6))
theorem zi1 (x0:Option Addr) (x1:Int) {K:Value->WP} {w:World} (h:S75 x0 x1 K w):Calls prog 75 #[(.pointer x0),(.int .u32 x1)] w (Ret K):=cF an75 false Tryz.func75 h
def an76:Ann:=(AN (AR (AN (AQ AO AP)) (AN (AR (AN (AQ AO AP)) AO))))
def S76 (x0:Option Addr) (x1:Int) (K:Value->WP):WP:=
 za (Option.isNone x0) (K (.int .i64 (0:Int)))<|
 zh x0 fun(p1:Addr)=>
 ldW (.int .i64) ((p1.add 1).add 1) fun(u2:Int)=>
 ze prog 121 [(.int .i64 u2)] (.one (.one (.int .i64))) fun(u3:Int)=>
 za (decide (x1<(0:Int))) (K (.int .i64 (0:Int)))<|
 za (decide (x1>(wrap .i64 (Int.tdiv (wrap .i64 (u3-(2:Int))) (4:Int))))) (K (.int .i64 (0:Int)))<|K (.int .i64 (wrap .i64 ((wrap .i64 (u3-(2:Int)))-(wrap .i64 ((4:Int)*x1)))))
theorem zoS (x0:Option Addr) (x1:Int) {K:Value->WP} {w:World} (h:S76 x0 x1 K w):Calls prog 76 #[(.pointer x0),(.int .i64 x1)] w (Ret K):=cF an76 false Tryz.func76 h
def an77:Ann:=(AN (AN (AN (.block (.loop [] [1,4,1000000] (.block (AN (AR (AN (AQ AO AP)) AP))))))))
def S77 (x0:Option Addr) (K:Value->WP):WP:=
 zi (.cells #[(.pointer x0)] 48) fun(r1:Nat)=>
 zi (.cells #[(.slice none 0 0)] 54) fun(r2:Nat)=>
 zB (Unit) () fun(y4:Unit) (I3:(Unit)->WP)=>
 zD<|
 ldW .ptr (aD r1) fun(u5:Option Addr)=>
 zh u5 fun(p6:Addr)=>
 ldW .ptr (p6.add 8) fun(u7:Option Addr)=>
 ldW .ptr (aD r1) fun(u8:Option Addr)=>
 zh u8 fun(p9:Addr)=>
 ldW .ptr (p9.add 7) fun(u10:Option Addr)=>
 ze prog 116 [(.pointer u7),(.pointer u10)] (.many [(.one (.int .u32)),(.one (.int .i64))]) fun(u11:Int×Int×Unit)=>
 za (u11.2.1 !=(0:Int)) (zS prog (⟨.fn (.func 122) #[(.pointer (some (aD r2))),(.pointer (some (aD r1)))],#[]⟩::[])<|K (.tuple #[(.int .u32 u11.1),(.int .i64 u11.2.1)]))<|
 ldW .ptr (aD r1) fun(u12:Option Addr)=>
 zh u12 fun(p13:Addr)=>
 ldW .ptr (p13.add 9) fun(u14:Option Addr)=>
 ze prog 75 [(.pointer u14),(.int .u32 u11.1)] (.one (.one (.int .i64))) fun(u15:Int)=>
 za (u15==(0:Int)) (zS prog (⟨.fn (.func 122) #[(.pointer (some (aD r2))),(.pointer (some (aD r1)))],#[]⟩::[])<|K (.tuple #[(.int .u32 u11.1),(.int .i64 u11.2.1)]))<|
 ldW .slc (aD r2) fun(u16:SLC)=>
 zi (.cells #[(.int .u32 u11.1)] 41) fun(r17:Nat)=>
 zv prog (Builtin.append_ #[54,54] 54 #[(.slice u16.1 u16.2.1 u16.2.2),(.slice (some (aD r17)) 1 1)]) .slc fun(u18:SLC)=>
 stW (aD r2) (.slice u18.1 u18.2.1 u18.2.2)<|I3 ()
theorem zoT (x0:Option Addr) {K:Value->WP} {w:World} (h:S77 x0 K w):Calls prog 77 #[(.pointer x0)] w (Ret K):=cF an77 true Tryz.func77 h
def an78:Ann:=(AN (AN (AR (AN (AQ AO AP)) AO)))
def S78 (x0:Option Addr) (x1:Int) (AC:Int) (AD:Int) (AE:ByteArray) (K:Value->WP):WP:=
 zi (.cells #[(.int .u8 AC),(.int .u64 AD),(.string AE)] 127) fun(r1:Nat)=>
 zD<|
 zl [(.int .u8),(.int .u64),.str] (aD r1) fun(u2:(Int×Int×ByteArray×Unit))=>
 ze prog 35 [(.pointer x0)] (.one (.agg [(.int .i64),(.int .i64)])) fun(u3:(Int×Int×Unit))=>
 zr [[((aD r1).add 0,(.int .u8 u2.1)),((aD r1).add 1,(.int .u64 u2.2.1)),((aD r1).add 2,(.string u2.2.2.1))]]<|
 ze prog 123 [(.int .i64 u3.1),(.agg #[(.int .u8 u2.1),(.int .u64 u2.2.1),(.string u2.2.2.1)])] (.many [(.one .str),(.one (.int .i64))]) fun(u4:ByteArray×Int×Unit)=>
 za (u4.2.1 !=(0:Int)) (K (.int .i64 u4.2.1))<|
 ze prog 118 [(.pointer x0),(.int .i64 (wrap .i64 x1)),(.string u4.1)] (.one (.one (.int .i64))) fun(u5:Int)=>K (.int .i64 u5)
theorem zoU (x0:Option Addr) (x1:Int) (AC:Int) (AD:Int) (AE:ByteArray) {K:Value->WP} {w:World} (h:S78 x0 x1 AC AD AE K w):Calls prog 78 #[(.pointer x0),(.int .u32 x1),(.agg #[(.int .u8 AC),(.int .u64 AD),(.string AE)])] w (Ret K):=cF an78 false Tryz.func78 h
def an79:Ann:=(AN (AR (AN (AQ AO AP)) (AR (AN (AQ AO AP)) (AN AO))))
def S79 (x0:Option Addr) (x1:Int) (K:Value->WP):WP:=
 za (Option.isNone x0) (K (.int .i64 (1:Int)))<|
 za (x1==(0:Int)) (K (.int .i64 (0:Int)))<|
 ze prog 124 [(.pointer x0),(.int .u32 x1),(.int .i64 (1:Int)),(.bool true)] (.many [(.agg [(.int .i64),(.int .u64),(.int .u64),(.int .u8),(.int .i64)]),(.one (.int .i64))]) fun(u1:(Int×Int×Int×Int×Int×Unit)×Int×Unit)=>
 zi (.cells #[(.int .i64 (0:Int)),(.int .u64 (0:Int)),(.int .u64 (0:Int)),(.int .u8 (0:Int)),(.int .i64 (0:Int))] 197) fun(r2:Nat)=>
 zc ((#[(.int .i64 u1.1.1),(.int .u64 u1.1.2.1),(.int .u64 u1.1.2.2.1),(.int .u8 u1.1.2.2.2.1),(.int .i64 u1.1.2.2.2.2.1)]:Array Value).size=5)<|
 zt (aD r2) [(.int .i64 u1.1.1),(.int .u64 u1.1.2.1),(.int .u64 u1.1.2.2.1),(.int .u8 u1.1.2.2.2.1),(.int .i64 u1.1.2.2.2.2.1)]<|K (.int .i64 u1.2.1)
theorem zoV (x0:Option Addr) (x1:Int) {K:Value->WP} {w:World} (h:S79 x0 x1 K w):Calls prog 79 #[(.pointer x0),(.int .u32 x1)] w (Ret K):=cF an79 false Tryz.func79 h
def an80:Ann:=(AN AO)
def S80 (x0:Option Addr) (x1:Int) (x2:Int) (K:Value->WP):WP:=
 zi (.cells #[(.pointer x0)] 48) fun(r1:Nat)=>
 zi (.cells #[(.int .u32 x1)] 41) fun(r2:Nat)=>
 zi (.cells #[(.int .u64 x2)] 42) fun(r3:Nat)=>K (.func (.func 125) #[] #[(.pointer (some (aD r1))),(.pointer (some (aD r2))),(.pointer (some (aD r3)))])
theorem zoW (x0:Option Addr) (x1:Int) (x2:Int) {K:Value->WP} {w:World} (h:S80 x0 x1 x2 K w):Calls prog 80 #[(.pointer x0),(.int .u32 x1),(.int .u64 x2)] w (Ret K):=cF an80 false Tryz.func80 h
def an81:Ann:=(AN (AN (AR (.block (.loop [(6,.sh (.one (.int .i64)))] [0,5,1000000] (AR (AN (AQ AP AP)) (.block AP)))) AO)))
def S81 (x0:Option Addr) (x1:Int) (K:Value->WP):WP:=
 ze prog 88 [(.pointer x0),(.int .u32 x1)] (.many [(.agg [(.int .u8),.slc,.str]),(.one (.int .i64))]) fun(u1:(Int×SLC×ByteArray×Unit)×Int×Unit)=>
 zi (.cells #[(.int .u8 (0:Int)),(.slice none 0 0),(.string ByteArray.empty)] 56) fun(r2:Nat)=>
 zc ((#[(.int .u8 u1.1.1),(.slice u1.1.2.1.1 u1.1.2.1.2.1 u1.1.2.1.2.2),(.string u1.1.2.2.1)]:Array Value).size=3)<|
 zt (aD r2) [(.int .u8 u1.1.1),(.slice u1.1.2.1.1 u1.1.2.1.2.1 u1.1.2.1.2.2),(.string u1.1.2.2.1)]<|
 zB (Int×Unit) (u1.2.1,()) fun(y4:Int×Unit) (I3:(Int×Unit)->WP)=>
 za (y4.1==(0:Int)) (ldW (.int .u8) (aD r2) fun(u5:Int)=>
 za (u5==(3:Int)) (ldW .slc ((aD r2).add 1) fun(u6:SLC)=>
 zc (0<=(0:Int)/\(0:Int)<((u6.2.1:Nat):Int))<|
 zh u6.1 fun(p7:Addr)=>
 ldW (.int .u32) (p7.add (Int.toNat (0:Int)*1)) fun(u8:Int)=>
 ze prog 88 [(.pointer x0),(.int .u32 u8)] (.many [(.agg [(.int .u8),.slc,.str]),(.one (.int .i64))]) fun(u9:(Int×SLC×ByteArray×Unit)×Int×Unit)=>
 zc ((#[(.int .u8 u9.1.1),(.slice u9.1.2.1.1 u9.1.2.1.2.1 u9.1.2.1.2.2),(.string u9.1.2.2.1)]:Array Value).size=3)<|
 zt (aD r2) [(.int .u8 u9.1.1),(.slice u9.1.2.1.1 u9.1.2.1.2.1 u9.1.2.1.2.2),(.string u9.1.2.2.1)]<|I3 (u9.2.1,()))<|
 za (y4.1==(0:Int)) (ldW (.int .u8) (aD r2) fun(u10:Int)=>K (.bool (u10==(5:Int))))<|K (.bool false))<|
 za (y4.1==(0:Int)) (ldW (.int .u8) (aD r2) fun(u11:Int)=>K (.bool (u11==(5:Int))))<|K (.bool false)
theorem zoX (x0:Option Addr) (x1:Int) {K:Value->WP} {w:World} (h:S81 x0 x1 K w):Calls prog 81 #[(.pointer x0),(.int .u32 x1)] w (Ret K):=cF an81 false Tryz.func81 h
def an82:Ann:=(AN (AR (AN (AQ AO AP)) (AN (AR (AN (.block (.loop [(14,.sh (.one .str)),(15,.sh (.one (.int .i64)))] [] (AR AO (.block (AR (AN (AQ AO AP)) AP)))))) AO))))
def S82 (x0:Option Addr) (x1:Int) (K:Value->WP):WP:=
 zi (.cells #[(.string ByteArray.empty)] 9) fun(r1:Nat)=>
 zi (.cells #[(.int .i64 (0:Int))] 28) fun(r2:Nat)=>
 za (Option.isNone x0) (stW (aD r1) (.string (ByteArray.mk #[]))<|
 stW (aD r2) (.int .i64 (1:Int))<|
 zS prog []<|
 ldW .str (aD r1) fun(u3:ByteArray)=>
 ldW (.int .i64) (aD r2) fun(u4:Int)=>K (.tuple #[(.string u3),(.int .i64 u4)]))<|
 zi (.cells #[(.pointer none),(.slice none 0 0)] 204) fun(r5:Nat)=>
 ze prog 127 [(.pointer x0),(.int .u32 x1)] (.one (.one .any)) fun(u6:Value)=>
 jE prog u6 (ByteArray×Int×Unit) (fun(t7:ByteArray×Int×Unit)=>[(.string t7.1),(.int .i64 t7.2.1)]) (fun(t7:ByteArray×Int×Unit) (B8:WP->WP) (N9:WP) (Q10:Code->WP)=>B8 (za (t7.2.1 !=(0:Int)) (stW (aD r1) (.string (ByteArray.mk #[]))<|
 stW (aD r2) (.int .i64 t7.2.1)<|Q10 .ret)<|
 ze prog 128 [(.pointer (some (aD r5))),(.string t7.1)] (.many [(.one (.int .i64)),(.one .any)]) fun(u13:Int×Value×Unit)=>N9)) fun(r11:Nat) (p12:Option Code)=>
 jw (ze prog 129 [(.pointer (some (aD r5)))] (.one (.one .str)) fun(u14:ByteArray)=>
 stW (aD r1) (.string u14)<|
 stW (aD r2) (.int .i64 (0:Int))<|
 zS prog (⟨.collected r11,#[]⟩::[])<|
 ldW .str (aD r1) fun(u15:ByteArray)=>
 ldW (.int .i64) (aD r2) fun(u16:Int)=>K (.tuple #[(.string u15),(.int .i64 u16)])) (zS prog (⟨.collected r11,#[]⟩::[])<|
 ldW .str (aD r1) fun(u17:ByteArray)=>
 ldW (.int .i64) (aD r2) fun(u18:Int)=>K (.tuple #[(.string u17),(.int .i64 u18)])) [] p12
theorem zoY (x0:Option Addr) (x1:Int) {K:Value->WP} {w:World} (h:S82 x0 x1 K w):Calls prog 82 #[(.pointer x0),(.int .u32 x1)] w (Ret K):=cF an82 true Tryz.func82 h
def an83:Ann:=(AN (AR (AN (.block (.loop [(2,.sh (.one .slc)),(10,.sh (.one (.int .i64)))] [0,9,1000000] (AN (AR (AQ AP AP) (AR (.block (AN (AN (AQ AP AP)))) AP)))))) (AR (AN (.block (.loop [(2,.sh (.one .slc)),(42,.sh (.one (.int .i64)))] [0,41,1000000] (AN (AR (AQ AP AP) (AR (.block (AN (AN (AQ AP AP)))) AP)))))) AO)))
def S83 (x0:Option Addr) (K:Value->WP):WP:=
 zh x0 fun(p1:Addr)=>
 ldW .slc p1 fun(u2:SLC)=>
 zB (SLC×Int×Unit) ((none,0,0),(0:Int),()) fun(y4:SLC×Int×Unit) (I3:(SLC×Int×Unit)->WP)=>
 za (decide (y4.2.1<((u2.2.1:Nat):Int))) (zh x0 fun(p5:Addr)=>
 ldW .slc p5 fun(u6:SLC)=>
 zc (0<=y4.2.1/\y4.2.1<((u6.2.1:Nat):Int))<|
 zh u6.1 fun(p7:Addr)=>
 ldW (.int .u32) ((p7.add (Int.toNat y4.2.1*5)).add 2) fun(u8:Int)=>
 za (u8 !=(0:Int)) (zh x0 fun(p9:Addr)=>
 ldW .slc p9 fun(u10:SLC)=>
 zc (0<=y4.2.1/\y4.2.1<((u10.2.1:Nat):Int))<|
 zh u10.1 fun(p11:Addr)=>
 zi (.cells #[(.int .u64 (wrap .u64 (wrap .i64 ((1:Int)+y4.2.1)))),(.pointer (some ((p11.add (Int.toNat y4.2.1*5)).add 2)))] 140) fun(r12:Nat)=>
 zv prog (Builtin.append_ #[135,135] 135 #[(.slice y4.1.1 y4.1.2.1 y4.1.2.2),(.slice (some (aD r12)) 1 1)]) .slc fun(u13:SLC)=>I3 ((u13.1,u13.2.1,u13.2.2),(wrap .i64 (y4.2.1+(1:Int))),()))<|I3 ((y4.1.1,y4.1.2.1,y4.1.2.2),(wrap .i64 (y4.2.1+(1:Int))),()))<|
 zh x0 fun(p14:Addr)=>
 ldW .slc (p14.add 1) fun(u15:SLC)=>
 zB (SLC×Int×Unit) ((y4.1.1,y4.1.2.1,y4.1.2.2),(0:Int),()) fun(y17:SLC×Int×Unit) (I16:(SLC×Int×Unit)->WP)=>
 za (decide (y17.2.1<((u15.2.1:Nat):Int))) (zh x0 fun(p18:Addr)=>
 ldW .slc (p18.add 1) fun(u19:SLC)=>
 zc (0<=y17.2.1/\y17.2.1<((u19.2.1:Nat):Int))<|
 zh u19.1 fun(p20:Addr)=>
 ldW (.int .u32) ((p20.add (Int.toNat y17.2.1*2)).add 1) fun(u21:Int)=>
 za (u21 !=(0:Int)) (zh x0 fun(p22:Addr)=>
 ldW .slc (p22.add 1) fun(u23:SLC)=>
 zc (0<=y17.2.1/\y17.2.1<((u23.2.1:Nat):Int))<|
 zh u23.1 fun(p24:Addr)=>
 zi (.cells #[(.int .u64 (wrap .u64 (wrap .i64 ((100:Int)+y17.2.1)))),(.pointer (some ((p24.add (Int.toNat y17.2.1*2)).add 1)))] 140) fun(r25:Nat)=>
 zv prog (Builtin.append_ #[135,135] 135 #[(.slice y17.1.1 y17.1.2.1 y17.1.2.2),(.slice (some (aD r25)) 1 1)]) .slc fun(u26:SLC)=>I16 ((u26.1,u26.2.1,u26.2.2),(wrap .i64 (y17.2.1+(1:Int))),()))<|I16 ((y17.1.1,y17.1.2.1,y17.1.2.2),(wrap .i64 (y17.2.1+(1:Int))),()))<|K (.slice y17.1.1 y17.1.2.1 y17.1.2.2)
theorem zoZ (x0:Option Addr) {K:Value->WP} {w:World} (h:S83 x0 K w):Calls prog 83 #[(.pointer x0)] w (Ret K):=cF an83 false Tryz.func83 h
def an84:Ann:=(AN AO)
def S84 (x0:Option Addr) (K:Value->WP):WP:=
 zi (.cells #[(.pointer x0)] 48) fun(r1:Nat)=>K (.func (.func 130) #[] #[(.pointer (some (aD r1)))])
theorem zo0 (x0:Option Addr) {K:Value->WP} {w:World} (h:S84 x0 K w):Calls prog 84 #[(.pointer x0)] w (Ret K):=cF an84 false Tryz.func84 h
def an85:Ann:=(AN (AR (AN (AQ AO AP)) (AR (AN (AQ AO AP)) (AN (AN (AN (AR (AN (.block (.loop [(28,.sh (.one (.int .i64)))] [1,2,5,6,7,27,1000000] (AN (AR (AQ AP AP) (AR (.block (AN (AN (AR (AN (AQ AO AP)) AP)))) AP)))))) AO)))))))
def S85 (x0:Option Addr) (x1:ByteArray) (K:Value->WP):WP:=
 zi (.cells #[(.pointer x0)] 48) fun(r1:Nat)=>
 zi (.cells #[(.int .i64 (0:Int))] 28) fun(r2:Nat)=>
 ldW .ptr (aD r1) fun(u3:Option Addr)=>
 za (Option.isNone u3) (stW (aD r2) (.int .i64 (1:Int))<|
 zS prog []<|
 ldW (.int .i64) (aD r2) fun(u4:Int)=>K (.tuple #[(.int .u32 (0:Int)),(.int .i64 u4)]))<|
 ldW .ptr (aD r1) fun(u5:Option Addr)=>
 ze prog 131 [(.pointer u5)] (.one (.one (.int .i64))) fun(u6:Int)=>
 za (decide (((x1.size:Nat):Int)>u6)) (stW (aD r2) (.int .i64 (3:Int))<|
 zS prog []<|
 ldW (.int .i64) (aD r2) fun(u7:Int)=>K (.tuple #[(.int .u32 (0:Int)),(.int .i64 u7)]))<|
 zi (.cells #[(.slice none 0 0)] 54) fun(r8:Nat)=>
 ldW .ptr (aD r1) fun(u9:Option Addr)=>
 ze prog 76 [(.pointer u9),(.int .i64 (0:Int))] (.one (.one (.int .i64))) fun(u10:Int)=>
 zc (u10≠0)<|
 zB (Int×Unit) ((0:Int),()) fun(y12:Int×Unit) (I11:(Int×Unit)->WP)=>
 za (decide (y12.1<(wrap .i64 (Int.tdiv (wrap .i64 ((wrap .i64 (((x1.size:Nat):Int)+u10))-(1:Int))) u10)))) (zD<|
 ldW .ptr (aD r1) fun(u13:Option Addr)=>
 zc (0<=(wrap .i64 (y12.1*u10))/\(wrap .i64 (y12.1*u10))<=(if (wrap .i64 ((wrap .i64 (y12.1+(1:Int)))*u10))<((x1.size:Nat):Int) then (wrap .i64 ((wrap .i64 (y12.1+(1:Int)))*u10)) else ((x1.size:Nat):Int))/\(if (wrap .i64 ((wrap .i64 (y12.1+(1:Int)))*u10))<((x1.size:Nat):Int) then (wrap .i64 ((wrap .i64 (y12.1+(1:Int)))*u10)) else ((x1.size:Nat):Int))<=((x1.size:Nat):Int))<|
 ze prog 24 [(.pointer u13),(.agg #[(.int .u8 (7:Int)),(.slice none 0 0),(.string (ByteArray.extract x1 (Int.toNat (wrap .i64 (y12.1*u10))) (Int.toNat (if (wrap .i64 ((wrap .i64 (y12.1+(1:Int)))*u10))<((x1.size:Nat):Int) then (wrap .i64 ((wrap .i64 (y12.1+(1:Int)))*u10)) else ((x1.size:Nat):Int)))))])] (.many [(.one (.int .u32)),(.one (.int .i64))]) fun(u14:Int×Int×Unit)=>
 za (u14.2.1 !=(0:Int)) (stW (aD r2) (.int .i64 u14.2.1)<|
 zS prog (⟨.fn (.func 132) #[(.pointer (some (aD r2))),(.pointer (some (aD r8))),(.pointer (some (aD r1)))],#[]⟩::[])<|
 ldW (.int .i64) (aD r2) fun(u15:Int)=>K (.tuple #[(.int .u32 (0:Int)),(.int .i64 u15)]))<|
 ldW .slc (aD r8) fun(u16:SLC)=>
 zi (.cells #[(.int .u32 u14.1)] 41) fun(r17:Nat)=>
 zv prog (Builtin.append_ #[54,54] 54 #[(.slice u16.1 u16.2.1 u16.2.2),(.slice (some (aD r17)) 1 1)]) .slc fun(u18:SLC)=>
 stW (aD r8) (.slice u18.1 u18.2.1 u18.2.2)<|I11 ((wrap .i64 (y12.1+(1:Int))),()))<|
 zD<|
 ldW .ptr (aD r1) fun(u19:Option Addr)=>
 ldW .slc (aD r8) fun(u20:SLC)=>
 ze prog 42 [(.slice none 0 0),(.int .u64 (wrap .u64 ((x1.size:Nat):Int))),(.int .i64 (4:Int))] (.one (.one .slc)) fun(u21:SLC)=>
 zr [[((aD r8),(.slice u20.1 u20.2.1 u20.2.2))],[((aD r1),(.pointer u19))]]<|
 zv prog (Go.convert 85 9 (.slice u21.1 u21.2.1 u21.2.2)) .str fun(u22:ByteArray)=>
 zr [[((aD r8),(.slice u20.1 u20.2.1 u20.2.2))],[((aD r1),(.pointer u19))]]<|
 ze prog 24 [(.pointer u19),(.agg #[(.int .u8 (6:Int)),(.slice u20.1 u20.2.1 u20.2.2),(.string u22)])] (.many [(.one (.int .u32)),(.one (.int .i64))]) fun(u23:Int×Int×Unit)=>
 stW (aD r2) (.int .i64 u23.2.1)<|
 zS prog (⟨.fn (.func 132) #[(.pointer (some (aD r2))),(.pointer (some (aD r8))),(.pointer (some (aD r1)))],#[]⟩::[])<|
 ldW (.int .i64) (aD r2) fun(u24:Int)=>K (.tuple #[(.int .u32 u23.1),(.int .i64 u24)])
end V
end Go.Proofs.YtplgodmmmppmeaaGreat
