/- Texts of mine, merged (wip/tool/mergep.py): S_0. -/
import Derived.Test.YtpagephahcnijaaGreatM1
import Derived.Test.YtpagephahcnijaaGreatChecked
open Go.IntKind (wrap)
open Go.Proofs.Tryz (prog)
open List (mem_cons_self mem_cons_of_mem mem_cons length_cons map_map mem_append mem_append_left mem_append_right drop_drop mem_range mem_of_getElem? getElem_mem mem_iff_getElem map_cons mem_map append_assoc nodup_cons foldl_cons length_nil append_nil length_map nil_append length_set eq_nil_of_length_eq_zero range_succ map_congr_left length_append drop_of_length_le take_of_length_le getD_eq_getElem?_getD mem_singleton length_take drop_eq_getElem_cons length_drop take_succ_eq_append_getElem take_add_one not_mem_nil map_append take_left' length_replicate drop_left' flatMap_cons length_range getElem_range flatMap_append length_singleton count_cons count_eq_zero)
set_option linter.unusedVariables false
set_option linter.unusedSimpArgs false
namespace Go.Proofs.YtpagephahcnijaaGreat
/- The shallow forms of the functions,by a program of mine (wip/tool/gen.py). -/
set_option maxRecDepth 100000
namespace V
open Go Go.Proofs
theorem mixed:prog.follows .mixedOrders=true:=by kernel_rfl
abbrev AN (a:Ann):Ann:=.seq .nil a
abbrev AO:Ann:=.seq .nil .nil
abbrev AP:Ann:=.nil
abbrev AQ (a b:Ann):Ann:=.cond a b
abbrev AR (a b:Ann):Ann:=.seq a b
theorem cF {f:FuncId} {fn:Func} (an:Ann) (marks:Bool) {args:List Value} {w:World} {K:Value->WP} {T:Prop} (hf:prog.funcs[f]?=some fn) (h:T) (hz:decide (args.length<=fn.ntmps)=true:=by kernel_rfl) (e:T=zax prog fn an marks args K w:=by kernel_rfl):Calls prog f args.toArray w (Ret K):=cE an marks hf mixed hz e h
def an4:Ann:=(AN (AR (AN (AQ AO AP)) (AN (AR (AN (AQ AO AP)) (AN (AN (AR (AN (AQ AO AP)) (AN (AN (AN (AR (AN (AQ AO AP)) (AN (AN (AR (AN (AQ AO AP)) (AN (AR (AN (.block (.loop [(25,.sh (.one (.int .i64)))] [9,10,23,24,1000000] (AR (AN (AQ AP AP)) (AR (.block (AN (AQ AO AP))) AP))))) AO))))))))))))))))
def S4 (a0:Option Addr) (n0 c0:Nat) (x1:Int) (x2:ByteArray) (x3:ByteArray) (K:Value->WP):WP:=
 ze prog 7 [] (.one (.one .bool)) fun(u1:Bool)=>
 za (!u1) (K (.bool false))<|
 ze prog 8 [] (.one (.one .ptr)) fun(u2:Option Addr)=>
 za (Option.isNone u2) (K (.bool false))<|
 ze prog 9 [(.pointer u2)] (.one (.one (.int .i64))) fun(u3:Int)=>
 ze prog 11 [(.int .i64 x1),(.int .i64 (3:Int))] (.one (.one (.int .i64))) fun(u4:Int)=>
 ze prog 10 [(.pointer u2),(.slice a0 n0 c0),(.int .i64 u4)] (.many [(.agg [.slc,.slc]),(.one .bool)]) fun(u5:(SLC×SLC×Unit)×Bool×Unit)=>
 zi (.cells #[(.slice none 0 0),(.slice none 0 0)] 30) fun(r6:Nat)=>
 zc ((#[(.slice u5.1.1.1 u5.1.1.2.1 u5.1.1.2.2),(.slice u5.1.2.1.1 u5.1.2.1.2.1 u5.1.2.1.2.2)]:Array Value).size=2)<|
 zq (aD r6) [(.slice u5.1.1.1 u5.1.1.2.1 u5.1.1.2.2),(.slice u5.1.2.1.1 u5.1.2.1.2.1 u5.1.2.1.2.2)]<|
 za (!u5.2.1) (K (.bool true))<|
 za (x2.toList==x3.toList) (K (.bool true))<|
 ze prog 12 [(.string x2)] (.one (.one (.int .i64))) fun(u7:Int)=>
 za (u7 !=(0:Int)) (K (.bool true))<|
 ze prog 12 [(.string x3)] (.one (.one (.int .i64))) fun(u8:Int)=>
 za (u8 !=(0:Int)) (K (.bool true))<|
 zl [.slc,.slc] (aD r6) fun(u9:(SLC×SLC×Unit))=>
 ze prog 13 [(.pointer u2),(.agg #[(.slice u9.1.1 u9.1.2.1 u9.1.2.2),(.slice u9.2.1.1 u9.2.1.2.1 u9.2.1.2.2)]),(.string x2)] (.many [(.agg [.slc,.slc]),(.one (.int .i64))]) fun(u10:(SLC×SLC×Unit)×Int×Unit)=>
 zi (.cells #[(.slice none 0 0),(.slice none 0 0)] 30) fun(r11:Nat)=>
 zc ((#[(.slice u10.1.1.1 u10.1.1.2.1 u10.1.1.2.2),(.slice u10.1.2.1.1 u10.1.2.1.2.1 u10.1.2.1.2.2)]:Array Value).size=2)<|
 zq (aD r11) [(.slice u10.1.1.1 u10.1.1.2.1 u10.1.1.2.2),(.slice u10.1.2.1.1 u10.1.2.1.2.1 u10.1.2.1.2.2)]<|
 zl [.slc,.slc] (aD r11) fun(u12:(SLC×SLC×Unit))=>
 ze prog 13 [(.pointer u2),(.agg #[(.slice u12.1.1 u12.1.2.1 u12.1.2.2),(.slice u12.2.1.1 u12.2.1.2.1 u12.2.1.2.2)]),(.string x3)] (.many [(.agg [.slc,.slc]),(.one (.int .i64))]) fun(u13:(SLC×SLC×Unit)×Int×Unit)=>
 zi (.cells #[(.slice none 0 0),(.slice none 0 0)] 30) fun(r14:Nat)=>
 zc ((#[(.slice u13.1.1.1 u13.1.1.2.1 u13.1.1.2.2),(.slice u13.1.2.1.1 u13.1.2.1.2.1 u13.1.2.1.2.2)]:Array Value).size=2)<|
 zq (aD r14) [(.slice u13.1.1.1 u13.1.1.2.1 u13.1.1.2.2),(.slice u13.1.2.1.1 u13.1.2.1.2.1 u13.1.2.1.2.2)]<|
 zl [.slc,.slc] (aD r14) fun(u15:(SLC×SLC×Unit))=>
 ze prog 19 [(.pointer u2),(.agg #[(.slice u15.1.1 u15.1.2.1 u15.1.2.2),(.slice u15.2.1.1 u15.2.1.2.1 u15.2.1.2.2)]),(.string x2)] (.many [(.agg [.slc,.slc]),(.one (.int .i64))]) fun(u16:(SLC×SLC×Unit)×Int×Unit)=>
 zi (.cells #[(.slice none 0 0),(.slice none 0 0)] 30) fun(r17:Nat)=>
 zc ((#[(.slice u16.1.1.1 u16.1.1.2.1 u16.1.1.2.2),(.slice u16.1.2.1.1 u16.1.2.1.2.1 u16.1.2.1.2.2)]:Array Value).size=2)<|
 zq (aD r17) [(.slice u16.1.1.1 u16.1.1.2.1 u16.1.1.2.2),(.slice u16.1.2.1.1 u16.1.2.1.2.1 u16.1.2.1.2.2)]<|
 za (u10.2.1 !=(0:Int)) (K (.bool false))<|
 za (u13.2.1 !=(0:Int)) (K (.bool false))<|
 za (u16.2.1 !=(0:Int)) (K (.bool false))<|
 zl [.slc,.slc] (aD r17) fun(u18:(SLC×SLC×Unit))=>
 ze prog 22 [(.agg #[(.slice u18.1.1 u18.1.2.1 u18.1.2.2),(.slice u18.2.1.1 u18.2.1.2.1 u18.2.1.2.2)])] (.one (.one .slc)) fun(u19:SLC)=>
 zi (.cells #[(.string x3)] 9) fun(r20:Nat)=>
 ze prog 21 [(.slice u19.1 u19.2.1 u19.2.2),(.slice (some (aD r20)) 1 1)] (.one (.one .bool)) fun(u21:Bool)=>
 za (!u21) (K (.bool false))<|
 zl [.slc,.slc] (aD r17) fun(u22:(SLC×SLC×Unit))=>
 ze prog 15 [(.pointer u2),(.agg #[(.slice u22.1.1 u22.1.2.1 u22.1.2.2),(.slice u22.2.1.1 u22.2.1.2.1 u22.2.1.2.2)]),(.string x3)] (.many [(.one .slc),(.one (.int .i64))]) fun(u23:SLC×Int×Unit)=>
 zl [.slc,.slc] (aD r17) fun(u24:(SLC×SLC×Unit))=>
 ze prog 15 [(.pointer u2),(.agg #[(.slice u24.1.1 u24.1.2.1 u24.1.2.2),(.slice u24.2.1.1 u24.2.1.2.1 u24.2.1.2.2)]),(.string x2)] (.many [(.one .slc),(.one (.int .i64))]) fun(u25:SLC×Int×Unit)=>
 za (u23.2.1 !=(0:Int)) (K (.bool false))<|
 za (u25.2.1 !=(211:Int)) (K (.bool false))<|
 ldW .slc (aD r6) fun(u26:SLC)=>
 ze prog 16 [(.agg #[(.slice u23.1.1 u23.1.2.1 u23.1.2.2),(.slice none 0 0)]),(.agg #[(.slice u26.1 u26.2.1 u26.2.2),(.slice none 0 0)])] (.one (.one .bool)) fun(u27:Bool)=>
 za (!u27) (K (.bool false))<|
 zl [.slc,.slc] (aD r17) fun(u28:(SLC×SLC×Unit))=>
 ze prog 19 [(.pointer u2),(.agg #[(.slice u28.1.1 u28.1.2.1 u28.1.2.2),(.slice u28.2.1.1 u28.2.1.2.1 u28.2.1.2.2)]),(.string x3)] (.many [(.agg [.slc,.slc]),(.one (.int .i64))]) fun(u29:(SLC×SLC×Unit)×Int×Unit)=>
 zi (.cells #[(.slice none 0 0),(.slice none 0 0)] 30) fun(r30:Nat)=>
 zc ((#[(.slice u29.1.1.1 u29.1.1.2.1 u29.1.1.2.2),(.slice u29.1.2.1.1 u29.1.2.1.2.1 u29.1.2.1.2.2)]:Array Value).size=2)<|
 zq (aD r30) [(.slice u29.1.1.1 u29.1.1.2.1 u29.1.1.2.2),(.slice u29.1.2.1.1 u29.1.2.1.2.1 u29.1.2.1.2.2)]<|
 zG (Int×Unit) ((0:Int),()) fun(y32:Int×Unit) (I31:(Int×Unit)->WP)=>
 ldW .slc (aD r30) fun(u33:SLC)=>
 za (decide (y32.1<((u33.2.1:Nat):Int))) (ldW .slc (aD r30) fun(u34:SLC)=>
 zc (0<=y32.1/\y32.1<((u34.2.1:Nat):Int))<|
 zh u34.1 fun(p35:Addr)=>
 ldW (.int .u32) ((p35.add (Int.toNat y32.1*5)).add 2) fun(u36:Int)=>
 za (u36 !=(0:Int)) (ldW .slc (aD r30) fun(u37:SLC)=>
 zc (0<=y32.1/\y32.1<((u37.2.1:Nat):Int))<|
 zh u37.1 fun(p38:Addr)=>
 ldW (.int .u32) ((p38.add (Int.toNat y32.1*5)).add 2) fun(u39:Int)=>
 ze prog 18 [(.pointer u2),(.int .u32 u39)] (.one (.one (.int .i64))) fun(u40:Int)=>
 za (u40 !=(1:Int)) (K (.bool false))<|
 ldW .slc (aD r30) fun(u41:SLC)=>
 zc (0<=y32.1/\y32.1<((u41.2.1:Nat):Int))<|
 zh u41.1 fun(p42:Addr)=>
 ldW (.int .u32) ((p42.add (Int.toNat y32.1*5)).add 2) fun(u43:Int)=>
 ze prog 14 [(.pointer u2),(.int .u32 u43)] (.one (.one (.int .i64))) fun(u44:Int)=>
 za (u44 !=(0:Int)) (K (.bool false))<|I31 ((wrap .i64 (y32.1+(1:Int))),()))<|I31 ((wrap .i64 (y32.1+(1:Int))),()))<|
 za (u29.2.1==(0:Int)) (ldW .slc ((aD r30).add 1) fun(u45:SLC)=>
 za (((u45.2.1:Nat):Int)==(0:Int)) (ze prog 9 [(.pointer u2)] (.one (.one (.int .i64))) fun(u46:Int)=>
 za (u46==u3) (ze prog 20 [(.pointer u2),(.slice none 0 0)] (.one (.one (.int .i64))) fun(u47:Int)=>K (.bool (u47==(0:Int))))<|K (.bool false))<|K (.bool false))<|K (.bool false)
theorem zqS (a0:Option Addr) (n0 c0:Nat) (x1:Int) (x2:ByteArray) (x3:ByteArray) {K:Value->WP} {w:World} (h:S4 a0 n0 c0 x1 x2 x3 K w):Calls prog 4 #[(.slice a0 n0 c0),(.int .i64 x1),(.string x2),(.string x3)] w (Ret K):=cF an4 false Tryz.func4 h
def an7:Ann:=(AN (AN (AR (AN (AQ AO AP)) (AN AO))))
def S7  (K:Value->WP):WP:=
 ze prog 8 [] (.one (.one .ptr)) fun(u1:Option Addr)=>
 za (Option.isNone u1) (K (.bool false))<|
 ze prog 24 [(.pointer u1)] (.one (.agg [.slc,.slc])) fun(u2:(SLC×SLC×Unit))=>
 ze prog 13 [(.pointer u1),(.agg #[(.slice u2.1.1 u2.1.2.1 u2.1.2.2),(.slice u2.2.1.1 u2.2.1.2.1 u2.2.1.2.2)]),(.string (ByteArray.mk #[115]))] (.many [(.agg [.slc,.slc]),(.one (.int .i64))]) fun(u3:(SLC×SLC×Unit)×Int×Unit)=>
 zi (.cells #[(.slice none 0 0),(.slice none 0 0)] 30) fun(r4:Nat)=>
 zc ((#[(.slice u3.1.1.1 u3.1.1.2.1 u3.1.1.2.2),(.slice u3.1.2.1.1 u3.1.2.1.2.1 u3.1.2.1.2.2)]:Array Value).size=2)<|
 zq (aD r4) [(.slice u3.1.1.1 u3.1.1.2.1 u3.1.1.2.2),(.slice u3.1.2.1.1 u3.1.2.1.2.1 u3.1.2.1.2.2)]<|
 za (u3.2.1==(0:Int)) (zl [.slc,.slc] (aD r4) fun(u5:(SLC×SLC×Unit))=>
 ze prog 22 [(.agg #[(.slice u5.1.1 u5.1.2.1 u5.1.2.2),(.slice u5.2.1.1 u5.2.1.2.1 u5.2.1.2.2)])] (.one (.one .slc)) fun(u6:SLC)=>
 zi (.cells #[(.string (ByteArray.mk #[115]))] 9) fun(r7:Nat)=>
 ze prog 21 [(.slice u6.1 u6.2.1 u6.2.2),(.slice (some (aD r7)) 1 1)] (.one (.one .bool)) fun(u8:Bool)=>K (.bool u8))<|K (.bool false)
theorem zqT  {K:Value->WP} {w:World} (h:S7  K w):Calls prog 7 #[] w (Ret K):=cF an7 false Tryz.func7 h
def an8:Ann:=(AN (AN (AN (AR (AN (AQ AO AP)) AO))))
def S8  (K:Value->WP):WP:=
 ze prog 26 [(.agg #[(.int .i64 (256:Int)),(.int .i64 (256:Int))])] (.many [(.one .ptr),(.one (.int .i64))]) fun(u1:Option Addr×Int×Unit)=>
 ze prog 27 [(.pointer u1.1)] (.many [(.one .ptr),(.one (.int .i64))]) fun(u2:Option Addr×Int×Unit)=>
 za (u2.2.1 !=(0:Int)) (K (.pointer none))<|K (.pointer u2.1)
theorem zqU  {K:Value->WP} {w:World} (h:S8  K w):Calls prog 8 #[] w (Ret K):=cF an8 false Tryz.func8 h
def an9:Ann:=(AN (AR (AN (AQ AO AP)) (AR (AN (.block (.loop [(7,.sh (.one (.int .u32)))] [] (AN (.block AP))))) AO)))
def S9 (x0:Option Addr) (K:Value->WP):WP:=
 zi (.cells #[(.int .i64 (0:Int))] 3) fun(r1:Nat)=>
 za (Option.isNone x0) (stW (aD r1) (.int .i64 (0:Int))<|
 zW prog []<|
 ldW (.int .i64) (aD r1) fun(u2:Int)=>K (.int .i64 u2))<|
 ze prog 28 [(.pointer x0)] (.one (.one .any)) fun(u3:Value)=>
 jj prog u3 (Int×Unit) (fun(t4:Int×Unit)=>[(.int .u32 t4.1)]) (fun(t4:Int×Unit) (B5:WP->WP) (N6:WP) (Q7:Code->WP)=>B5 (ldW (.int .i64) (aD r1) fun(u10:Int)=>
 stW (aD r1) (.int .i64 (wrap .i64 (u10+(1:Int))))<|N6)) fun(r8:Nat) (p9:Option Code)=>
 qN (ldW (.int .i64) (aD r1) fun(u11:Int)=>
 stW (aD r1) (.int .i64 u11)<|
 zW prog (⟨.collected r8,#[]⟩::[])<|
 ldW (.int .i64) (aD r1) fun(u12:Int)=>K (.int .i64 u12)) (zW prog (⟨.collected r8,#[]⟩::[])<|
 ldW (.int .i64) (aD r1) fun(u13:Int)=>K (.int .i64 u13)) [] p9
theorem zqV (x0:Option Addr) {K:Value->WP} {w:World} (h:S9 x0 K w):Calls prog 9 #[(.pointer x0)] w (Ret K):=cF an9 true Tryz.func9 h
def an10:Ann:=(AN (AN (AR (AN (.block (.loop [(9,.sh (.one (.int .i64)))] [0,1,2,6,8,1000000] (AR (AN (AQ AP AP)) (AR (.block (AR (AN (AQ AO AP)) (AN (AR (AN (AQ (AN (AR (AN (AQ AO AP)) AP)) AP)) AP)))) AP))))) AO)))
def S10 (x0:Option Addr) (a1:Option Addr) (n1 c1:Nat) (x2:Int) (K:Value->WP):WP:=
 zi (.cells #[(.slice none 0 0),(.slice none 0 0)] 30) fun(r1:Nat)=>
 zi (.cells #[(.slice none 0 0),(.slice none 0 0)] 30) fun(r2:Nat)=>
 zG (Int×Unit) ((0:Int),()) fun(y4:Int×Unit) (I3:(Int×Unit)->WP)=>
 za (decide (y4.1<((n1:Nat):Int))) (zc (0<=y4.1/\y4.1<((n1:Nat):Int))<|
 zh a1 fun(p5:Addr)=>
 ldW .str (p5.add (Int.toNat y4.1*1)) fun(u6:ByteArray)=>
 za (decide (((u6.size:Nat):Int)>(30:Int))) (zl [.slc,.slc] (aD r2) fun(u7:(SLC×SLC×Unit))=>
 zc ((#[(.slice u7.1.1 u7.1.2.1 u7.1.2.2),(.slice u7.2.1.1 u7.2.1.2.1 u7.2.1.2.2)]:Array Value).size=2)<|
 zq (aD r1) [(.slice u7.1.1 u7.1.2.1 u7.1.2.2),(.slice u7.2.1.1 u7.2.1.2.1 u7.2.1.2.2)]<|
 zl [.slc,.slc] (aD r1) fun(u8:(SLC×SLC×Unit))=>K (.tuple #[(.agg #[(.slice u8.1.1 u8.1.2.1 u8.1.2.2),(.slice u8.2.1.1 u8.2.1.2.1 u8.2.1.2.2)]),(.bool false)]))<|
 zB<|
 zc (0<=y4.1/\y4.1<((n1:Nat):Int))<|
 zh a1 fun(p9:Addr)=>
 ldW .str (p9.add (Int.toNat y4.1*1)) fun(u10:ByteArray)=>
 kI (ze prog 29 [] (.one (.one .slc)) fun(u11:SLC)=>
 zt [[((p9.add (Int.toNat y4.1*1)),(.string u10))]]<|
 zi (.cells #[(.string ByteArray.empty),(.slice none 0 0),(.int .u32 (0:Int)),(.int .u64 (0:Int)),(.int .i64 (0:Int))] 42) fun(r12:Nat)=>
 zt [[((p9.add (Int.toNat y4.1*1)),(.string u10))]]<|
 zc ((#[(.string u10),(.slice u11.1 u11.2.1 u11.2.2),(.int .u32 (0:Int)),(.int .u64 (wrap .u64 y4.1)),(.int .i64 (0:Int))]:Array Value).size=5)<|
 zq (aD r12) [(.string u10),(.slice u11.1 u11.2.1 u11.2.2),(.int .u32 (0:Int)),(.int .u64 (wrap .u64 y4.1)),(.int .i64 (0:Int))]<|
 za ((Int.tmod (wrap .i64 (x2+y4.1)) (3:Int)) !=(0:Int)) (zc (0<=y4.1/\y4.1<((n1:Nat):Int))<|
 zh a1 fun(p13:Addr)=>
 ldW .str (p13.add (Int.toNat y4.1*1)) fun(u14:ByteArray)=>
 ze prog 30 [(.pointer x0),(.agg #[(.int .u8 (7:Int)),(.slice none 0 0),(.string u14)])] (.many [(.one (.int .u32)),(.one (.int .i64))]) fun(u15:Int×Int×Unit)=>
 za (u15.2.1 !=(0:Int)) (zl [.slc,.slc] (aD r2) fun(u16:(SLC×SLC×Unit))=>
 zc ((#[(.slice u16.1.1 u16.1.2.1 u16.1.2.2),(.slice u16.2.1.1 u16.2.1.2.1 u16.2.1.2.2)]:Array Value).size=2)<|
 zq (aD r1) [(.slice u16.1.1 u16.1.2.1 u16.1.2.2),(.slice u16.2.1.1 u16.2.1.2.1 u16.2.1.2.2)]<|
 zl [.slc,.slc] (aD r1) fun(u17:(SLC×SLC×Unit))=>K (.tuple #[(.agg #[(.slice u17.1.1 u17.1.2.1 u17.1.2.2),(.slice u17.2.1.1 u17.2.1.2.1 u17.2.1.2.2)]),(.bool false)]))<|
 stW ((aD r12).add 2) (.int .u32 u15.1)<|
 stW ((aD r12).add 4) (.int .i64 (wrap .i64 ((1:Int)+y4.1)))<|
 ldW .slc (aD r2) fun(u18:SLC)=>
 zl [.str,.slc,(.int .u32),(.int .u64),(.int .i64)] (aD r12) fun(u19:(ByteArray×SLC×Int×Int×Int×Unit))=>
 zi (.cells #[(.string u19.1),(.slice u19.2.1.1 u19.2.1.2.1 u19.2.1.2.2),(.int .u32 u19.2.2.1),(.int .u64 u19.2.2.2.1),(.int .i64 u19.2.2.2.2.1)] 42) fun(r20:Nat)=>
 zv prog (Builtin.append_ #[27,27] 27 #[(.slice u18.1 u18.2.1 u18.2.2),(.slice (some (aD r20)) 1 1)]) .slc fun(u21:SLC)=>
 stW (aD r2) (.slice u21.1 u21.2.1 u21.2.2)<|I3 ((wrap .i64 (y4.1+(1:Int))),()))<|
 ldW .slc (aD r2) fun(u22:SLC)=>
 zl [.str,.slc,(.int .u32),(.int .u64),(.int .i64)] (aD r12) fun(u23:(ByteArray×SLC×Int×Int×Int×Unit))=>
 zi (.cells #[(.string u23.1),(.slice u23.2.1.1 u23.2.1.2.1 u23.2.1.2.2),(.int .u32 u23.2.2.1),(.int .u64 u23.2.2.2.1),(.int .i64 u23.2.2.2.2.1)] 42) fun(r24:Nat)=>
 zv prog (Builtin.append_ #[27,27] 27 #[(.slice u22.1 u22.2.1 u22.2.2),(.slice (some (aD r24)) 1 1)]) .slc fun(u25:SLC)=>
 stW (aD r2) (.slice u25.1 u25.2.1 u25.2.2)<|I3 ((wrap .i64 (y4.1+(1:Int))),()))<|
 zi (.cells #[(.string ByteArray.empty),(.slice none 0 0),(.int .u32 (0:Int)),(.int .u64 (0:Int)),(.int .i64 (0:Int))] 42) fun(r26:Nat)=>
 zt [[((p9.add (Int.toNat y4.1*1)),(.string u10))]]<|
 ze prog 29 [] (.one (.one .slc)) fun(u27:SLC)=>
 zt [[((p9.add (Int.toNat y4.1*1)),(.string u10))]]<|
 zc ((#[(.string u10),(.slice u27.1 u27.2.1 u27.2.2),(.int .u32 (0:Int)),(.int .u64 (wrap .u64 y4.1)),(.int .i64 (0:Int))]:Array Value).size=5)<|
 zq (aD r26) [(.string u10),(.slice u27.1 u27.2.1 u27.2.2),(.int .u32 (0:Int)),(.int .u64 (wrap .u64 y4.1)),(.int .i64 (0:Int))]<|
 za ((Int.tmod (wrap .i64 (x2+y4.1)) (3:Int)) !=(0:Int)) (zc (0<=y4.1/\y4.1<((n1:Nat):Int))<|
 zh a1 fun(p28:Addr)=>
 ldW .str (p28.add (Int.toNat y4.1*1)) fun(u29:ByteArray)=>
 ze prog 30 [(.pointer x0),(.agg #[(.int .u8 (7:Int)),(.slice none 0 0),(.string u29)])] (.many [(.one (.int .u32)),(.one (.int .i64))]) fun(u30:Int×Int×Unit)=>
 za (u30.2.1 !=(0:Int)) (zl [.slc,.slc] (aD r2) fun(u31:(SLC×SLC×Unit))=>
 zc ((#[(.slice u31.1.1 u31.1.2.1 u31.1.2.2),(.slice u31.2.1.1 u31.2.1.2.1 u31.2.1.2.2)]:Array Value).size=2)<|
 zq (aD r1) [(.slice u31.1.1 u31.1.2.1 u31.1.2.2),(.slice u31.2.1.1 u31.2.1.2.1 u31.2.1.2.2)]<|
 zl [.slc,.slc] (aD r1) fun(u32:(SLC×SLC×Unit))=>K (.tuple #[(.agg #[(.slice u32.1.1 u32.1.2.1 u32.1.2.2),(.slice u32.2.1.1 u32.2.1.2.1 u32.2.1.2.2)]),(.bool false)]))<|
 stW ((aD r26).add 2) (.int .u32 u30.1)<|
 stW ((aD r26).add 4) (.int .i64 (wrap .i64 ((1:Int)+y4.1)))<|
 ldW .slc (aD r2) fun(u33:SLC)=>
 zl [.str,.slc,(.int .u32),(.int .u64),(.int .i64)] (aD r26) fun(u34:(ByteArray×SLC×Int×Int×Int×Unit))=>
 zi (.cells #[(.string u34.1),(.slice u34.2.1.1 u34.2.1.2.1 u34.2.1.2.2),(.int .u32 u34.2.2.1),(.int .u64 u34.2.2.2.1),(.int .i64 u34.2.2.2.2.1)] 42) fun(r35:Nat)=>
 zv prog (Builtin.append_ #[27,27] 27 #[(.slice u33.1 u33.2.1 u33.2.2),(.slice (some (aD r35)) 1 1)]) .slc fun(u36:SLC)=>
 stW (aD r2) (.slice u36.1 u36.2.1 u36.2.2)<|I3 ((wrap .i64 (y4.1+(1:Int))),()))<|
 ldW .slc (aD r2) fun(u37:SLC)=>
 zl [.str,.slc,(.int .u32),(.int .u64),(.int .i64)] (aD r26) fun(u38:(ByteArray×SLC×Int×Int×Int×Unit))=>
 zi (.cells #[(.string u38.1),(.slice u38.2.1.1 u38.2.1.2.1 u38.2.1.2.2),(.int .u32 u38.2.2.1),(.int .u64 u38.2.2.2.1),(.int .i64 u38.2.2.2.2.1)] 42) fun(r39:Nat)=>
 zv prog (Builtin.append_ #[27,27] 27 #[(.slice u37.1 u37.2.1 u37.2.2),(.slice (some (aD r39)) 1 1)]) .slc fun(u40:SLC)=>
 stW (aD r2) (.slice u40.1 u40.2.1 u40.2.2)<|I3 ((wrap .i64 (y4.1+(1:Int))),()))<|
 zB<|
 zl [.slc,.slc] (aD r2) fun(u41:(SLC×SLC×Unit))=>
 za (decide (((n1:Nat):Int)<=(8:Int))) (zl [.slc,.slc] (aD r2) fun(u42:(SLC×SLC×Unit))=>
 ze prog 31 [(.agg #[(.slice u42.1.1 u42.1.2.1 u42.1.2.2),(.slice u42.2.1.1 u42.2.1.2.1 u42.2.1.2.2)])] (.one (.one (.int .i64))) fun(u43:Int)=>
 zt [[((aD r2).add 0,(.slice u41.1.1 u41.1.2.1 u41.1.2.2)),((aD r2).add 1,(.slice u41.2.1.1 u41.2.1.2.1 u41.2.1.2.2))]]<|
 zc ((#[(.slice u41.1.1 u41.1.2.1 u41.1.2.2),(.slice u41.2.1.1 u41.2.1.2.1 u41.2.1.2.2)]:Array Value).size=2)<|
 zq (aD r1) [(.slice u41.1.1 u41.1.2.1 u41.1.2.2),(.slice u41.2.1.1 u41.2.1.2.1 u41.2.1.2.2)]<|
 zl [.slc,.slc] (aD r1) fun(u44:(SLC×SLC×Unit))=>K (.tuple #[(.agg #[(.slice u44.1.1 u44.1.2.1 u44.1.2.2),(.slice u44.2.1.1 u44.2.1.2.1 u44.2.1.2.2)]),(.bool (u43==(0:Int)))]))<|
 zc ((#[(.slice u41.1.1 u41.1.2.1 u41.1.2.2),(.slice u41.2.1.1 u41.2.1.2.1 u41.2.1.2.2)]:Array Value).size=2)<|
 zq (aD r1) [(.slice u41.1.1 u41.1.2.1 u41.1.2.2),(.slice u41.2.1.1 u41.2.1.2.1 u41.2.1.2.2)]<|
 zl [.slc,.slc] (aD r1) fun(u45:(SLC×SLC×Unit))=>K (.tuple #[(.agg #[(.slice u45.1.1 u45.1.2.1 u45.1.2.2),(.slice u45.2.1.1 u45.2.1.2.1 u45.2.1.2.2)]),(.bool false)])
theorem zoW (x0:Option Addr) (a1:Option Addr) (n1 c1:Nat) (x2:Int) {K:Value->WP} {w:World} (h:S10 x0 a1 n1 c1 x2 K w):Calls prog 10 #[(.pointer x0),(.slice a1 n1 c1),(.int .i64 x2)] w (Ret K):=cF an10 false Tryz.func10 h
def an11:Ann:=(AN (AR (AN (AQ AO AP)) (AN (AR (AN (AQ AP AP)) AO))))
def S11 (x0:Int) (x1:Int) (K:Value->WP):WP:=
 za (decide (x1<(1:Int))) (K (.int .i64 (0:Int)))<|
 zc (x1≠0)<|
 za (decide ((Int.tmod x0 x1)<(0:Int))) (K (.int .i64 (wrap .i64 ((Int.tmod x0 x1)+x1))))<|K (.int .i64 (Int.tmod x0 x1))
theorem zoX (x0:Int) (x1:Int) {K:Value->WP} {w:World} (h:S11 x0 x1 K w):Calls prog 11 #[(.int .i64 x0),(.int .i64 x1)] w (Ret K):=cF an11 false Tryz.func11 h
def an12:Ann:=(AN (AR (AN (AQ AO AP)) (AR (AN (.block (.loop [(3,.sh (.one (.int .i64)))] [0,1000000] (AR (AN (AQ AP AP)) (.join [] [0,3,1000000] (.block (AN (.join [(5,.sh (.one .bool))] [0,3,4,1000000] AP (.join [(54,.sh (.one .bool))] [0,3,1000000] AP (AQ AO AP))))) AP))))) AO)))
def S12 (x0:ByteArray) (K:Value->WP):WP:=
 za (decide (((x0.size:Nat):Int)<(1:Int))) (K (.int .i64 (170:Int)))<|
 za (decide (((x0.size:Nat):Int)>(32:Int))) (K (.int .i64 (170:Int)))<|
 zG (Int×Unit) ((0:Int),()) fun(y2:Int×Unit) (I1:(Int×Unit)->WP)=>
 za (decide (y2.1<((x0.size:Nat):Int))) (yV (Unit) (fun(J3:(Unit)->WP)=>
 zc (0<=y2.1/\y2.1<((x0.size:Nat):Int))<|
 yV (Bool×Unit) (fun(J5:(Bool×Unit)->WP)=>
 za (decide ((bt x0 y2.1)>=(48:Int))) (J5 ((decide ((bt x0 y2.1)<=(57:Int))),()))<|J5 (false,())) fun(y6:Bool×Unit)=>
 yV (Bool×Unit) (fun(J7:(Bool×Unit)->WP)=>
 za (decide ((bt x0 y2.1)>=(97:Int))) (za (decide ((bt x0 y2.1)<=(122:Int))) (J7 (false,()))<|
 za (decide ((bt x0 y2.1)>=(65:Int))) (za (decide ((bt x0 y2.1)<=(90:Int))) (J7 (false,()))<|
 za ((bt x0 y2.1)==(95:Int)) (J7 (false,()))<|
 za y6.1 (J7 ((!(decide (y2.1>(0:Int)))),()))<|J7 (true,()))<|
 za ((bt x0 y2.1)==(95:Int)) (J7 (false,()))<|
 za y6.1 (J7 ((!(decide (y2.1>(0:Int)))),()))<|J7 (true,()))<|
 za (decide ((bt x0 y2.1)>=(65:Int))) (za (decide ((bt x0 y2.1)<=(90:Int))) (J7 (false,()))<|
 za ((bt x0 y2.1)==(95:Int)) (J7 (false,()))<|
 za y6.1 (J7 ((!(decide (y2.1>(0:Int)))),()))<|J7 (true,()))<|
 za ((bt x0 y2.1)==(95:Int)) (J7 (false,()))<|
 za y6.1 (J7 ((!(decide (y2.1>(0:Int)))),()))<|J7 (true,())) fun(y8:Bool×Unit)=>
 za y8.1 (K (.int .i64 (170:Int)))<|J3 ()) fun(y4:Unit)=>I1 ((wrap .i64 (y2.1+(1:Int))),()))<|K (.int .i64 (0:Int))
theorem zoY (x0:ByteArray) {K:Value->WP} {w:World} (h:S12 x0 K w):Calls prog 12 #[(.string x0)] w (Ret K):=cF an12 false Tryz.func12 h
def an13:Ann:=(AN (AR (AN (AN (AQ AO AP))) (AN (.join [(9,.sh (.one (.int .i64)))] [0,4,5,6,1000000] (AN (AQ AP AP)) (.join [] [0,4,5,6,9,1000000] (.block (.join [(30,.sh (.one .bool))] [0,4,5,6,9,1000000] AP (AQ AO (AN (AQ AO AP))))) (AN (AR (AN (AN (AQ AO AP))) (AN (AR (AN (AQ AO AP)) (AN (AN AO)))))))))))
def S13 (x0:Option Addr) (Au:Option Addr) (Av Aw:Nat) (Ag:Option Addr) (Ah Ai:Nat) (x2:ByteArray) (K:Value->WP):WP:=
 zi (.cells #[(.slice Au Av Aw),(.slice Ag Ah Ai)] 30) fun(r1:Nat)=>
 zi (.cells #[(.string x2)] 9) fun(r2:Nat)=>
 zi (.cells #[(.slice none 0 0),(.slice none 0 0)] 30) fun(r3:Nat)=>
 ldW .str (aD r2) fun(u4:ByteArray)=>
 ze prog 32 [(.string u4)] (.one (.one (.int .i64))) fun(u5:Int)=>
 za (u5 !=(0:Int)) (zc ((#[(.slice none 0 0),(.slice none 0 0)]:Array Value).size=2)<|
 zq (aD r3) [(.slice none 0 0),(.slice none 0 0)]<|
 zl [.slc,.slc] (aD r3) fun(u6:(SLC×SLC×Unit))=>K (.tuple #[(.agg #[(.slice u6.1.1 u6.1.2.1 u6.1.2.2),(.slice u6.2.1.1 u6.2.1.2.1 u6.2.1.2.2)]),(.int .i64 u5)]))<|
 ldW .slc ((aD r1).add 1) fun(u7:SLC)=>
 ze prog 33 [(.slice u7.1 u7.2.1 u7.2.2),(.func (.func 34) #[] #[(.pointer (some (aD r2)))])] (.one (.one (.int .i64))) fun(u8:Int)=>
 yV (Int×Unit) (fun(J9:(Int×Unit)->WP)=>
 za (decide (u8<(0:Int))) (ldW .slc ((aD r1).add 1) fun(u11:SLC)=>J9 (((u11.2.1:Nat):Int),()))<|J9 (u8,())) fun(y10:Int×Unit)=>
 yV (Unit) (fun(J12:(Unit)->WP)=>
 yV (Bool×Unit) (fun(J14:(Bool×Unit)->WP)=>
 zB<|
 ldW .slc ((aD r1).add 1) fun(u16:SLC)=>
 za (decide (y10.1<((u16.2.1:Nat):Int))) (ldW .slc ((aD r1).add 1) fun(u17:SLC)=>
 zc (0<=y10.1/\y10.1<((u17.2.1:Nat):Int))<|
 zh u17.1 fun(p18:Addr)=>
 ldW .str (p18.add (Int.toNat y10.1*2)) fun(u19:ByteArray)=>
 ldW .str (aD r2) fun(u20:ByteArray)=>J14 ((u19.toList==u20.toList),()))<|J14 (false,())) fun(y15:Bool×Unit)=>
 za y15.1 (zc ((#[(.slice none 0 0),(.slice none 0 0)]:Array Value).size=2)<|
 zq (aD r3) [(.slice none 0 0),(.slice none 0 0)]<|
 zl [.slc,.slc] (aD r3) fun(u21:(SLC×SLC×Unit))=>K (.tuple #[(.agg #[(.slice u21.1.1 u21.1.2.1 u21.1.2.2),(.slice u21.2.1.1 u21.2.1.2.1 u21.2.1.2.2)]),(.int .i64 (6:Int))]))<|
 ldW .slc ((aD r1).add 1) fun(u22:SLC)=>
 za (decide (((u22.2.1:Nat):Int)>=(16:Int))) (zc ((#[(.slice none 0 0),(.slice none 0 0)]:Array Value).size=2)<|
 zq (aD r3) [(.slice none 0 0),(.slice none 0 0)]<|
 zl [.slc,.slc] (aD r3) fun(u23:(SLC×SLC×Unit))=>K (.tuple #[(.agg #[(.slice u23.1.1 u23.1.2.1 u23.1.2.2),(.slice u23.2.1.1 u23.2.1.2.1 u23.2.1.2.2)]),(.int .i64 (12:Int))]))<|J12 ()) fun(y13:Unit)=>
 ldW .slc (aD r1) fun(u24:SLC)=>
 zi (.cells #[(.slice none 0 0),(.slice none 0 0)] 30) fun(r25:Nat)=>
 zc ((#[(.slice u24.1 u24.2.1 u24.2.2),(.slice none 0 0)]:Array Value).size=2)<|
 zq (aD r25) [(.slice u24.1 u24.2.1 u24.2.2),(.slice none 0 0)]<|
 zl [.slc,.slc] (aD r25) fun(u26:(SLC×SLC×Unit))=>
 ze prog 35 [(.pointer x0),(.agg #[(.slice u26.1.1 u26.1.2.1 u26.1.2.2),(.slice u26.2.1.1 u26.2.1.2.1 u26.2.1.2.2)])] (.one (.one (.int .i64))) fun(u27:Int)=>
 za (u27 !=(0:Int)) (zc ((#[(.slice none 0 0),(.slice none 0 0)]:Array Value).size=2)<|
 zq (aD r3) [(.slice none 0 0),(.slice none 0 0)]<|
 zl [.slc,.slc] (aD r3) fun(u28:(SLC×SLC×Unit))=>K (.tuple #[(.agg #[(.slice u28.1.1 u28.1.2.1 u28.1.2.2),(.slice u28.2.1.1 u28.2.1.2.1 u28.2.1.2.2)]),(.int .i64 u27)]))<|
 zl [.slc,.slc] (aD r25) fun(u29:(SLC×SLC×Unit))=>
 ze prog 36 [(.pointer x0),(.agg #[(.slice u29.1.1 u29.1.2.1 u29.1.2.2),(.slice u29.2.1.1 u29.2.1.2.1 u29.2.1.2.2)])] (.many [(.one (.int .u32)),(.one (.int .i64))]) fun(u30:Int×Int×Unit)=>
 za (u30.2.1 !=(0:Int)) (zc ((#[(.slice none 0 0),(.slice none 0 0)]:Array Value).size=2)<|
 zq (aD r3) [(.slice none 0 0),(.slice none 0 0)]<|
 zl [.slc,.slc] (aD r3) fun(u31:(SLC×SLC×Unit))=>K (.tuple #[(.agg #[(.slice u31.1.1 u31.1.2.1 u31.1.2.2),(.slice u31.2.1.1 u31.2.1.2.1 u31.2.1.2.2)]),(.int .i64 u30.2.1)]))<|
 zl [.slc,.slc] (aD r1) fun(u32:(SLC×SLC×Unit))=>
 ze prog 37 [(.agg #[(.slice u32.1.1 u32.1.2.1 u32.1.2.2),(.slice u32.2.1.1 u32.2.1.2.1 u32.2.1.2.2)])] (.one (.agg [.slc,.slc])) fun(u33:(SLC×SLC×Unit))=>
 zi (.cells #[(.slice none 0 0),(.slice none 0 0)] 30) fun(r34:Nat)=>
 zc ((#[(.slice u33.1.1 u33.1.2.1 u33.1.2.2),(.slice u33.2.1.1 u33.2.1.2.1 u33.2.1.2.2)]:Array Value).size=2)<|
 zq (aD r34) [(.slice u33.1.1 u33.1.2.1 u33.1.2.2),(.slice u33.2.1.1 u33.2.1.2.1 u33.2.1.2.2)]<|
 ldW .slc ((aD r34).add 1) fun(u35:SLC)=>
 ldW .str (aD r2) fun(u36:ByteArray)=>
 zi (.cells #[(.string u36),(.int .u32 u30.1)] 64) fun(r37:Nat)=>
 ze prog 38 [(.slice u35.1 u35.2.1 u35.2.2),(.int .i64 y10.1),(.slice (some (aD r37)) 1 1)] (.one (.one .slc)) fun(u38:SLC)=>
 stW ((aD r34).add 1) (.slice u38.1 u38.2.1 u38.2.2)<|
 zl [.slc,.slc] (aD r34) fun(u39:(SLC×SLC×Unit))=>
 zc ((#[(.slice u39.1.1 u39.1.2.1 u39.1.2.2),(.slice u39.2.1.1 u39.2.1.2.1 u39.2.1.2.2)]:Array Value).size=2)<|
 zq (aD r3) [(.slice u39.1.1 u39.1.2.1 u39.1.2.2),(.slice u39.2.1.1 u39.2.1.2.1 u39.2.1.2.2)]<|
 zl [.slc,.slc] (aD r3) fun(u40:(SLC×SLC×Unit))=>K (.tuple #[(.agg #[(.slice u40.1.1 u40.1.2.1 u40.1.2.2),(.slice u40.2.1.1 u40.2.1.2.1 u40.2.1.2.2)]),(.int .i64 (0:Int))])
theorem zoZ (x0:Option Addr) (Au:Option Addr) (Av Aw:Nat) (Ag:Option Addr) (Ah Ai:Nat) (x2:ByteArray) {K:Value->WP} {w:World} (h:S13 x0 Au Av Aw Ag Ah Ai x2 K w):Calls prog 13 #[(.pointer x0),(.agg #[(.slice Au Av Aw),(.slice Ag Ah Ai)]),(.string x2)] w (Ret K):=cF an13 false Tryz.func13 h
def an14:Ann:=(AN (AR (.block (AN (AQ AO (AN (AQ AO AP))))) (AN (AN (AR (.block (.loop [(5,.sh (.one .slc))] [0,1000000] (AR (AN (AQ AP AP)) (.block (AN (AN (AN (AR (AN (AQ (AR (AN (AN (AQ AO AP))) AP) AP)) (AN (AR (AN (AQ AO AP)) (AR (AN (AN (AQ AO AP))) AO))))))))))) AO)))))
def S14 (x0:Option Addr) (x1:Int) (K:Value->WP):WP:=
 za (Option.isNone x0) (K (.int .i64 (1:Int)))<|
 ze prog 39 [(.pointer x0),(.int .u32 x1)] (.one (.one .bool)) fun(u1:Bool)=>
 za (!u1) (K (.int .i64 (2:Int)))<|
 zi (.cells #[(.int .u32 x1)] 39) fun(r2:Nat)=>
 zG (SLC×Unit) (((some (aD r2)),1,1),()) fun(y4:SLC×Unit) (I3:(SLC×Unit)->WP)=>
 za (decide (((y4.1.2.1:Nat):Int)>(0:Int))) (zc (0<=(wrap .i64 (((y4.1.2.1:Nat):Int)-(1:Int)))/\(wrap .i64 (((y4.1.2.1:Nat):Int)-(1:Int)))<((y4.1.2.1:Nat):Int))<|
 zh y4.1.1 fun(p5:Addr)=>
 ldW (.int .u32) (p5.add (Int.toNat (wrap .i64 (((y4.1.2.1:Nat):Int)-(1:Int)))*1)) fun(u6:Int)=>
 zc (0<=(wrap .i64 (((y4.1.2.1:Nat):Int)-(1:Int)))/\(wrap .i64 (((y4.1.2.1:Nat):Int)-(1:Int)))<=((y4.1.2.2:Nat):Int))<|
 zh x0 fun(p7:Addr)=>
 ldW .ptr (p7.add 8) fun(u8:Option Addr)=>
 ze prog 40 [(.pointer u8),(.int .u32 u6)] (.one (.one (.int .i64))) fun(u9:Int)=>
 za (u9 !=(1:Int)) (zh x0 fun(p10:Addr)=>
 ldW .ptr (p10.add 8) fun(u11:Option Addr)=>
 ze prog 41 [(.pointer u11),(.int .u32 u6)] (.many [(.one (.int .i64)),(.one (.int .i64))]) fun(u12:Int×Int×Unit)=>
 za (u12.2.1 !=(0:Int)) (K (.int .i64 u12.2.1))<|I3 (((zk y4.1.1 0 y4.1.2.2 1),(Int.toNat (wrap .i64 (((y4.1.2.1:Nat):Int)-(1:Int)))),y4.1.2.2),()))<|
 ze prog 17 [(.pointer x0),(.int .u32 u6)] (.many [(.agg [(.int .u8),.slc,.str]),(.one (.int .i64))]) fun(u13:(Int×SLC×ByteArray×Unit)×Int×Unit)=>
 zi (.cells #[(.int .u8 (0:Int)),(.slice none 0 0),(.string ByteArray.empty)] 49) fun(r14:Nat)=>
 zc ((#[(.int .u8 u13.1.1),(.slice u13.1.2.1.1 u13.1.2.1.2.1 u13.1.2.1.2.2),(.string u13.1.2.2.1)]:Array Value).size=3)<|
 zq (aD r14) [(.int .u8 u13.1.1),(.slice u13.1.2.1.1 u13.1.2.1.2.1 u13.1.2.1.2.2),(.string u13.1.2.2.1)]<|
 za (u13.2.1 !=(0:Int)) (K (.int .i64 u13.2.1))<|
 zh x0 fun(p15:Addr)=>
 ldW .ptr (p15.add 8) fun(u16:Option Addr)=>
 ze prog 41 [(.pointer u16),(.int .u32 u6)] (.many [(.one (.int .i64)),(.one (.int .i64))]) fun(u17:Int×Int×Unit)=>
 za (u17.2.1 !=(0:Int)) (K (.int .i64 u17.2.1))<|
 ldW .slc ((aD r14).add 1) fun(u18:SLC)=>
 ze prog 42 [(.slice u18.1 u18.2.1 u18.2.2)] .none fun(u19:Unit)=>
 ldW .slc ((aD r14).add 1) fun(u20:SLC)=>
 zv prog (Builtin.append_ #[47,47] 47 #[(.slice (zk y4.1.1 0 y4.1.2.2 1) (Int.toNat (wrap .i64 (((y4.1.2.1:Nat):Int)-(1:Int)))) y4.1.2.2),(.slice u20.1 u20.2.1 u20.2.2)]) .slc fun(u21:SLC)=>I3 ((u21.1,u21.2.1,u21.2.2),()))<|K (.int .i64 (0:Int))
theorem zo0 (x0:Option Addr) (x1:Int) {K:Value->WP} {w:World} (h:S14 x0 x1 K w):Calls prog 14 #[(.pointer x0),(.int .u32 x1)] w (Ret K):=cF an14 false Tryz.func14 h
def an15:Ann:=(AN (AR (AN (AQ AO AP)) (AN (AR (AN (AQ AO AP)) (AN (AR (AN (AQ AO AP)) AO))))))
def S15 (x0:Option Addr) (Au:Option Addr) (Av Aw:Nat) (Ag:Option Addr) (Ah Ai:Nat) (x2:ByteArray) (K:Value->WP):WP:=
 zi (.cells #[(.slice Au Av Aw),(.slice Ag Ah Ai)] 30) fun(r1:Nat)=>
 za (x2.toList==(ByteArray.mk #[]).toList) (zl [.slc,.slc] (aD r1) fun(u2:(SLC×SLC×Unit))=>
 ze prog 37 [(.agg #[(.slice u2.1.1 u2.1.2.1 u2.1.2.2),(.slice u2.2.1.1 u2.2.1.2.1 u2.2.1.2.2)])] (.one (.agg [.slc,.slc])) fun(u3:(SLC×SLC×Unit))=>K (.tuple #[(.slice u3.1.1 u3.1.2.1 u3.1.2.2),(.int .i64 (0:Int))]))<|
 zl [.slc,.slc] (aD r1) fun(u4:(SLC×SLC×Unit))=>
 ze prog 23 [(.agg #[(.slice u4.1.1 u4.1.2.1 u4.1.2.2),(.slice u4.2.1.1 u4.2.1.2.1 u4.2.1.2.2)]),(.string x2)] (.many [(.one (.int .i64)),(.one (.int .i64))]) fun(u5:Int×Int×Unit)=>
 za (u5.2.1 !=(0:Int)) (K (.tuple #[(.slice none 0 0),(.int .i64 u5.2.1)]))<|
 ldW .slc ((aD r1).add 1) fun(u6:SLC)=>
 zc (0<=u5.1/\u5.1<((u6.2.1:Nat):Int))<|
 zh u6.1 fun(p7:Addr)=>
 ldW (.int .u32) ((p7.add (Int.toNat u5.1*2)).add 1) fun(u8:Int)=>
 ze prog 43 [(.pointer x0),(.int .u32 u8)] (.many [(.agg [.slc,.slc]),(.one (.int .i64))]) fun(u9:(SLC×SLC×Unit)×Int×Unit)=>
 zi (.cells #[(.slice none 0 0),(.slice none 0 0)] 30) fun(r10:Nat)=>
 zc ((#[(.slice u9.1.1.1 u9.1.1.2.1 u9.1.1.2.2),(.slice u9.1.2.1.1 u9.1.2.1.2.1 u9.1.2.1.2.2)]:Array Value).size=2)<|
 zq (aD r10) [(.slice u9.1.1.1 u9.1.1.2.1 u9.1.1.2.2),(.slice u9.1.2.1.1 u9.1.2.1.2.1 u9.1.2.1.2.2)]<|
 za (u9.2.1 !=(0:Int)) (K (.tuple #[(.slice none 0 0),(.int .i64 u9.2.1)]))<|
 ldW .slc (aD r10) fun(u11:SLC)=>K (.tuple #[(.slice u11.1 u11.2.1 u11.2.2),(.int .i64 (0:Int))])
theorem zo1 (x0:Option Addr) (Au:Option Addr) (Av Aw:Nat) (Ag:Option Addr) (Ah Ai:Nat) (x2:ByteArray) {K:Value->WP} {w:World} (h:S15 x0 Au Av Aw Ag Ah Ai x2 K w):Calls prog 15 #[(.pointer x0),(.agg #[(.slice Au Av Aw),(.slice Ag Ah Ai)]),(.string x2)] w (Ret K):=cF an15 false Tryz.func15 h
def an16:Ann:=(AN (AR (AN (AQ AO AP)) (AR (AN (.block (.loop [(5,.sh (.one (.int .i64)))] [2,3,1000000] (AR (AN (AQ AP AP)) (AR (.block (AN (AR (AN (AQ AO AP)) (AN (.block (.loop [(8,.sh (.one (.int .i64)))] [2,3,5,6,7,1000000] (AR (AN (AQ AP AP)) (AR (.block (AN (AQ AO AP))) AP)))))))) AP))))) (AR (AN (.block (.loop [(9,.sh (.one (.int .i64)))] [2,3,1000000] (AR (AN (AQ AP AP)) (AR (.block (AN (AQ AO AP))) AP))))) AO))))
def S16 (Aj:Option Addr) (Ak Al:Nat) (Ab:Option Addr) (Ac Ae:Nat) (Au:Option Addr) (Av Aw:Nat) (Ag:Option Addr) (Ah Ai:Nat) (K:Value->WP):WP:=
 zi (.cells #[(.slice Aj Ak Al),(.slice Ab Ac Ae)] 30) fun(r1:Nat)=>
 zi (.cells #[(.slice Au Av Aw),(.slice Ag Ah Ai)] 30) fun(r2:Nat)=>
 ldW .slc (aD r1) fun(u3:SLC)=>
 ldW .slc (aD r2) fun(u4:SLC)=>
 za (((u3.2.1:Nat):Int) !=((u4.2.1:Nat):Int)) (K (.bool false))<|
 ldW .slc ((aD r1).add 1) fun(u5:SLC)=>
 ldW .slc ((aD r2).add 1) fun(u6:SLC)=>
 za (((u5.2.1:Nat):Int) !=((u6.2.1:Nat):Int)) (K (.bool false))<|
 zG (Int×Unit) ((0:Int),()) fun(y8:Int×Unit) (I7:(Int×Unit)->WP)=>
 ldW .slc (aD r1) fun(u9:SLC)=>
 za (decide (y8.1<((u9.2.1:Nat):Int))) (zB<|
 ldW .slc (aD r1) fun(u10:SLC)=>
 zc (0<=y8.1/\y8.1<((u10.2.1:Nat):Int))<|
 zh u10.1 fun(p11:Addr)=>
 zl [.str,.slc,(.int .u32),(.int .u64),(.int .i64)] (p11.add (Int.toNat y8.1*5)) fun(u12:(ByteArray×SLC×Int×Int×Int×Unit))=>
 ldW .slc (aD r2) fun(u13:SLC)=>
 zc (0<=y8.1/\y8.1<((u13.2.1:Nat):Int))<|
 zh u13.1 fun(p14:Addr)=>
 zl [.str,.slc,(.int .u32),(.int .u64),(.int .i64)] (p14.add (Int.toNat y8.1*5)) fun(u15:(ByteArray×SLC×Int×Int×Int×Unit))=>
 kI (zi (.cells #[(.string ByteArray.empty),(.slice none 0 0),(.int .u32 (0:Int)),(.int .u64 (0:Int)),(.int .i64 (0:Int))] 42) fun(r16:Nat)=>
 zt [[((p14.add (Int.toNat y8.1*5)).add 0,(.string u15.1)),((p14.add (Int.toNat y8.1*5)).add 1,(.slice u15.2.1.1 u15.2.1.2.1 u15.2.1.2.2)),((p14.add (Int.toNat y8.1*5)).add 2,(.int .u32 u15.2.2.1)),((p14.add (Int.toNat y8.1*5)).add 3,(.int .u64 u15.2.2.2.1)),((p14.add (Int.toNat y8.1*5)).add 4,(.int .i64 u15.2.2.2.2.1))],[((aD r2),(.slice u13.1 u13.2.1 u13.2.2))],[((p11.add (Int.toNat y8.1*5)).add 0,(.string u12.1)),((p11.add (Int.toNat y8.1*5)).add 1,(.slice u12.2.1.1 u12.2.1.2.1 u12.2.1.2.2)),((p11.add (Int.toNat y8.1*5)).add 2,(.int .u32 u12.2.2.1)),((p11.add (Int.toNat y8.1*5)).add 3,(.int .u64 u12.2.2.2.1)),((p11.add (Int.toNat y8.1*5)).add 4,(.int .i64 u12.2.2.2.2.1))],[((aD r1),(.slice u10.1 u10.2.1 u10.2.2))]]<|
 zi (.cells #[(.string ByteArray.empty),(.slice none 0 0),(.int .u32 (0:Int)),(.int .u64 (0:Int)),(.int .i64 (0:Int))] 42) fun(r17:Nat)=>
 zt [[((p14.add (Int.toNat y8.1*5)).add 0,(.string u15.1)),((p14.add (Int.toNat y8.1*5)).add 1,(.slice u15.2.1.1 u15.2.1.2.1 u15.2.1.2.2)),((p14.add (Int.toNat y8.1*5)).add 2,(.int .u32 u15.2.2.1)),((p14.add (Int.toNat y8.1*5)).add 3,(.int .u64 u15.2.2.2.1)),((p14.add (Int.toNat y8.1*5)).add 4,(.int .i64 u15.2.2.2.2.1))],[((aD r2),(.slice u13.1 u13.2.1 u13.2.2))],[((p11.add (Int.toNat y8.1*5)).add 0,(.string u12.1)),((p11.add (Int.toNat y8.1*5)).add 1,(.slice u12.2.1.1 u12.2.1.2.1 u12.2.1.2.2)),((p11.add (Int.toNat y8.1*5)).add 2,(.int .u32 u12.2.2.1)),((p11.add (Int.toNat y8.1*5)).add 3,(.int .u64 u12.2.2.2.1)),((p11.add (Int.toNat y8.1*5)).add 4,(.int .i64 u12.2.2.2.2.1))],[((aD r1),(.slice u10.1 u10.2.1 u10.2.2))]]<|
 zc ((#[(.string u12.1),(.slice u12.2.1.1 u12.2.1.2.1 u12.2.1.2.2),(.int .u32 u12.2.2.1),(.int .u64 u12.2.2.2.1),(.int .i64 u12.2.2.2.2.1)]:Array Value).size=5)<|
 zq (aD r16) [(.string u12.1),(.slice u12.2.1.1 u12.2.1.2.1 u12.2.1.2.2),(.int .u32 u12.2.2.1),(.int .u64 u12.2.2.2.1),(.int .i64 u12.2.2.2.2.1)]<|
 zt [[((p14.add (Int.toNat y8.1*5)).add 0,(.string u15.1)),((p14.add (Int.toNat y8.1*5)).add 1,(.slice u15.2.1.1 u15.2.1.2.1 u15.2.1.2.2)),((p14.add (Int.toNat y8.1*5)).add 2,(.int .u32 u15.2.2.1)),((p14.add (Int.toNat y8.1*5)).add 3,(.int .u64 u15.2.2.2.1)),((p14.add (Int.toNat y8.1*5)).add 4,(.int .i64 u15.2.2.2.2.1))],[((aD r2),(.slice u13.1 u13.2.1 u13.2.2))]]<|
 zc ((#[(.string u15.1),(.slice u15.2.1.1 u15.2.1.2.1 u15.2.1.2.2),(.int .u32 u15.2.2.1),(.int .u64 u15.2.2.2.1),(.int .i64 u15.2.2.2.2.1)]:Array Value).size=5)<|
 zq (aD r17) [(.string u15.1),(.slice u15.2.1.1 u15.2.1.2.1 u15.2.1.2.2),(.int .u32 u15.2.2.1),(.int .u64 u15.2.2.2.1),(.int .i64 u15.2.2.2.2.1)]<|
 ldW .str (aD r16) fun(u18:ByteArray)=>
 ldW .str (aD r17) fun(u19:ByteArray)=>
 za (!(u18.toList==u19.toList)) (K (.bool false))<|
 ldW (.int .u32) ((aD r16).add 2) fun(u20:Int)=>
 ldW (.int .u32) ((aD r17).add 2) fun(u21:Int)=>
 za (u20 !=u21) (K (.bool false))<|
 ldW (.int .u64) ((aD r16).add 3) fun(u22:Int)=>
 ldW (.int .u64) ((aD r17).add 3) fun(u23:Int)=>
 za (u22 !=u23) (K (.bool false))<|
 ldW (.int .i64) ((aD r16).add 4) fun(u24:Int)=>
 ldW (.int .i64) ((aD r17).add 4) fun(u25:Int)=>
 za (u24 !=u25) (K (.bool false))<|
 ldW .slc ((aD r16).add 1) fun(u26:SLC)=>
 ldW .slc ((aD r17).add 1) fun(u27:SLC)=>
 za (((u26.2.1:Nat):Int) !=((u27.2.1:Nat):Int)) (K (.bool false))<|
 zG (Int×Unit) ((0:Int),()) fun(y29:Int×Unit) (I28:(Int×Unit)->WP)=>
 ldW .slc ((aD r16).add 1) fun(u30:SLC)=>
 za (decide (y29.1<((u30.2.1:Nat):Int))) (zB<|
 ldW .slc ((aD r16).add 1) fun(u31:SLC)=>
 zc (0<=y29.1/\y29.1<((u31.2.1:Nat):Int))<|
 zh u31.1 fun(p32:Addr)=>
 zl [.str,(.int .i64),.bool] (p32.add (Int.toNat y29.1*3)) fun(u33:(ByteArray×Int×Bool×Unit))=>
 ldW .slc ((aD r17).add 1) fun(u34:SLC)=>
 zc (0<=y29.1/\y29.1<((u34.2.1:Nat):Int))<|
 zh u34.1 fun(p35:Addr)=>
 zl [.str,(.int .i64),.bool] (p35.add (Int.toNat y29.1*3)) fun(u36:(ByteArray×Int×Bool×Unit))=>
 eqW prog (eqS .neq 95 (.tmp 89) (.tmp 94) (.agg #[(.string u33.1),(.int .i64 u33.2.1),(.bool u33.2.2.1)]) (.agg #[(.string u36.1),(.int .i64 u36.2.1),(.bool u36.2.2.1)])) fun(b37:Bool)=>
 za b37 (K (.bool false))<|I28 ((wrap .i64 (y29.1+(1:Int))),()))<|I7 ((wrap .i64 (y8.1+(1:Int))),()))<|
 zi (.cells #[(.string ByteArray.empty),(.slice none 0 0),(.int .u32 (0:Int)),(.int .u64 (0:Int)),(.int .i64 (0:Int))] 42) fun(r38:Nat)=>
 zt [[((p14.add (Int.toNat y8.1*5)).add 0,(.string u15.1)),((p14.add (Int.toNat y8.1*5)).add 1,(.slice u15.2.1.1 u15.2.1.2.1 u15.2.1.2.2)),((p14.add (Int.toNat y8.1*5)).add 2,(.int .u32 u15.2.2.1)),((p14.add (Int.toNat y8.1*5)).add 3,(.int .u64 u15.2.2.2.1)),((p14.add (Int.toNat y8.1*5)).add 4,(.int .i64 u15.2.2.2.2.1))],[((aD r2),(.slice u13.1 u13.2.1 u13.2.2))],[((p11.add (Int.toNat y8.1*5)).add 0,(.string u12.1)),((p11.add (Int.toNat y8.1*5)).add 1,(.slice u12.2.1.1 u12.2.1.2.1 u12.2.1.2.2)),((p11.add (Int.toNat y8.1*5)).add 2,(.int .u32 u12.2.2.1)),((p11.add (Int.toNat y8.1*5)).add 3,(.int .u64 u12.2.2.2.1)),((p11.add (Int.toNat y8.1*5)).add 4,(.int .i64 u12.2.2.2.2.1))],[((aD r1),(.slice u10.1 u10.2.1 u10.2.2))]]<|
 zi (.cells #[(.string ByteArray.empty),(.slice none 0 0),(.int .u32 (0:Int)),(.int .u64 (0:Int)),(.int .i64 (0:Int))] 42) fun(r39:Nat)=>
 zt [[((p14.add (Int.toNat y8.1*5)).add 0,(.string u15.1)),((p14.add (Int.toNat y8.1*5)).add 1,(.slice u15.2.1.1 u15.2.1.2.1 u15.2.1.2.2)),((p14.add (Int.toNat y8.1*5)).add 2,(.int .u32 u15.2.2.1)),((p14.add (Int.toNat y8.1*5)).add 3,(.int .u64 u15.2.2.2.1)),((p14.add (Int.toNat y8.1*5)).add 4,(.int .i64 u15.2.2.2.2.1))],[((aD r2),(.slice u13.1 u13.2.1 u13.2.2))],[((p11.add (Int.toNat y8.1*5)).add 0,(.string u12.1)),((p11.add (Int.toNat y8.1*5)).add 1,(.slice u12.2.1.1 u12.2.1.2.1 u12.2.1.2.2)),((p11.add (Int.toNat y8.1*5)).add 2,(.int .u32 u12.2.2.1)),((p11.add (Int.toNat y8.1*5)).add 3,(.int .u64 u12.2.2.2.1)),((p11.add (Int.toNat y8.1*5)).add 4,(.int .i64 u12.2.2.2.2.1))],[((aD r1),(.slice u10.1 u10.2.1 u10.2.2))]]<|
 zc ((#[(.string u12.1),(.slice u12.2.1.1 u12.2.1.2.1 u12.2.1.2.2),(.int .u32 u12.2.2.1),(.int .u64 u12.2.2.2.1),(.int .i64 u12.2.2.2.2.1)]:Array Value).size=5)<|
 zq (aD r39) [(.string u12.1),(.slice u12.2.1.1 u12.2.1.2.1 u12.2.1.2.2),(.int .u32 u12.2.2.1),(.int .u64 u12.2.2.2.1),(.int .i64 u12.2.2.2.2.1)]<|
 zt [[((p14.add (Int.toNat y8.1*5)).add 0,(.string u15.1)),((p14.add (Int.toNat y8.1*5)).add 1,(.slice u15.2.1.1 u15.2.1.2.1 u15.2.1.2.2)),((p14.add (Int.toNat y8.1*5)).add 2,(.int .u32 u15.2.2.1)),((p14.add (Int.toNat y8.1*5)).add 3,(.int .u64 u15.2.2.2.1)),((p14.add (Int.toNat y8.1*5)).add 4,(.int .i64 u15.2.2.2.2.1))],[((aD r2),(.slice u13.1 u13.2.1 u13.2.2))]]<|
 zc ((#[(.string u15.1),(.slice u15.2.1.1 u15.2.1.2.1 u15.2.1.2.2),(.int .u32 u15.2.2.1),(.int .u64 u15.2.2.2.1),(.int .i64 u15.2.2.2.2.1)]:Array Value).size=5)<|
 zq (aD r38) [(.string u15.1),(.slice u15.2.1.1 u15.2.1.2.1 u15.2.1.2.2),(.int .u32 u15.2.2.1),(.int .u64 u15.2.2.2.1),(.int .i64 u15.2.2.2.2.1)]<|
 ldW .str (aD r39) fun(u40:ByteArray)=>
 ldW .str (aD r38) fun(u41:ByteArray)=>
 za (!(u40.toList==u41.toList)) (K (.bool false))<|
 ldW (.int .u32) ((aD r39).add 2) fun(u42:Int)=>
 ldW (.int .u32) ((aD r38).add 2) fun(u43:Int)=>
 za (u42 !=u43) (K (.bool false))<|
 ldW (.int .u64) ((aD r39).add 3) fun(u44:Int)=>
 ldW (.int .u64) ((aD r38).add 3) fun(u45:Int)=>
 za (u44 !=u45) (K (.bool false))<|
 ldW (.int .i64) ((aD r39).add 4) fun(u46:Int)=>
 ldW (.int .i64) ((aD r38).add 4) fun(u47:Int)=>
 za (u46 !=u47) (K (.bool false))<|
 ldW .slc ((aD r39).add 1) fun(u48:SLC)=>
 ldW .slc ((aD r38).add 1) fun(u49:SLC)=>
 za (((u48.2.1:Nat):Int) !=((u49.2.1:Nat):Int)) (K (.bool false))<|
 zG (Int×Unit) ((0:Int),()) fun(y51:Int×Unit) (I50:(Int×Unit)->WP)=>
 ldW .slc ((aD r39).add 1) fun(u52:SLC)=>
 za (decide (y51.1<((u52.2.1:Nat):Int))) (zB<|
 ldW .slc ((aD r39).add 1) fun(u53:SLC)=>
 zc (0<=y51.1/\y51.1<((u53.2.1:Nat):Int))<|
 zh u53.1 fun(p54:Addr)=>
 zl [.str,(.int .i64),.bool] (p54.add (Int.toNat y51.1*3)) fun(u55:(ByteArray×Int×Bool×Unit))=>
 ldW .slc ((aD r38).add 1) fun(u56:SLC)=>
 zc (0<=y51.1/\y51.1<((u56.2.1:Nat):Int))<|
 zh u56.1 fun(p57:Addr)=>
 zl [.str,(.int .i64),.bool] (p57.add (Int.toNat y51.1*3)) fun(u58:(ByteArray×Int×Bool×Unit))=>
 eqW prog (eqS .neq 95 (.tmp 89) (.tmp 94) (.agg #[(.string u55.1),(.int .i64 u55.2.1),(.bool u55.2.2.1)]) (.agg #[(.string u58.1),(.int .i64 u58.2.1),(.bool u58.2.2.1)])) fun(b59:Bool)=>
 za b59 (K (.bool false))<|I50 ((wrap .i64 (y51.1+(1:Int))),()))<|I7 ((wrap .i64 (y8.1+(1:Int))),()))<|
 zG (Int×Unit) ((0:Int),()) fun(y61:Int×Unit) (I60:(Int×Unit)->WP)=>
 ldW .slc ((aD r1).add 1) fun(u62:SLC)=>
 za (decide (y61.1<((u62.2.1:Nat):Int))) (zB<|
 ldW .slc ((aD r1).add 1) fun(u63:SLC)=>
 zc (0<=y61.1/\y61.1<((u63.2.1:Nat):Int))<|
 zh u63.1 fun(p64:Addr)=>
 zl [.str,(.int .u32)] (p64.add (Int.toNat y61.1*2)) fun(u65:(ByteArray×Int×Unit))=>
 ldW .slc ((aD r2).add 1) fun(u66:SLC)=>
 zc (0<=y61.1/\y61.1<((u66.2.1:Nat):Int))<|
 zh u66.1 fun(p67:Addr)=>
 zl [.str,(.int .u32)] (p67.add (Int.toNat y61.1*2)) fun(u68:(ByteArray×Int×Unit))=>
 eqW prog (eqS .neq 64 (.tmp 107) (.tmp 112) (.agg #[(.string u65.1),(.int .u32 u65.2.1)]) (.agg #[(.string u68.1),(.int .u32 u68.2.1)])) fun(b69:Bool)=>
 za b69 (K (.bool false))<|I60 ((wrap .i64 (y61.1+(1:Int))),()))<|K (.bool true)
theorem zo2 (Aj:Option Addr) (Ak Al:Nat) (Ab:Option Addr) (Ac Ae:Nat) (Au:Option Addr) (Av Aw:Nat) (Ag:Option Addr) (Ah Ai:Nat) {K:Value->WP} {w:World} (h:S16 Aj Ak Al Ab Ac Ae Au Av Aw Ag Ah Ai K w):Calls prog 16 #[(.agg #[(.slice Aj Ak Al),(.slice Ab Ac Ae)]),(.agg #[(.slice Au Av Aw),(.slice Ag Ah Ai)])] w (Ret K):=cF an16 false Tryz.func16 h
def an17:Ann:=(AN (AR (.block (AN (AQ AO (AN (AQ AO (AN (AQ AO AP))))))) (AN (AR (AN (AQ AO AP)) AO))))
def S17 (x0:Option Addr) (x1:Int) (K:Value->WP):WP:=
 zi (.cells #[(.int .u8 (0:Int)),(.slice none 0 0),(.string ByteArray.empty)] 49) fun(r1:Nat)=>
 za (Option.isNone x0) (zc ((#[(.int .u8 (0:Int)),(.slice none 0 0),(.string ByteArray.empty)]:Array Value).size=3)<|
 zq (aD r1) [(.int .u8 (0:Int)),(.slice none 0 0),(.string ByteArray.empty)]<|
 zl [(.int .u8),.slc,.str] (aD r1) fun(u2:(Int×SLC×ByteArray×Unit))=>K (.tuple #[(.agg #[(.int .u8 u2.1),(.slice u2.2.1.1 u2.2.1.2.1 u2.2.1.2.2),(.string u2.2.2.1)]),(.int .i64 (1:Int))]))<|
 ze prog 39 [(.pointer x0),(.int .u32 x1)] (.one (.one .bool)) fun(u3:Bool)=>
 za (!u3) (zc ((#[(.int .u8 (0:Int)),(.slice none 0 0),(.string ByteArray.empty)]:Array Value).size=3)<|
 zq (aD r1) [(.int .u8 (0:Int)),(.slice none 0 0),(.string ByteArray.empty)]<|
 zl [(.int .u8),.slc,.str] (aD r1) fun(u4:(Int×SLC×ByteArray×Unit))=>K (.tuple #[(.agg #[(.int .u8 u4.1),(.slice u4.2.1.1 u4.2.1.2.1 u4.2.1.2.2),(.string u4.2.2.1)]),(.int .i64 (2:Int))]))<|
 zh x0 fun(p5:Addr)=>
 ldW .ptr (p5.add 8) fun(u6:Option Addr)=>
 ze prog 40 [(.pointer u6),(.int .u32 x1)] (.one (.one (.int .i64))) fun(u7:Int)=>
 za (u7==(0:Int)) (zc ((#[(.int .u8 (0:Int)),(.slice none 0 0),(.string ByteArray.empty)]:Array Value).size=3)<|
 zq (aD r1) [(.int .u8 (0:Int)),(.slice none 0 0),(.string ByteArray.empty)]<|
 zl [(.int .u8),.slc,.str] (aD r1) fun(u8:(Int×SLC×ByteArray×Unit))=>K (.tuple #[(.agg #[(.int .u8 u8.1),(.slice u8.2.1.1 u8.2.1.2.1 u8.2.1.2.2),(.string u8.2.2.1)]),(.int .i64 (8:Int))]))<|
 zh x0 fun(p9:Addr)=>
 ldW .ptr p9 fun(u10:Option Addr)=>
 ze prog 44 [(.pointer u10),(.int .i64 (wrap .i64 x1))] (.many [(.one .str),(.one (.int .i64))]) fun(u11:ByteArray×Int×Unit)=>
 za (u11.2.1 !=(0:Int)) (zc ((#[(.int .u8 (0:Int)),(.slice none 0 0),(.string ByteArray.empty)]:Array Value).size=3)<|
 zq (aD r1) [(.int .u8 (0:Int)),(.slice none 0 0),(.string ByteArray.empty)]<|
 zl [(.int .u8),.slc,.str] (aD r1) fun(u12:(Int×SLC×ByteArray×Unit))=>K (.tuple #[(.agg #[(.int .u8 u12.1),(.slice u12.2.1.1 u12.2.1.2.1 u12.2.1.2.2),(.string u12.2.2.1)]),(.int .i64 u11.2.1)]))<|
 ze prog 45 [(.pointer x0),(.string u11.1)] (.many [(.agg [(.int .u8),.slc,.str]),(.one (.int .i64))]) fun(u13:(Int×SLC×ByteArray×Unit)×Int×Unit)=>
 zc ((#[(.int .u8 u13.1.1),(.slice u13.1.2.1.1 u13.1.2.1.2.1 u13.1.2.1.2.2),(.string u13.1.2.2.1)]:Array Value).size=3)<|
 zq (aD r1) [(.int .u8 u13.1.1),(.slice u13.1.2.1.1 u13.1.2.1.2.1 u13.1.2.1.2.2),(.string u13.1.2.2.1)]<|
 zl [(.int .u8),.slc,.str] (aD r1) fun(u14:(Int×SLC×ByteArray×Unit))=>K (.tuple #[(.agg #[(.int .u8 u14.1),(.slice u14.2.1.1 u14.2.1.2.1 u14.2.1.2.2),(.string u14.2.2.1)]),(.int .i64 u13.2.1)])
theorem zo3 (x0:Option Addr) (x1:Int) {K:Value->WP} {w:World} (h:S17 x0 x1 K w):Calls prog 17 #[(.pointer x0),(.int .u32 x1)] w (Ret K):=cF an17 false Tryz.func17 h
def an18:Ann:=(AN (AR (AN (AQ AO AP)) AO))
def S18 (x0:Option Addr) (x1:Int) (K:Value->WP):WP:=
 za (Option.isNone x0) (K (.int .i64 (0:Int)))<|
 zh x0 fun(p1:Addr)=>
 ldW .ptr (p1.add 8) fun(u2:Option Addr)=>
 ze prog 40 [(.pointer u2),(.int .u32 x1)] (.one (.one (.int .i64))) fun(u3:Int)=>K (.int .i64 u3)
theorem zo4 (x0:Option Addr) (x1:Int) {K:Value->WP} {w:World} (h:S18 x0 x1 K w):Calls prog 18 #[(.pointer x0),(.int .u32 x1)] w (Ret K):=cF an18 false Tryz.func18 h
def an19:Ann:=(AN (AN (AR (AN (AQ AO AP)) (.join [] [4,6,8,1000000] (AN (AN (AQ (AN (AN (AQ AO AP))) AP))) (AN (AN AO))))))
def S19 (x0:Option Addr) (Au:Option Addr) (Av Aw:Nat) (Ag:Option Addr) (Ah Ai:Nat) (x2:ByteArray) (K:Value->WP):WP:=
 zi (.cells #[(.slice Au Av Aw),(.slice Ag Ah Ai)] 30) fun(r1:Nat)=>
 zi (.cells #[(.slice none 0 0),(.slice none 0 0)] 30) fun(r2:Nat)=>
 zl [.slc,.slc] (aD r1) fun(u3:(SLC×SLC×Unit))=>
 ze prog 23 [(.agg #[(.slice u3.1.1 u3.1.2.1 u3.1.2.2),(.slice u3.2.1.1 u3.2.1.2.1 u3.2.1.2.2)]),(.string x2)] (.many [(.one (.int .i64)),(.one (.int .i64))]) fun(u4:Int×Int×Unit)=>
 za (u4.2.1 !=(0:Int)) (zc ((#[(.slice none 0 0),(.slice none 0 0)]:Array Value).size=2)<|
 zq (aD r2) [(.slice none 0 0),(.slice none 0 0)]<|
 zl [.slc,.slc] (aD r2) fun(u5:(SLC×SLC×Unit))=>K (.tuple #[(.agg #[(.slice u5.1.1 u5.1.2.1 u5.1.2.2),(.slice u5.2.1.1 u5.2.1.2.1 u5.2.1.2.2)]),(.int .i64 u4.2.1)]))<|
 yV (Unit) (fun(J6:(Unit)->WP)=>
 ldW .slc ((aD r1).add 1) fun(u8:SLC)=>
 zc (0<=u4.1/\u4.1<((u8.2.1:Nat):Int))<|
 zh u8.1 fun(p9:Addr)=>
 ldW (.int .u32) ((p9.add (Int.toNat u4.1*2)).add 1) fun(u10:Int)=>
 za (u10 !=(0:Int)) (ze prog 14 [(.pointer x0),(.int .u32 u10)] (.one (.one (.int .i64))) fun(u11:Int)=>
 za (u11 !=(0:Int)) (zc ((#[(.slice none 0 0),(.slice none 0 0)]:Array Value).size=2)<|
 zq (aD r2) [(.slice none 0 0),(.slice none 0 0)]<|
 zl [.slc,.slc] (aD r2) fun(u12:(SLC×SLC×Unit))=>K (.tuple #[(.agg #[(.slice u12.1.1 u12.1.2.1 u12.1.2.2),(.slice u12.2.1.1 u12.2.1.2.1 u12.2.1.2.2)]),(.int .i64 u11)]))<|J6 ())<|J6 ()) fun(y7:Unit)=>
 zl [.slc,.slc] (aD r1) fun(u13:(SLC×SLC×Unit))=>
 ze prog 37 [(.agg #[(.slice u13.1.1 u13.1.2.1 u13.1.2.2),(.slice u13.2.1.1 u13.2.1.2.1 u13.2.1.2.2)])] (.one (.agg [.slc,.slc])) fun(u14:(SLC×SLC×Unit))=>
 zi (.cells #[(.slice none 0 0),(.slice none 0 0)] 30) fun(r15:Nat)=>
 zc ((#[(.slice u14.1.1 u14.1.2.1 u14.1.2.2),(.slice u14.2.1.1 u14.2.1.2.1 u14.2.1.2.2)]:Array Value).size=2)<|
 zq (aD r15) [(.slice u14.1.1 u14.1.2.1 u14.1.2.2),(.slice u14.2.1.1 u14.2.1.2.1 u14.2.1.2.2)]<|
 ldW .slc ((aD r15).add 1) fun(u16:SLC)=>
 ze prog 46 [(.slice u16.1 u16.2.1 u16.2.2),(.int .i64 u4.1),(.int .i64 (wrap .i64 (u4.1+(1:Int))))] (.one (.one .slc)) fun(u17:SLC)=>
 stW ((aD r15).add 1) (.slice u17.1 u17.2.1 u17.2.2)<|
 zl [.slc,.slc] (aD r15) fun(u18:(SLC×SLC×Unit))=>
 zc ((#[(.slice u18.1.1 u18.1.2.1 u18.1.2.2),(.slice u18.2.1.1 u18.2.1.2.1 u18.2.1.2.2)]:Array Value).size=2)<|
 zq (aD r2) [(.slice u18.1.1 u18.1.2.1 u18.1.2.2),(.slice u18.2.1.1 u18.2.1.2.1 u18.2.1.2.2)]<|
 zl [.slc,.slc] (aD r2) fun(u19:(SLC×SLC×Unit))=>K (.tuple #[(.agg #[(.slice u19.1.1 u19.1.2.1 u19.1.2.2),(.slice u19.2.1.1 u19.2.1.2.1 u19.2.1.2.2)]),(.int .i64 (0:Int))])
theorem zo5 (x0:Option Addr) (Au:Option Addr) (Av Aw:Nat) (Ag:Option Addr) (Ah Ai:Nat) (x2:ByteArray) {K:Value->WP} {w:World} (h:S19 x0 Au Av Aw Ag Ah Ai x2 K w):Calls prog 19 #[(.pointer x0),(.agg #[(.slice Au Av Aw),(.slice Ag Ah Ai)]),(.string x2)] w (Ret K):=cF an19 false Tryz.func19 h
def an20:Ann:=(AN (AN (AR (AN (AQ AO AP)) (AR (AN (AQ AO AP)) AO))))
def S20 (x0:Option Addr) (a1:Option Addr) (n1 c1:Nat) (K:Value->WP):WP:=
 ze prog 47 [(.pointer x0),(.slice a1 n1 c1)] (.many [(.one .slc),(.one (.int .i64))]) fun(u1:SLC×Int×Unit)=>
 za (u1.2.1 !=(0:Int)) (K (.int .i64 u1.2.1))<|
 zh x0 fun(p2:Addr)=>
 ldW .ptr (p2.add 8) fun(u3:Option Addr)=>
 ze prog 49 [(.pointer u3)] (.one (.one .slc)) fun(u4:SLC)=>
 ze prog 48 [(.slice u1.1.1 u1.1.2.1 u1.1.2.2),(.slice u4.1 u4.2.1 u4.2.2)] (.one (.one .bool)) fun(u5:Bool)=>
 za (!u5) (K (.int .i64 (8:Int)))<|K (.int .i64 (0:Int))
theorem zo6 (x0:Option Addr) (a1:Option Addr) (n1 c1:Nat) {K:Value->WP} {w:World} (h:S20 x0 a1 n1 c1 K w):Calls prog 20 #[(.pointer x0),(.slice a1 n1 c1)] w (Ret K):=cF an20 false Tryz.func20 h
def an21:Ann:=(AN (AR (AN (AQ AO AP)) (AR (AN (.block (.loop [(5,.sh (.one (.int .i64)))] [0,1,1000000] (AR (AN (AQ AP AP)) (AR (.block (AN (AQ AO AP))) AP))))) AO)))
def S21 (a0:Option Addr) (n0 c0:Nat) (a1:Option Addr) (n1 c1:Nat) (K:Value->WP):WP:=
 za (((n0:Nat):Int) !=((n1:Nat):Int)) (K (.bool false))<|
 zG (Int×Unit) ((0:Int),()) fun(y2:Int×Unit) (I1:(Int×Unit)->WP)=>
 za (decide (y2.1<((n0:Nat):Int))) (zB<|
 zc (0<=y2.1/\y2.1<((n0:Nat):Int))<|
 zh a0 fun(p3:Addr)=>
 ldW .str (p3.add (Int.toNat y2.1*1)) fun(u4:ByteArray)=>
 zc (0<=y2.1/\y2.1<((n1:Nat):Int))<|
 zh a1 fun(p5:Addr)=>
 ldW .str (p5.add (Int.toNat y2.1*1)) fun(u6:ByteArray)=>
 za (!(u4.toList==u6.toList)) (K (.bool false))<|I1 ((wrap .i64 (y2.1+(1:Int))),()))<|K (.bool true)
theorem zo7 (a0:Option Addr) (n0 c0:Nat) (a1:Option Addr) (n1 c1:Nat) {K:Value->WP} {w:World} (h:S21 a0 n0 c0 a1 n1 c1 K w):Calls prog 21 #[(.slice a0 n0 c0),(.slice a1 n1 c1)] w (Ret K):=cF an21 false Tryz.func21 h
def an22:Ann:=(AN AO)
def S22 (Aj:Option Addr) (Ak Al:Nat) (Ab:Option Addr) (Ac Ae:Nat) (K:Value->WP):WP:=
 zi (.cells #[(.slice Aj Ak Al),(.slice Ab Ac Ae)] 30) fun(r1:Nat)=>
 ldW .slc ((aD r1).add 1) fun(u2:SLC)=>
 ze prog 50 [(.slice u2.1 u2.2.1 u2.2.2),(.func (.func 51) #[] #[])] (.one (.one .slc)) fun(u3:SLC)=>K (.slice u3.1 u3.2.1 u3.2.2)
theorem zo8 (Aj:Option Addr) (Ak Al:Nat) (Ab:Option Addr) (Ac Ae:Nat) {K:Value->WP} {w:World} (h:S22 Aj Ak Al Ab Ac Ae K w):Calls prog 22 #[(.agg #[(.slice Aj Ak Al),(.slice Ab Ac Ae)])] w (Ret K):=cF an22 false Tryz.func22 h
def an23:Ann:=(AN (AN (AR (AN (AQ AO AP)) AO)))
def S23 (Aj:Option Addr) (Ak Al:Nat) (Ab:Option Addr) (Ac Ae:Nat) (x1:ByteArray) (K:Value->WP):WP:=
 zi (.cells #[(.slice Aj Ak Al),(.slice Ab Ac Ae)] 30) fun(r1:Nat)=>
 zi (.cells #[(.string x1)] 9) fun(r2:Nat)=>
 ldW .slc ((aD r1).add 1) fun(u3:SLC)=>
 ze prog 33 [(.slice u3.1 u3.2.1 u3.2.2),(.func (.func 52) #[] #[(.pointer (some (aD r2)))])] (.one (.one (.int .i64))) fun(u4:Int)=>
 za (decide (u4<(0:Int))) (K (.tuple #[(.int .i64 (0:Int)),(.int .i64 (211:Int))]))<|K (.tuple #[(.int .i64 u4),(.int .i64 (0:Int))])
theorem zo9 (Aj:Option Addr) (Ak Al:Nat) (Ab:Option Addr) (Ac Ae:Nat) (x1:ByteArray) {K:Value->WP} {w:World} (h:S23 Aj Ak Al Ab Ac Ae x1 K w):Calls prog 23 #[(.agg #[(.slice Aj Ak Al),(.slice Ab Ac Ae)]),(.string x1)] w (Ret K):=cF an23 false Tryz.func23 h
def an24:Ann:=(AN (AN AO))
def S24 (x0:Option Addr) (K:Value->WP):WP:=
 zi (.cells #[(.slice none 0 0),(.slice none 0 0)] 30) fun(r1:Nat)=>
 ze prog 30 [(.pointer x0),(.agg #[(.int .u8 (7:Int)),(.slice none 0 0),(.string (ByteArray.mk #[116]))])] (.many [(.one (.int .u32)),(.one (.int .i64))]) fun(u2:Int×Int×Unit)=>
 ze prog 29 [] (.one (.one .slc)) fun(u3:SLC)=>
 zi (.cells #[(.string (ByteArray.mk #[116])),(.slice u3.1 u3.2.1 u3.2.2),(.int .u32 u2.1),(.int .u64 (1:Int)),(.int .i64 (1:Int))] 42) fun(r4:Nat)=>
 zc ((#[(.slice (some (aD r4)) 1 1),(.slice none 0 0)]:Array Value).size=2)<|
 zq (aD r1) [(.slice (some (aD r4)) 1 1),(.slice none 0 0)]<|
 zl [.slc,.slc] (aD r1) fun(u5:(SLC×SLC×Unit))=>K (.agg #[(.slice u5.1.1 u5.1.2.1 u5.1.2.2),(.slice u5.2.1.1 u5.2.1.2.1 u5.2.1.2.2)])
theorem zpa (x0:Option Addr) {K:Value->WP} {w:World} (h:S24 x0 K w):Calls prog 24 #[(.pointer x0)] w (Ret K):=cF an24 false Tryz.func24 h
def an26:Ann:=(AN (AR (AN (AN (AQ AO AP))) AO))
def S26 (Aa:Int) (Af:Int) (K:Value->WP):WP:=
 zi (.cells #[(.int .i64 Aa),(.int .i64 Af)] 69) fun(r1:Nat)=>
 zl [(.int .i64),(.int .i64)] (aD r1) fun(u2:(Int×Int×Unit))=>
 ze prog 53 [(.agg #[(.int .i64 u2.1),(.int .i64 u2.2.1)])] (.one (.one (.int .i64))) fun(u3:Int)=>
 za (u3 !=(0:Int)) (K (.tuple #[(.pointer none),(.int .i64 u3)]))<|
 zB<|
 zl [(.int .i64),(.int .i64)] (aD r1) fun(u4:(Int×Int×Unit))=>
 ldW (.int .i64) (aD r1) fun(u5:Int)=>
 ldW (.int .i64) ((aD r1).add 1) fun(u6:Int)=>
 ze prog 55 [(.string (ByteArray.mk #[0])),(.int .i64 u5)] (.one (.one .str)) fun(u7:ByteArray)=>
 zt [[(((aD r1).add 1),(.int .i64 u6))],[((aD r1).add 0,(.int .i64 u4.1)),((aD r1).add 1,(.int .i64 u4.2.1))]]<|
 zi (.cells #[(.string u7)] 9) fun(r8:Nat)=>
 zt [[(((aD r1).add 1),(.int .i64 u6))],[((aD r1).add 0,(.int .i64 u4.1)),((aD r1).add 1,(.int .i64 u4.2.1))]]<|
 ze prog 54 [(.slice (some (aD r8)) 1 1),(.int .i64 u6)] (.one (.one .slc)) fun(u9:SLC)=>
 zt [[((aD r1).add 0,(.int .i64 u4.1)),((aD r1).add 1,(.int .i64 u4.2.1))]]<|
 zi (.cells #[(.int .i64 u4.1),(.int .i64 u4.2.1),(.slice u9.1 u9.2.1 u9.2.2),(.slice none 0 0),(.int .i64 (0:Int)),(.int .i64 (-1:Int))] 111) fun(r10:Nat)=>K (.tuple #[(.pointer (some (aD r10))),(.int .i64 (0:Int))])
theorem zpb (Aa:Int) (Af:Int) {K:Value->WP} {w:World} (h:S26 Aa Af K w):Calls prog 26 #[(.agg #[(.int .i64 Aa),(.int .i64 Af)])] w (Ret K):=cF an26 false Tryz.func26 h
def an27:Ann:=(AN (AR (AN (AQ AO AP)) (AN (AR (AN (AQ AO AP)) (AN (AR (AN (.block (.loop [(29,.sh (.one (.int .i64)))] [0,4,6,28,1000000] (AN (AR (AQ AP AP) (AR (.block (AN (AR (AN (AQ AO AP)) AP))) AP)))))) (AR (AN (AN (AQ AO AP))) (AR (AN (AN (AQ AO AP))) (AR (AN (AN (AQ AO AP))) AO)))))))))
def S27 (x0:Option Addr) (K:Value->WP):WP:=
 za (Option.isNone x0) (K (.tuple #[(.pointer none),(.int .i64 (1:Int))]))<|
 ze prog 57 [(.pointer x0)] (.one (.agg [(.int .i64),(.int .i64)])) fun(u1:(Int×Int×Unit))=>
 ze prog 56 [(.agg #[(.int .i64 u1.1),(.int .i64 u1.2.1)])] (.many [(.one .ptr),(.one (.int .i64))]) fun(u2:Option Addr×Int×Unit)=>
 za (u2.2.1 !=(0:Int)) (K (.tuple #[(.pointer none),(.int .i64 u2.2.1)]))<|
 ze prog 57 [(.pointer x0)] (.one (.agg [(.int .i64),(.int .i64)])) fun(u3:(Int×Int×Unit))=>
 zi (.cells #[(.int .u64 (0:Int)),(.int .i64 (0:Int)),(.int .i64 (0:Int)),(.int .u32 (0:Int)),(.slice none 0 0)] 87) fun(r4:Nat)=>
 zc ((#[(.int .u64 (1:Int)),(.int .i64 u3.1),(.int .i64 u3.2.1),(.int .u32 (0:Int)),(.slice none 0 0)]:Array Value).size=5)<|
 zq (aD r4) [(.int .u64 (1:Int)),(.int .i64 u3.1),(.int .i64 u3.2.1),(.int .u32 (0:Int)),(.slice none 0 0)]<|
 ze prog 57 [(.pointer x0)] (.one (.agg [(.int .i64),(.int .i64)])) fun(u5:(Int×Int×Unit))=>
 ze prog 58 [(.agg #[(.int .i64 u5.1),(.int .i64 u5.2.1)])] (.one (.one (.int .i64))) fun(u6:Int)=>
 zG (Int×Unit) ((0:Int),()) fun(y8:Int×Unit) (I7:(Int×Unit)->WP)=>
 za (decide (y8.1<u6)) (ze prog 59 [(.pointer u2.1),(.pointer none)] (.many [(.one (.int .u32)),(.one (.int .i64))]) fun(u9:Int×Int×Unit)=>
 za (u9.2.1 !=(0:Int)) (K (.tuple #[(.pointer none),(.int .i64 (2:Int))]))<|
 ldW .slc ((aD r4).add 4) fun(u10:SLC)=>
 zi (.cells #[(.int .u32 u9.1)] 39) fun(r11:Nat)=>
 zv prog (Builtin.append_ #[47,47] 47 #[(.slice u10.1 u10.2.1 u10.2.2),(.slice (some (aD r11)) 1 1)]) .slc fun(u12:SLC)=>
 stW ((aD r4).add 4) (.slice u12.1 u12.2.1 u12.2.2)<|I7 ((wrap .i64 (y8.1+(1:Int))),()))<|
 zl [(.int .u64),(.int .i64),(.int .i64),(.int .u32),.slc] (aD r4) fun(u13:(Int×Int×Int×Int×SLC×Unit))=>
 ze prog 60 [(.agg #[(.int .u64 u13.1),(.int .i64 u13.2.1),(.int .i64 u13.2.2.1),(.int .u32 u13.2.2.2.1),(.slice u13.2.2.2.2.1.1 u13.2.2.2.2.1.2.1 u13.2.2.2.2.1.2.2)])] (.one (.one (.int .i64))) fun(u14:Int)=>
 za (u14 !=(0:Int)) (K (.tuple #[(.pointer none),(.int .i64 u14)]))<|
 ze prog 57 [(.pointer x0)] (.one (.agg [(.int .i64),(.int .i64)])) fun(u15:(Int×Int×Unit))=>
 zv prog (Instr.makeSlice 119 (.int .i64 u15.1) (.int .i64 u15.1)) .slc fun(u16:SLC)=>
 zv prog (Go.convert 119 9 (.slice u16.1 u16.2.1 u16.2.2)) .str fun(u17:ByteArray)=>
 ze prog 61 [(.pointer x0),(.int .i64 (1:Int)),(.string u17)] (.one (.one (.int .i64))) fun(u18:Int)=>
 za (u18 !=(0:Int)) (K (.tuple #[(.pointer none),(.int .i64 u18)]))<|
 zl [(.int .u64),(.int .i64),(.int .i64),(.int .u32),.slc] (aD r4) fun(u19:(Int×Int×Int×Int×SLC×Unit))=>
 ze prog 62 [(.pointer x0),(.pointer u2.1),(.agg #[(.int .u64 u19.1),(.int .i64 u19.2.1),(.int .i64 u19.2.2.1),(.int .u32 u19.2.2.2.1),(.slice u19.2.2.2.2.1.1 u19.2.2.2.2.1.2.1 u19.2.2.2.2.1.2.2)]),(.int .i64 (0:Int))] (.one (.one (.int .i64))) fun(u20:Int)=>
 za (u20 !=(0:Int)) (K (.tuple #[(.pointer none),(.int .i64 u20)]))<|
 zB<|
 zl [(.int .u64),(.int .i64),(.int .i64),(.int .u32),.slc] (aD r4) fun(u21:(Int×Int×Int×Int×SLC×Unit))=>
 ze prog 63 [(.pointer u2.1)] (.one (.one .ptr)) fun(u22:Option Addr)=>
 zt [[((aD r4).add 0,(.int .u64 u21.1)),((aD r4).add 1,(.int .i64 u21.2.1)),((aD r4).add 2,(.int .i64 u21.2.2.1)),((aD r4).add 3,(.int .u32 u21.2.2.2.1)),((aD r4).add 4,(.slice u21.2.2.2.2.1.1 u21.2.2.2.2.1.2.1 u21.2.2.2.2.1.2.2))]]<|
 zi (.cells #[(.pointer x0),(.int .u64 u21.1),(.int .i64 u21.2.1),(.int .i64 u21.2.2.1),(.int .u32 u21.2.2.2.1),(.slice u21.2.2.2.2.1.1 u21.2.2.2.2.1.2.1 u21.2.2.2.2.1.2.2),(.int .i64 (0:Int)),(.pointer u2.1),(.pointer u22),(.pointer none)] 90) fun(r23:Nat)=>K (.tuple #[(.pointer (some (aD r23))),(.int .i64 (0:Int))])
theorem zpc (x0:Option Addr) {K:Value->WP} {w:World} (h:S27 x0 K w):Calls prog 27 #[(.pointer x0)] w (Ret K):=cF an27 false Tryz.func27 h
def an28:Ann:=(AN AO)
def S28 (x0:Option Addr) (K:Value->WP):WP:=
 zi (.cells #[(.pointer x0)] 24) fun(r1:Nat)=>K (.func (.func 64) #[] #[(.pointer (some (aD r1)))])
theorem zpd (x0:Option Addr) {K:Value->WP} {w:World} (h:S28 x0 K w):Calls prog 28 #[(.pointer x0)] w (Ret K):=cF an28 false Tryz.func28 h
def an29:Ann:=(AN AO)
def S29  (K:Value->WP):WP:=
 zi (.cells #[(.string (ByteArray.mk #[107])),(.int .i64 (3:Int)),(.bool false),(.string (ByteArray.mk #[118])),(.int .i64 (1:Int)),(.bool true)] 95) fun(r1:Nat)=>K (.slice (some (aD r1)) 2 2)
theorem zpe  {K:Value->WP} {w:World} (h:S29  K w):Calls prog 29 #[] w (Ret K):=cF an29 false Tryz.func29 h
def an30:Ann:=(AN (AR (.block (AN (AQ AO (.join [(15,.sh (.one .bool))] [2,3,1000000] AP (AQ AO (AN (AQ AO (.join [(36,.sh (.one .bool))] [2,3,1000000] AP (AQ AO (AN (AQ AO AP))))))))))) (AN (AR (AN (AQ AO AP)) (AN (AR (AN (.block (.loop [(8,.sh (.one .slc)),(81,.sh (.one (.int .i64)))] [2,3,6,79,80,1000000] (AN (AR (AQ AP AP) (AR (.block AO) AP)))))) (AR (AN (AN (AQ AO AP))) AO)))))))
def S30 (x0:Option Addr) (Az:Int) (Ag:Option Addr) (Ah Ai:Nat) (AA:ByteArray) (K:Value->WP):WP:=
 zi (.cells #[(.pointer x0)] 24) fun(r1:Nat)=>
 zi (.cells #[(.int .u8 Az),(.slice Ag Ah Ai),(.string AA)] 49) fun(r2:Nat)=>
 ldW .ptr (aD r1) fun(u3:Option Addr)=>
 za (Option.isNone u3) (K (.tuple #[(.int .u32 (0:Int)),(.int .i64 (1:Int))]))<|
 yV (Bool×Unit) (fun(J4:(Bool×Unit)->WP)=>
 ldW (.int .u8) (aD r2) fun(u6:Int)=>
 za (decide (u6<(3:Int))) (J4 (true,()))<|
 ldW .slc ((aD r2).add 1) fun(u7:SLC)=>
 za (decide (((u7.2.1:Nat):Int)>(65535:Int))) (J4 (true,()))<|
 ldW .slc ((aD r2).add 1) fun(u8:SLC)=>
 ze prog 65 [(.slice u8.1 u8.2.1 u8.2.2),(.func (.func 66) #[] #[(.pointer (some (aD r1)))])] (.one (.one .bool)) fun(u9:Bool)=>J4 (u9,())) fun(y5:Bool×Unit)=>
 za y5.1 (K (.tuple #[(.int .u32 (0:Int)),(.int .i64 (2:Int))]))<|
 ldW .slc ((aD r2).add 1) fun(u10:SLC)=>
 ze prog 65 [(.slice u10.1 u10.2.1 u10.2.2),(.func (.func 67) #[] #[(.pointer (some (aD r1)))])] (.one (.one .bool)) fun(u11:Bool)=>
 za u11 (K (.tuple #[(.int .u32 (0:Int)),(.int .i64 (8:Int))]))<|
 yV (Bool×Unit) (fun(J12:(Bool×Unit)->WP)=>
 zB<|
 ldW .slc ((aD r2).add 1) fun(u14:SLC)=>
 ldW .ptr (aD r1) fun(u15:Option Addr)=>
 ze prog 68 [(.pointer u15),(.int .i64 (0:Int))] (.one (.one (.int .i64))) fun(u16:Int)=>
 zt [[(((aD r2).add 1),(.slice u14.1 u14.2.1 u14.2.2))]]<|
 za (decide (((u14.2.1:Nat):Int)>(wrap .i64 (Int.tdiv u16 (4:Int))))) (J12 (true,()))<|
 ldW .str ((aD r2).add 2) fun(u17:ByteArray)=>
 ldW .ptr (aD r1) fun(u18:Option Addr)=>
 ldW .slc ((aD r2).add 1) fun(u19:SLC)=>
 ze prog 68 [(.pointer u18),(.int .i64 ((u19.2.1:Nat):Int))] (.one (.one (.int .i64))) fun(u20:Int)=>
 zt [[(((aD r2).add 2),(.string u17))]]<|J12 ((decide (((u17.size:Nat):Int)>u20)),())) fun(y13:Bool×Unit)=>
 za y13.1 (K (.tuple #[(.int .u32 (0:Int)),(.int .i64 (3:Int))]))<|
 zB<|
 ldW .ptr (aD r1) fun(u21:Option Addr)=>
 ldW .ptr (aD r1) fun(u22:Option Addr)=>
 zh u22 fun(p23:Addr)=>
 ldW .slc ((p23.add 1).add 4) fun(u24:SLC)=>
 ze prog 9 [(.pointer u21)] (.one (.one (.int .i64))) fun(u25:Int)=>
 zt [[(((p23.add 1).add 4),(.slice u24.1 u24.2.1 u24.2.2))],[((aD r1),(.pointer u22))]]<|
 za (decide (u25<=((u24.2.1:Nat):Int))) (K (.tuple #[(.int .u32 (0:Int)),(.int .i64 (9:Int))]))<|
 ldW .ptr (aD r1) fun(u26:Option Addr)=>
 ze prog 69 [(.pointer u26)] (.many [(.one (.int .u32)),(.one (.int .i64))]) fun(u27:Int×Int×Unit)=>
 za (u27.2.1 !=(0:Int)) (K (.tuple #[(.int .u32 (0:Int)),(.int .i64 u27.2.1)]))<|
 ldW .slc ((aD r2).add 1) fun(u28:SLC)=>
 ze prog 70 [(.slice none 0 0),(.int .u64 (wrap .u64 ((u28.2.1:Nat):Int))),(.int .i64 (2:Int))] (.one (.one .slc)) fun(u29:SLC)=>
 ldW .slc ((aD r2).add 1) fun(u30:SLC)=>
 zG (SLC×Int×Unit) ((u29.1,u29.2.1,u29.2.2),(0:Int),()) fun(y32:SLC×Int×Unit) (I31:(SLC×Int×Unit)->WP)=>
 za (decide (y32.2.1<((u30.2.1:Nat):Int))) (zc (0<=y32.2.1/\y32.2.1<((u30.2.1:Nat):Int))<|
 zh u30.1 fun(p33:Addr)=>
 ldW (.int .u32) (p33.add (Int.toNat y32.2.1*1)) fun(u34:Int)=>
 ze prog 70 [(.slice y32.1.1 y32.1.2.1 y32.1.2.2),(.int .u64 (wrap .u64 u34)),(.int .i64 (4:Int))] (.one (.one .slc)) fun(u35:SLC)=>I31 ((u35.1,u35.2.1,u35.2.2),(wrap .i64 (y32.2.1+(1:Int))),()))<|
 zB<|
 ldW .ptr (aD r1) fun(u36:Option Addr)=>
 zh u36 fun(p37:Addr)=>
 ldW .ptr p37 fun(u38:Option Addr)=>
 ldW (.int .u8) (aD r2) fun(u39:Int)=>
 ldW .ptr (aD r1) fun(u40:Option Addr)=>
 zh u40 fun(p41:Addr)=>
 ldW (.int .u64) (p41.add 1) fun(u42:Int)=>
 ldW .str ((aD r2).add 2) fun(u43:ByteArray)=>
 zv prog (Go.convert 119 9 (.slice y32.1.1 y32.1.2.1 y32.1.2.2)) .str fun(u44:ByteArray)=>
 zt [[(((aD r2).add 2),(.string u43))],[((p41.add 1),(.int .u64 u42))],[((aD r1),(.pointer u40))],[((aD r2),(.int .u8 u39))],[(p37,(.pointer u38))],[((aD r1),(.pointer u36))]]<|
 zc (((u44.size+u43.size:Nat):Int)<=IntKind.i64.max)<|
 ze prog 71 [(.pointer u38),(.int .u32 u27.1),(.agg #[(.int .u8 u39),(.int .u64 (wrap .u64 (u42+(1:Int)))),(.string (u44++u43))])] (.one (.one (.int .i64))) fun(u45:Int)=>
 za (u45 !=(0:Int)) (K (.tuple #[(.int .u32 (0:Int)),(.int .i64 u45)]))<|K (.tuple #[(.int .u32 u27.1),(.int .i64 (0:Int))])
theorem zpf (x0:Option Addr) (Az:Int) (Ag:Option Addr) (Ah Ai:Nat) (AA:ByteArray) {K:Value->WP} {w:World} (h:S30 x0 Az Ag Ah Ai AA K w):Calls prog 30 #[(.pointer x0),(.agg #[(.int .u8 Az),(.slice Ag Ah Ai),(.string AA)])] w (Ret K):=cF an30 false Tryz.func30 h
def an31:Ann:=(AN (AR (AN (AQ AO AP)) (AR (AN (.block (.loop [(3,.sh (.one (.int .i64)))] [1,1000000] (AR (AN (AQ AP AP)) (AR (.block (AN (.join [(77,.sh (.one .bool))] [1,3,1000000] AP (AQ AO AP)))) AP))))) (AR (AN (.block (.loop [(5,.sh (.one (.int .i64)))] [1,1000000] (AR (AN (AQ AP AP)) (AR (.block (AN (AQ AO AP))) AP))))) AO))))
def S31 (Aj:Option Addr) (Ak Al:Nat) (Ab:Option Addr) (Ac Ae:Nat) (K:Value->WP):WP:=
 zi (.cells #[(.slice Aj Ak Al),(.slice Ab Ac Ae)] 30) fun(r1:Nat)=>
 ldW .slc (aD r1) fun(u2:SLC)=>
 za (decide (((u2.2.1:Nat):Int)>(16:Int))) (K (.int .i64 (240:Int)))<|
 ldW .slc ((aD r1).add 1) fun(u3:SLC)=>
 za (decide (((u3.2.1:Nat):Int)>(16:Int))) (K (.int .i64 (240:Int)))<|
 zG (Int×Unit) ((0:Int),()) fun(y5:Int×Unit) (I4:(Int×Unit)->WP)=>
 ldW .slc (aD r1) fun(u6:SLC)=>
 za (decide (y5.1<((u6.2.1:Nat):Int))) (ldW .slc (aD r1) fun(u7:SLC)=>
 zc (0<=y5.1/\y5.1<((u7.2.1:Nat):Int))<|
 zh u7.1 fun(p8:Addr)=>
 zl [.str,.slc,(.int .u32),(.int .u64),(.int .i64)] (p8.add (Int.toNat y5.1*5)) fun(u9:(ByteArray×SLC×Int×Int×Int×Unit))=>
 zi (.cells #[(.string ByteArray.empty),(.slice none 0 0),(.int .u32 (0:Int)),(.int .u64 (0:Int)),(.int .i64 (0:Int))] 42) fun(r10:Nat)=>
 zc ((#[(.string u9.1),(.slice u9.2.1.1 u9.2.1.2.1 u9.2.1.2.2),(.int .u32 u9.2.2.1),(.int .u64 u9.2.2.2.1),(.int .i64 u9.2.2.2.2.1)]:Array Value).size=5)<|
 zq (aD r10) [(.string u9.1),(.slice u9.2.1.1 u9.2.1.2.1 u9.2.1.2.2),(.int .u32 u9.2.2.1),(.int .u64 u9.2.2.2.1),(.int .i64 u9.2.2.2.2.1)]<|
 yV (Bool×Unit) (fun(J11:(Bool×Unit)->WP)=>
 zB<|
 ldW .str (aD r10) fun(u13:ByteArray)=>
 ze prog 12 [(.string u13)] (.one (.one (.int .i64))) fun(u14:Int)=>
 za (u14 !=(0:Int)) (J11 (true,()))<|
 za (decide (y5.1>(0:Int))) (ldW .slc (aD r1) fun(u15:SLC)=>
 zc (0<=(wrap .i64 (y5.1-(1:Int)))/\(wrap .i64 (y5.1-(1:Int)))<((u15.2.1:Nat):Int))<|
 zh u15.1 fun(p16:Addr)=>
 ldW .str (p16.add (Int.toNat (wrap .i64 (y5.1-(1:Int)))*5)) fun(u17:ByteArray)=>
 ldW .str (aD r10) fun(u18:ByteArray)=>
 za (!(Op.bytesLess u17.toList u18.toList)) (J11 (true,()))<|
 ldW .slc ((aD r10).add 1) fun(u19:SLC)=>
 ze prog 72 [(.slice u19.1 u19.2.1 u19.2.2)] (.one (.one (.int .i64))) fun(u20:Int)=>
 za (u20 !=(0:Int)) (J11 (true,()))<|
 ldW (.int .i64) ((aD r10).add 4) fun(u21:Int)=>
 za (decide (u21<(0:Int))) (J11 (true,()))<|
 ldW (.int .i64) ((aD r10).add 4) fun(u22:Int)=>
 za (decide (u22>(4096:Int))) (J11 (true,()))<|
 ldW (.int .u32) ((aD r10).add 2) fun(u23:Int)=>
 ldW (.int .i64) ((aD r10).add 4) fun(u24:Int)=>
 za (!((u23==(0:Int))==(u24==(0:Int)))) (J11 (true,()))<|
 ldW (.int .u64) ((aD r10).add 3) fun(u25:Int)=>J11 ((decide (u25>=(1099511627776:Int))),()))<|
 ldW .slc ((aD r10).add 1) fun(u26:SLC)=>
 ze prog 72 [(.slice u26.1 u26.2.1 u26.2.2)] (.one (.one (.int .i64))) fun(u27:Int)=>
 za (u27 !=(0:Int)) (J11 (true,()))<|
 ldW (.int .i64) ((aD r10).add 4) fun(u28:Int)=>
 za (decide (u28<(0:Int))) (J11 (true,()))<|
 ldW (.int .i64) ((aD r10).add 4) fun(u29:Int)=>
 za (decide (u29>(4096:Int))) (J11 (true,()))<|
 ldW (.int .u32) ((aD r10).add 2) fun(u30:Int)=>
 ldW (.int .i64) ((aD r10).add 4) fun(u31:Int)=>
 za (!((u30==(0:Int))==(u31==(0:Int)))) (J11 (true,()))<|
 ldW (.int .u64) ((aD r10).add 3) fun(u32:Int)=>J11 ((decide (u32>=(1099511627776:Int))),())) fun(y12:Bool×Unit)=>
 za y12.1 (K (.int .i64 (240:Int)))<|I4 ((wrap .i64 (y5.1+(1:Int))),()))<|
 zG (Int×Unit) ((0:Int),()) fun(y34:Int×Unit) (I33:(Int×Unit)->WP)=>
 ldW .slc ((aD r1).add 1) fun(u35:SLC)=>
 za (decide (y34.1<((u35.2.1:Nat):Int))) (zB<|
 ldW .slc ((aD r1).add 1) fun(u36:SLC)=>
 zc (0<=y34.1/\y34.1<((u36.2.1:Nat):Int))<|
 zh u36.1 fun(p37:Addr)=>
 ldW .str (p37.add (Int.toNat y34.1*2)) fun(u38:ByteArray)=>
 ze prog 12 [(.string u38)] (.one (.one (.int .i64))) fun(u39:Int)=>
 za (u39 !=(0:Int)) (K (.int .i64 (240:Int)))<|
 za (decide (y34.1>(0:Int))) (ldW .slc ((aD r1).add 1) fun(u40:SLC)=>
 zc (0<=(wrap .i64 (y34.1-(1:Int)))/\(wrap .i64 (y34.1-(1:Int)))<((u40.2.1:Nat):Int))<|
 zh u40.1 fun(p41:Addr)=>
 ldW .str (p41.add (Int.toNat (wrap .i64 (y34.1-(1:Int)))*2)) fun(u42:ByteArray)=>
 ldW .slc ((aD r1).add 1) fun(u43:SLC)=>
 zc (0<=y34.1/\y34.1<((u43.2.1:Nat):Int))<|
 zh u43.1 fun(p44:Addr)=>
 ldW .str (p44.add (Int.toNat y34.1*2)) fun(u45:ByteArray)=>
 za (!(Op.bytesLess u42.toList u45.toList)) (K (.int .i64 (240:Int)))<|I33 ((wrap .i64 (y34.1+(1:Int))),()))<|I33 ((wrap .i64 (y34.1+(1:Int))),()))<|K (.int .i64 (0:Int))
theorem zpg (Aj:Option Addr) (Ak Al:Nat) (Ab:Option Addr) (Ac Ae:Nat) {K:Value->WP} {w:World} (h:S31 Aj Ak Al Ab Ac Ae K w):Calls prog 31 #[(.agg #[(.slice Aj Ak Al),(.slice Ab Ac Ae)])] w (Ret K):=cF an31 false Tryz.func31 h
def an32:Ann:=(AN (AR (AN (AQ AO AP)) (AN (AR (AN (.block (.loop [] [14,1000000] (AN (AR (AQ AP AP) (.block (AN (.join [] [1000000] (.block (.join [(19,.sh (.one .bool))] [3,4,14,1000000] (AN (AQ AP (AN (AQ AP AP)))) (AQ AP (AN (AQ AP AP))))) AO)))))))) AO))))
def S32 (x0:ByteArray) (K:Value->WP):WP:=
 za (decide (((x0.size:Nat):Int)<(1:Int))) (K (.int .i64 (170:Int)))<|
 za (decide (((x0.size:Nat):Int)>(32:Int))) (K (.int .i64 (170:Int)))<|
 zi (.stringIter x0 0) fun(r1:Nat)=>
 zG (Unit) () fun(y3:Unit) (I2:(Unit)->WP)=>
 zoy r1 (fun(i4 c5:Int)=>
 za true (yV (Unit) (fun(J6:(Unit)->WP)=>
 yV (Bool×Unit) (fun(J8:(Bool×Unit)->WP)=>
 za (decide (c5>=(97:Int))) (za (decide (c5<=(122:Int))) (J8 ((decide (c5<=(122:Int))),()))<|
 za (decide (c5>=(65:Int))) (za (decide (c5<=(90:Int))) (J8 ((decide (c5<=(90:Int))),()))<|J8 ((c5==(95:Int)),()))<|J8 ((c5==(95:Int)),()))<|
 za (decide (c5>=(65:Int))) (za (decide (c5<=(90:Int))) (J8 ((decide (c5<=(90:Int))),()))<|J8 ((c5==(95:Int)),()))<|J8 ((c5==(95:Int)),())) fun(y9:Bool×Unit)=>
 za y9.1 (I2 ())<|
 za (decide (i4>(0:Int))) (za (decide (c5>=(48:Int))) (za (decide (c5<=(57:Int))) (I2 ())<|J6 ())<|J6 ())<|J6 ()) fun(y7:Unit)=>K (.int .i64 (170:Int)))<|K (.int .i64 (0:Int)))<|
 za false (zo)<|K (.int .i64 (0:Int))
theorem zph (x0:ByteArray) {K:Value->WP} {w:World} (h:S32 x0 K w):Calls prog 32 #[(.string x0)] w (Ret K):=cF an32 false Tryz.func32 h
def an33:Ann:=(AN (AR (AN (.block (.loop [(8,.sh (.one (.int .i64)))] [0,1,7,1000000] (AN (AR (AQ AP AP) (AR (.block (AN (AN (AQ AO AP)))) AP)))))) AO))
def S33 (a0:Option Addr) (n0 c0:Nat) (x1:Value) (K:Value->WP):WP:=
 zG (Int×Unit) ((0:Int),()) fun(y2:Int×Unit) (I1:(Int×Unit)->WP)=>
 za (decide (y2.1<((n0:Nat):Int))) (zc (0<=y2.1/\y2.1<((n0:Nat):Int))<|
 zh a0 fun(p3:Addr)=>
 zl [.str,(.int .u32)] (p3.add (Int.toNat y2.1*2)) fun(u4:(ByteArray×Int×Unit))=>
 yD prog x1 [(.agg #[(.string u4.1),(.int .u32 u4.2.1)])] (.one (.one .bool)) fun(u5:Bool)=>
 za u5 (K (.int .i64 y2.1))<|I1 ((wrap .i64 (y2.1+(1:Int))),()))<|K (.int .i64 (-1:Int))
theorem zpi (a0:Option Addr) (n0 c0:Nat) (x1:Value) {K:Value->WP} {w:World} (h:S33 a0 n0 c0 x1 K w):Calls prog 33 #[(.slice a0 n0 c0),x1] w (Ret K):=cF an33 false Tryz.func33 h
def an34:Ann:=(AN AO)
def S34 (Aa:ByteArray) (Af:Int) (a1:Addr) (K:Value->WP):WP:=
 zi (.cells #[(.string Aa),(.int .u32 Af)] 64) fun(r1:Nat)=>
 ldW .str (aD r1) fun(u2:ByteArray)=>
 ldW .str a1 fun(u3:ByteArray)=>K (.bool (!(Op.bytesLess u2.toList u3.toList)))
theorem zpj (Aa:ByteArray) (Af:Int) (a1:Addr) {K:Value->WP} {w:World} (h:S34 Aa Af a1 K w):Calls prog 34 #[(.agg #[(.string Aa),(.int .u32 Af)]),(.pointer (some a1))] w (Ret K):=cF an34 false Tryz.func34 h
def an35:Ann:=(AN (AR (AN (.block (.loop [(10,.sh (.one (.int .i64)))] [0,8,9,1000000] (AN (AR (AQ AP AP) (AR (.block (AN (AN (AN (AQ AO AP))))) AP)))))) AO))
def S35 (x0:Option Addr) (Au:Option Addr) (Av Aw:Nat) (Ag:Option Addr) (Ah Ai:Nat) (K:Value->WP):WP:=
 zi (.cells #[(.slice Au Av Aw),(.slice Ag Ah Ai)] 30) fun(r1:Nat)=>
 ze prog 73 [(.pointer (some (aD r1)))] (.one (.one .slc)) fun(u2:SLC)=>
 zG (Int×Unit) ((0:Int),()) fun(y4:Int×Unit) (I3:(Int×Unit)->WP)=>
 za (decide (y4.1<((u2.2.1:Nat):Int))) (zc (0<=y4.1/\y4.1<((u2.2.1:Nat):Int))<|
 zh u2.1 fun(p5:Addr)=>
 zl [(.int .u64),.ptr] (p5.add (Int.toNat y4.1*2)) fun(u6:(Int×Option Addr×Unit))=>
 zi (.cells #[(.int .u64 (0:Int)),(.pointer none)] 135) fun(r7:Nat)=>
 zc ((#[(.int .u64 u6.1),(.pointer u6.2.1)]:Array Value).size=2)<|
 zq (aD r7) [(.int .u64 u6.1),(.pointer u6.2.1)]<|
 ldW .ptr ((aD r7).add 1) fun(u8:Option Addr)=>
 zh u8 fun(p9:Addr)=>
 ldW (.int .u32) p9 fun(u10:Int)=>
 ze prog 74 [(.pointer x0),(.int .u32 u10)] (.one (.one (.int .i64))) fun(u11:Int)=>
 za (u11 !=(0:Int)) (K (.int .i64 u11))<|I3 ((wrap .i64 (y4.1+(1:Int))),()))<|K (.int .i64 (0:Int))
theorem zpk (x0:Option Addr) (Au:Option Addr) (Av Aw:Nat) (Ag:Option Addr) (Ah Ai:Nat) {K:Value->WP} {w:World} (h:S35 x0 Au Av Aw Ag Ah Ai K w):Calls prog 35 #[(.pointer x0),(.agg #[(.slice Au Av Aw),(.slice Ag Ah Ai)])] w (Ret K):=cF an35 false Tryz.func35 h
def an36:Ann:=(AN (AN (AR (AN (AQ AO AP)) (AR (AN (AQ AO AP)) (AN (AR (AN (AQ AO AP)) (AN (AR (AN (.block (.loop [(9,.sh (.one .slc)),(10,.sh (.one .slc)),(44,.sh (.one (.int .i64)))] [0,42,43,1000000] (AN (AR (AQ AP AP) (AR (.block AO) AP)))))) AO))))))))
def S36 (x0:Option Addr) (Au:Option Addr) (Av Aw:Nat) (Ag:Option Addr) (Ah Ai:Nat) (K:Value->WP):WP:=
 zi (.cells #[(.slice Au Av Aw),(.slice Ag Ah Ai)] 30) fun(r1:Nat)=>
 zl [.slc,.slc] (aD r1) fun(u2:(SLC×SLC×Unit))=>
 ze prog 75 [(.agg #[(.slice u2.1.1 u2.1.2.1 u2.1.2.2),(.slice u2.2.1.1 u2.2.1.2.1 u2.2.1.2.2)])] (.many [(.one .str),(.one (.int .i64))]) fun(u3:ByteArray×Int×Unit)=>
 za (u3.2.1 !=(0:Int)) (K (.tuple #[(.int .u32 (0:Int)),(.int .i64 u3.2.1)]))<|
 ldW .slc (aD r1) fun(u4:SLC)=>
 ldW .slc ((aD r1).add 1) fun(u5:SLC)=>
 za ((wrap .i64 (((u4.2.1:Nat):Int)+((u5.2.1:Nat):Int)))==(0:Int)) (K (.tuple #[(.int .u32 (0:Int)),(.int .i64 (0:Int))]))<|
 ze prog 76 [(.pointer x0),(.string u3.1)] (.many [(.one (.int .u32)),(.one (.int .i64))]) fun(u6:Int×Int×Unit)=>
 za (u6.2.1 !=(0:Int)) (K (.tuple #[(.int .u32 (0:Int)),(.int .i64 u6.2.1)]))<|
 zi (.cells #[(.int .u64 (0:Int))] 40) fun(r7:Nat)=>
 zi (.cells #[(.int .u64 (wrap .u64 u6.1))] 40) fun(r8:Nat)=>
 ze prog 73 [(.pointer (some (aD r1)))] (.one (.one .slc)) fun(u9:SLC)=>
 zG (SLC×SLC×Int×Unit) (((some (aD r7)),1,1),((some (aD r8)),1,1),(0:Int),()) fun(y11:SLC×SLC×Int×Unit) (I10:(SLC×SLC×Int×Unit)->WP)=>
 za (decide (y11.2.2.1<((u9.2.1:Nat):Int))) (zc (0<=y11.2.2.1/\y11.2.2.1<((u9.2.1:Nat):Int))<|
 zh u9.1 fun(p12:Addr)=>
 zl [(.int .u64),.ptr] (p12.add (Int.toNat y11.2.2.1*2)) fun(u13:(Int×Option Addr×Unit))=>
 zi (.cells #[(.int .u64 (0:Int)),(.pointer none)] 135) fun(r14:Nat)=>
 zc ((#[(.int .u64 u13.1),(.pointer u13.2.1)]:Array Value).size=2)<|
 zq (aD r14) [(.int .u64 u13.1),(.pointer u13.2.1)]<|
 zB<|
 ldW (.int .u64) (aD r14) fun(u15:Int)=>
 ldW .ptr ((aD r14).add 1) fun(u16:Option Addr)=>
 zh u16 fun(p17:Addr)=>
 ldW (.int .u32) p17 fun(u18:Int)=>
 kI (zi (.cells #[(.int .u64 u15)] 40) fun(r19:Nat)=>
 zt [[(p17,(.int .u32 u18))],[(((aD r14).add 1),(.pointer u16))]]<|
 kI (zv prog (Builtin.append_ #[138,138] 138 #[(.slice y11.1.1 y11.1.2.1 y11.1.2.2),(.slice (some (aD r19)) 1 1)]) .slc fun(u20:SLC)=>
 zt [[(p17,(.int .u32 u18))],[(((aD r14).add 1),(.pointer u16))]]<|
 zi (.cells #[(.int .u64 (wrap .u64 u18))] 40) fun(r21:Nat)=>
 zt [[((aD r14),(.int .u64 u15))]]<|
 zv prog (Builtin.append_ #[138,138] 138 #[(.slice y11.2.1.1 y11.2.1.2.1 y11.2.1.2.2),(.slice (some (aD r21)) 1 1)]) .slc fun(u22:SLC)=>I10 ((u20.1,u20.2.1,u20.2.2),(u22.1,u22.2.1,u22.2.2),(wrap .i64 (y11.2.2.1+(1:Int))),()))<|
 zi (.cells #[(.int .u64 (wrap .u64 u18))] 40) fun(r23:Nat)=>
 zt [[((aD r14),(.int .u64 u15))]]<|
 zv prog (Builtin.append_ #[138,138] 138 #[(.slice y11.1.1 y11.1.2.1 y11.1.2.2),(.slice (some (aD r19)) 1 1)]) .slc fun(u24:SLC)=>
 zt [[(p17,(.int .u32 u18))],[(((aD r14).add 1),(.pointer u16))]]<|
 zv prog (Builtin.append_ #[138,138] 138 #[(.slice y11.2.1.1 y11.2.1.2.1 y11.2.1.2.2),(.slice (some (aD r23)) 1 1)]) .slc fun(u25:SLC)=>I10 ((u24.1,u24.2.1,u24.2.2),(u25.1,u25.2.1,u25.2.2),(wrap .i64 (y11.2.2.1+(1:Int))),()))<|
 zi (.cells #[(.int .u64 (wrap .u64 u18))] 40) fun(r26:Nat)=>
 zt [[((aD r14),(.int .u64 u15))]]<|
 zi (.cells #[(.int .u64 u15)] 40) fun(r27:Nat)=>
 zt [[(p17,(.int .u32 u18))],[(((aD r14).add 1),(.pointer u16))]]<|
 zv prog (Builtin.append_ #[138,138] 138 #[(.slice y11.1.1 y11.1.2.1 y11.1.2.2),(.slice (some (aD r27)) 1 1)]) .slc fun(u28:SLC)=>
 zt [[(p17,(.int .u32 u18))],[(((aD r14).add 1),(.pointer u16))]]<|
 zv prog (Builtin.append_ #[138,138] 138 #[(.slice y11.2.1.1 y11.2.1.2.1 y11.2.1.2.2),(.slice (some (aD r26)) 1 1)]) .slc fun(u29:SLC)=>I10 ((u28.1,u28.2.1,u28.2.2),(u29.1,u29.2.1,u29.2.2),(wrap .i64 (y11.2.2.1+(1:Int))),()))<|
 ze prog 77 [(.pointer x0),(.bool true),(.slice y11.1.1 y11.1.2.1 y11.1.2.2),(.slice y11.2.1.1 y11.2.1.2.1 y11.2.1.2.2)] (.many [(.one (.int .u32)),(.one (.int .i64))]) fun(u30:Int×Int×Unit)=>K (.tuple #[(.int .u32 u30.1),(.int .i64 u30.2.1)])
theorem zpl (x0:Option Addr) (Au:Option Addr) (Av Aw:Nat) (Ag:Option Addr) (Ah Ai:Nat) {K:Value->WP} {w:World} (h:S36 x0 Au Av Aw Ag Ah Ai K w):Calls prog 36 #[(.pointer x0),(.agg #[(.slice Au Av Aw),(.slice Ag Ah Ai)])] w (Ret K):=cF an36 false Tryz.func36 h
def an37:Ann:=(AN (AN (AR (AN (.block (.loop [(16,.sh (.one (.int .i64)))] [2,3,14,15,1000000] (AN (AR (AQ AP AP) (AR (.block AO) AP)))))) AO)))
def S37 (Aj:Option Addr) (Ak Al:Nat) (Ab:Option Addr) (Ac Ae:Nat) (K:Value->WP):WP:=
 zi (.cells #[(.slice Aj Ak Al),(.slice Ab Ac Ae)] 30) fun(r1:Nat)=>
 zi (.cells #[(.slice none 0 0),(.slice none 0 0)] 30) fun(r2:Nat)=>
 zB<|
 ldW .slc (aD r1) fun(u3:SLC)=>
 ldW .slc ((aD r1).add 1) fun(u4:SLC)=>
 kI (ze prog 78 [(.slice u3.1 u3.2.1 u3.2.2)] (.one (.one .slc)) fun(u5:SLC)=>
 zt [[(((aD r1).add 1),(.slice u4.1 u4.2.1 u4.2.2))]]<|
 kI (ze prog 79 [(.slice u4.1 u4.2.1 u4.2.2)] (.one (.one .slc)) fun(u6:SLC)=>
 zi (.cells #[(.slice none 0 0),(.slice none 0 0)] 30) fun(r7:Nat)=>
 zt [[(((aD r1).add 1),(.slice u4.1 u4.2.1 u4.2.2))],[((aD r1),(.slice u3.1 u3.2.1 u3.2.2))]]<|
 zc ((#[(.slice u5.1 u5.2.1 u5.2.2),(.slice u6.1 u6.2.1 u6.2.2)]:Array Value).size=2)<|
 zq (aD r7) [(.slice u5.1 u5.2.1 u5.2.2),(.slice u6.1 u6.2.1 u6.2.2)]<|
 ldW .slc (aD r7) fun(u8:SLC)=>
 zG (Int×Unit) ((0:Int),()) fun(y10:Int×Unit) (I9:(Int×Unit)->WP)=>
 za (decide (y10.1<((u8.2.1:Nat):Int))) (zc (0<=y10.1/\y10.1<((u8.2.1:Nat):Int))<|
 zh u8.1 fun(p11:Addr)=>
 zl [.str,.slc,(.int .u32),(.int .u64),(.int .i64)] (p11.add (Int.toNat y10.1*5)) fun(u12:(ByteArray×SLC×Int×Int×Int×Unit))=>
 zi (.cells #[(.string ByteArray.empty),(.slice none 0 0),(.int .u32 (0:Int)),(.int .u64 (0:Int)),(.int .i64 (0:Int))] 42) fun(r13:Nat)=>
 zc ((#[(.string u12.1),(.slice u12.2.1.1 u12.2.1.2.1 u12.2.1.2.2),(.int .u32 u12.2.2.1),(.int .u64 u12.2.2.2.1),(.int .i64 u12.2.2.2.2.1)]:Array Value).size=5)<|
 zq (aD r13) [(.string u12.1),(.slice u12.2.1.1 u12.2.1.2.1 u12.2.1.2.2),(.int .u32 u12.2.2.1),(.int .u64 u12.2.2.2.1),(.int .i64 u12.2.2.2.2.1)]<|
 zB<|
 ldW .slc (aD r7) fun(u14:SLC)=>
 ldW .slc ((aD r13).add 1) fun(u15:SLC)=>
 ze prog 80 [(.slice u15.1 u15.2.1 u15.2.2)] (.one (.one .slc)) fun(u16:SLC)=>
 zt [[((aD r7),(.slice u14.1 u14.2.1 u14.2.2))]]<|
 zc (0<=y10.1/\y10.1<((u14.2.1:Nat):Int))<|
 zh u14.1 fun(p17:Addr)=>
 stW ((p17.add (Int.toNat y10.1*5)).add 1) (.slice u16.1 u16.2.1 u16.2.2)<|I9 ((wrap .i64 (y10.1+(1:Int))),()))<|
 zl [.slc,.slc] (aD r7) fun(u18:(SLC×SLC×Unit))=>
 zc ((#[(.slice u18.1.1 u18.1.2.1 u18.1.2.2),(.slice u18.2.1.1 u18.2.1.2.1 u18.2.1.2.2)]:Array Value).size=2)<|
 zq (aD r2) [(.slice u18.1.1 u18.1.2.1 u18.1.2.2),(.slice u18.2.1.1 u18.2.1.2.1 u18.2.1.2.2)]<|
 zl [.slc,.slc] (aD r2) fun(u19:(SLC×SLC×Unit))=>K (.agg #[(.slice u19.1.1 u19.1.2.1 u19.1.2.2),(.slice u19.2.1.1 u19.2.1.2.1 u19.2.1.2.2)]))<|
 zi (.cells #[(.slice none 0 0),(.slice none 0 0)] 30) fun(r20:Nat)=>
 zt [[(((aD r1).add 1),(.slice u4.1 u4.2.1 u4.2.2))],[((aD r1),(.slice u3.1 u3.2.1 u3.2.2))]]<|
 ze prog 79 [(.slice u4.1 u4.2.1 u4.2.2)] (.one (.one .slc)) fun(u21:SLC)=>
 zc ((#[(.slice u5.1 u5.2.1 u5.2.2),(.slice u21.1 u21.2.1 u21.2.2)]:Array Value).size=2)<|
 zq (aD r20) [(.slice u5.1 u5.2.1 u5.2.2),(.slice u21.1 u21.2.1 u21.2.2)]<|
 ldW .slc (aD r20) fun(u22:SLC)=>
 zG (Int×Unit) ((0:Int),()) fun(y24:Int×Unit) (I23:(Int×Unit)->WP)=>
 za (decide (y24.1<((u22.2.1:Nat):Int))) (zc (0<=y24.1/\y24.1<((u22.2.1:Nat):Int))<|
 zh u22.1 fun(p25:Addr)=>
 zl [.str,.slc,(.int .u32),(.int .u64),(.int .i64)] (p25.add (Int.toNat y24.1*5)) fun(u26:(ByteArray×SLC×Int×Int×Int×Unit))=>
 zi (.cells #[(.string ByteArray.empty),(.slice none 0 0),(.int .u32 (0:Int)),(.int .u64 (0:Int)),(.int .i64 (0:Int))] 42) fun(r27:Nat)=>
 zc ((#[(.string u26.1),(.slice u26.2.1.1 u26.2.1.2.1 u26.2.1.2.2),(.int .u32 u26.2.2.1),(.int .u64 u26.2.2.2.1),(.int .i64 u26.2.2.2.2.1)]:Array Value).size=5)<|
 zq (aD r27) [(.string u26.1),(.slice u26.2.1.1 u26.2.1.2.1 u26.2.1.2.2),(.int .u32 u26.2.2.1),(.int .u64 u26.2.2.2.1),(.int .i64 u26.2.2.2.2.1)]<|
 zB<|
 ldW .slc (aD r20) fun(u28:SLC)=>
 ldW .slc ((aD r27).add 1) fun(u29:SLC)=>
 ze prog 80 [(.slice u29.1 u29.2.1 u29.2.2)] (.one (.one .slc)) fun(u30:SLC)=>
 zt [[((aD r20),(.slice u28.1 u28.2.1 u28.2.2))]]<|
 zc (0<=y24.1/\y24.1<((u28.2.1:Nat):Int))<|
 zh u28.1 fun(p31:Addr)=>
 stW ((p31.add (Int.toNat y24.1*5)).add 1) (.slice u30.1 u30.2.1 u30.2.2)<|I23 ((wrap .i64 (y24.1+(1:Int))),()))<|
 zl [.slc,.slc] (aD r20) fun(u32:(SLC×SLC×Unit))=>
 zc ((#[(.slice u32.1.1 u32.1.2.1 u32.1.2.2),(.slice u32.2.1.1 u32.2.1.2.1 u32.2.1.2.2)]:Array Value).size=2)<|
 zq (aD r2) [(.slice u32.1.1 u32.1.2.1 u32.1.2.2),(.slice u32.2.1.1 u32.2.1.2.1 u32.2.1.2.2)]<|
 zl [.slc,.slc] (aD r2) fun(u33:(SLC×SLC×Unit))=>K (.agg #[(.slice u33.1.1 u33.1.2.1 u33.1.2.2),(.slice u33.2.1.1 u33.2.1.2.1 u33.2.1.2.2)]))<|
 zi (.cells #[(.slice none 0 0),(.slice none 0 0)] 30) fun(r34:Nat)=>
 zt [[(((aD r1).add 1),(.slice u4.1 u4.2.1 u4.2.2))],[((aD r1),(.slice u3.1 u3.2.1 u3.2.2))]]<|
 ze prog 78 [(.slice u3.1 u3.2.1 u3.2.2)] (.one (.one .slc)) fun(u35:SLC)=>
 zt [[(((aD r1).add 1),(.slice u4.1 u4.2.1 u4.2.2))]]<|
 ze prog 79 [(.slice u4.1 u4.2.1 u4.2.2)] (.one (.one .slc)) fun(u36:SLC)=>
 zc ((#[(.slice u35.1 u35.2.1 u35.2.2),(.slice u36.1 u36.2.1 u36.2.2)]:Array Value).size=2)<|
 zq (aD r34) [(.slice u35.1 u35.2.1 u35.2.2),(.slice u36.1 u36.2.1 u36.2.2)]<|
 ldW .slc (aD r34) fun(u37:SLC)=>
 zG (Int×Unit) ((0:Int),()) fun(y39:Int×Unit) (I38:(Int×Unit)->WP)=>
 za (decide (y39.1<((u37.2.1:Nat):Int))) (zc (0<=y39.1/\y39.1<((u37.2.1:Nat):Int))<|
 zh u37.1 fun(p40:Addr)=>
 zl [.str,.slc,(.int .u32),(.int .u64),(.int .i64)] (p40.add (Int.toNat y39.1*5)) fun(u41:(ByteArray×SLC×Int×Int×Int×Unit))=>
 zi (.cells #[(.string ByteArray.empty),(.slice none 0 0),(.int .u32 (0:Int)),(.int .u64 (0:Int)),(.int .i64 (0:Int))] 42) fun(r42:Nat)=>
 zc ((#[(.string u41.1),(.slice u41.2.1.1 u41.2.1.2.1 u41.2.1.2.2),(.int .u32 u41.2.2.1),(.int .u64 u41.2.2.2.1),(.int .i64 u41.2.2.2.2.1)]:Array Value).size=5)<|
 zq (aD r42) [(.string u41.1),(.slice u41.2.1.1 u41.2.1.2.1 u41.2.1.2.2),(.int .u32 u41.2.2.1),(.int .u64 u41.2.2.2.1),(.int .i64 u41.2.2.2.2.1)]<|
 zB<|
 ldW .slc (aD r34) fun(u43:SLC)=>
 ldW .slc ((aD r42).add 1) fun(u44:SLC)=>
 ze prog 80 [(.slice u44.1 u44.2.1 u44.2.2)] (.one (.one .slc)) fun(u45:SLC)=>
 zt [[((aD r34),(.slice u43.1 u43.2.1 u43.2.2))]]<|
 zc (0<=y39.1/\y39.1<((u43.2.1:Nat):Int))<|
 zh u43.1 fun(p46:Addr)=>
 stW ((p46.add (Int.toNat y39.1*5)).add 1) (.slice u45.1 u45.2.1 u45.2.2)<|I38 ((wrap .i64 (y39.1+(1:Int))),()))<|
 zl [.slc,.slc] (aD r34) fun(u47:(SLC×SLC×Unit))=>
 zc ((#[(.slice u47.1.1 u47.1.2.1 u47.1.2.2),(.slice u47.2.1.1 u47.2.1.2.1 u47.2.1.2.2)]:Array Value).size=2)<|
 zq (aD r2) [(.slice u47.1.1 u47.1.2.1 u47.1.2.2),(.slice u47.2.1.1 u47.2.1.2.1 u47.2.1.2.2)]<|
 zl [.slc,.slc] (aD r2) fun(u48:(SLC×SLC×Unit))=>K (.agg #[(.slice u48.1.1 u48.1.2.1 u48.1.2.2),(.slice u48.2.1.1 u48.2.1.2.1 u48.2.1.2.2)])
theorem zpm (Aj:Option Addr) (Ak Al:Nat) (Ab:Option Addr) (Ac Ae:Nat) {K:Value->WP} {w:World} (h:S37 Aj Ak Al Ab Ac Ae K w):Calls prog 37 #[(.agg #[(.slice Aj Ak Al),(.slice Ab Ac Ae)])] w (Ret K):=cF an37 false Tryz.func37 h
def an38:Ann:=(AN (AN (AN (AR (AN (AQ AO AP)) (AN (AR (AN (AQ AO AP)) (AR (AN (AQ (AN (AN (AN AO))) AP)) (AN (AR (AN (AQ (AN (AN AO)) AP)) (AN (AN AO)))))))))))
def S38 (a0:Option Addr) (n0 c0:Nat) (x1:Int) (a2:Option Addr) (n2 c2:Nat) (K:Value->WP):WP:=
 zc (0<=x1/\x1<=((n0:Nat):Int))<|
 za (((n2:Nat):Int)==(0:Int)) (K (.slice a0 n0 c0))<|
 za (x1==((n0:Nat):Int)) (zv prog (Builtin.append_ #[28,28] 28 #[(.slice a0 n0 c0),(.slice a2 n2 c2)]) .slc fun(u1:SLC)=>K (.slice u1.1 u1.2.1 u1.2.2))<|
 za (decide ((wrap .i64 (((n0:Nat):Int)+((n2:Nat):Int)))>((c0:Nat):Int))) (zc (0<=x1/\x1<=((c0:Nat):Int))<|
 zv prog (Builtin.append_ #[28,3] 28 #[(.slice (zk a0 0 c0 2) (Int.toNat x1) c0),(.int .i64 (wrap .i64 ((wrap .i64 (((n0:Nat):Int)+((n2:Nat):Int)))-x1)))]) .slc fun(u2:SLC)=>
 zc (0<=x1/\x1<=((u2.2.1:Nat):Int))<|
 zv prog (Builtin.copy_ #[28,28] 3 #[(.slice (zk u2.1 (Int.toNat x1) u2.2.2 2) (u2.2.1-(Int.toNat x1)) (u2.2.2-(Int.toNat x1))),(.slice a2 n2 c2)]) (.int .i64) fun(u3:Int)=>
 zB<|
 zc (0<=(wrap .i64 (x1+((n2:Nat):Int)))/\(wrap .i64 (x1+((n2:Nat):Int)))<=((u2.2.1:Nat):Int))<|
 zc (0<=x1/\x1<=((n0:Nat):Int))<|
 zv prog (Builtin.copy_ #[28,28] 3 #[(.slice (zk u2.1 (Int.toNat (wrap .i64 (x1+((n2:Nat):Int)))) u2.2.2 2) (u2.2.1-(Int.toNat (wrap .i64 (x1+((n2:Nat):Int))))) (u2.2.2-(Int.toNat (wrap .i64 (x1+((n2:Nat):Int)))))),(.slice (zk a0 (Int.toNat x1) c0 2) (n0-(Int.toNat x1)) (c0-(Int.toNat x1)))]) (.int .i64) fun(u4:Int)=>K (.slice u2.1 u2.2.1 u2.2.2))<|
 zc (0<=(wrap .i64 (((n0:Nat):Int)+((n2:Nat):Int)))/\(wrap .i64 (((n0:Nat):Int)+((n2:Nat):Int)))<=((c0:Nat):Int))<|
 zc (0<=(wrap .i64 (x1+((n2:Nat):Int)))/\(wrap .i64 (x1+((n2:Nat):Int)))<=(((Int.toNat (wrap .i64 (((n0:Nat):Int)+((n2:Nat):Int)))):Nat):Int))<|
 zjQ prog (zfu 81 #[(.slice a2 n2 c2),(.slice (zk (zk a0 0 c0 2) (Int.toNat (wrap .i64 (x1+((n2:Nat):Int)))) c0 2) ((Int.toNat (wrap .i64 (((n0:Nat):Int)+((n2:Nat):Int))))-(Int.toNat (wrap .i64 (x1+((n2:Nat):Int))))) (c0-(Int.toNat (wrap .i64 (x1+((n2:Nat):Int))))))]) (.one (.one .bool)) fun(u5:Bool)=>
 za (!u5) (zB<|
 zc (0<=(wrap .i64 (x1+((n2:Nat):Int)))/\(wrap .i64 (x1+((n2:Nat):Int)))<=(((Int.toNat (wrap .i64 (((n0:Nat):Int)+((n2:Nat):Int)))):Nat):Int))<|
 zc (0<=x1/\x1<=(((Int.toNat (wrap .i64 (((n0:Nat):Int)+((n2:Nat):Int)))):Nat):Int))<|
 zv prog (Builtin.copy_ #[28,28] 3 #[(.slice (zk (zk a0 0 c0 2) (Int.toNat (wrap .i64 (x1+((n2:Nat):Int)))) c0 2) ((Int.toNat (wrap .i64 (((n0:Nat):Int)+((n2:Nat):Int))))-(Int.toNat (wrap .i64 (x1+((n2:Nat):Int))))) (c0-(Int.toNat (wrap .i64 (x1+((n2:Nat):Int)))))),(.slice (zk (zk a0 0 c0 2) (Int.toNat x1) c0 2) ((Int.toNat (wrap .i64 (((n0:Nat):Int)+((n2:Nat):Int))))-(Int.toNat x1)) (c0-(Int.toNat x1)))]) (.int .i64) fun(u6:Int)=>
 zc (0<=x1/\x1<=(((Int.toNat (wrap .i64 (((n0:Nat):Int)+((n2:Nat):Int)))):Nat):Int))<|
 zv prog (Builtin.copy_ #[28,28] 3 #[(.slice (zk (zk a0 0 c0 2) (Int.toNat x1) c0 2) ((Int.toNat (wrap .i64 (((n0:Nat):Int)+((n2:Nat):Int))))-(Int.toNat x1)) (c0-(Int.toNat x1))),(.slice a2 n2 c2)]) (.int .i64) fun(u7:Int)=>K (.slice (zk a0 0 c0 2) (Int.toNat (wrap .i64 (((n0:Nat):Int)+((n2:Nat):Int)))) c0))<|
 zc (0<=((n0:Nat):Int)/\((n0:Nat):Int)<=(((Int.toNat (wrap .i64 (((n0:Nat):Int)+((n2:Nat):Int)))):Nat):Int))<|
 zv prog (Builtin.copy_ #[28,28] 3 #[(.slice (zk (zk a0 0 c0 2) (Int.toNat ((n0:Nat):Int)) c0 2) ((Int.toNat (wrap .i64 (((n0:Nat):Int)+((n2:Nat):Int))))-(Int.toNat ((n0:Nat):Int))) (c0-(Int.toNat ((n0:Nat):Int)))),(.slice a2 n2 c2)]) (.int .i64) fun(u8:Int)=>
 zc (0<=x1/\x1<=(((Int.toNat (wrap .i64 (((n0:Nat):Int)+((n2:Nat):Int)))):Nat):Int))<|
 ze prog 82 [(.slice (zk (zk a0 0 c0 2) (Int.toNat x1) c0 2) ((Int.toNat (wrap .i64 (((n0:Nat):Int)+((n2:Nat):Int))))-(Int.toNat x1)) (c0-(Int.toNat x1))),(.int .i64 ((n2:Nat):Int))] .none fun(u9:Unit)=>K (.slice (zk a0 0 c0 2) (Int.toNat (wrap .i64 (((n0:Nat):Int)+((n2:Nat):Int)))) c0)
theorem zpn (a0:Option Addr) (n0 c0:Nat) (x1:Int) (a2:Option Addr) (n2 c2:Nat) {K:Value->WP} {w:World} (h:S38 a0 n0 c0 x1 a2 n2 c2 K w):Calls prog 38 #[(.slice a0 n0 c0),(.int .i64 x1),(.slice a2 n2 c2)] w (Ret K):=cF an38 false Tryz.func38 h
def an39:Ann:=(AN AO)
def S39 (x0:Option Addr) (x1:Int) (K:Value->WP):WP:=
 za (decide (x1>=(2:Int))) (zh x0 fun(p1:Addr)=>
 ldW (.int .i64) (((p1.add 1).add 1).add 1) fun(u2:Int)=>
 za (decide ((wrap .u64 x1)<(wrap .u64 u2))) (zh x0 fun(p3:Addr)=>
 ldW .slc ((p3.add 1).add 4) fun(u4:SLC)=>
 ze prog 83 [(.slice u4.1 u4.2.1 u4.2.2),(.int .u32 x1)] (.one (.one .bool)) fun(u5:Bool)=>K (.bool (!u5)))<|K (.bool false))<|K (.bool false)
theorem zpo (x0:Option Addr) (x1:Int) {K:Value->WP} {w:World} (h:S39 x0 x1 K w):Calls prog 39 #[(.pointer x0),(.int .u32 x1)] w (Ret K):=cF an39 false Tryz.func39 h
def an40:Ann:=(AN (AR (AN (AQ AO AP)) AO))
def S40 (x0:Option Addr) (x1:Int) (K:Value->WP):WP:=
 za (Option.isNone x0) (K (.int .i64 (0:Int)))<|
 zh x0 fun(p1:Addr)=>
 ldW .slc (p1.add 2) fun(u2:SLC)=>
 za (decide ((wrap .u64 x1)>=(wrap .u64 ((u2.2.1:Nat):Int)))) (K (.int .i64 (0:Int)))<|
 zh x0 fun(p3:Addr)=>
 ldW .slc (p3.add 2) fun(u4:SLC)=>
 zc (0<=x1/\x1<((u4.2.1:Nat):Int))<|
 zh u4.1 fun(p5:Addr)=>
 ldW (.int .u16) (p5.add (Int.toNat x1*1)) fun(u6:Int)=>K (.int .i64 (wrap .i64 u6))
theorem zjt (x0:Option Addr) (x1:Int) {K:Value->WP} {w:World} (h:S40 x0 x1 K w):Calls prog 40 #[(.pointer x0),(.int .u32 x1)] w (Ret K):=cF an40 false Tryz.func40 h
def an41:Ann:=(AN (AN (AR (AN (AQ AO AP)) (AN AO))))
def S41 (x0:Option Addr) (x1:Int) (K:Value->WP):WP:=
 ze prog 84 [(.pointer x0),(.int .u32 x1)] (.many [(.one .ptr),(.one (.int .i64))]) fun(u1:Option Addr×Int×Unit)=>
 za (u1.2.1 !=(0:Int)) (K (.tuple #[(.int .i64 (0:Int)),(.int .i64 u1.2.1)]))<|
 zh u1.1 fun(p2:Addr)=>
 ldW (.int .u16) p2 fun(u3:Int)=>
 zh u1.1 fun(p4:Addr)=>
 stW p4 (.int .u16 (wrap .u16 (u3-(1:Int))))<|
 zh u1.1 fun(p5:Addr)=>
 ldW (.int .u16) p5 fun(u6:Int)=>K (.tuple #[(.int .i64 (wrap .i64 u6)),(.int .i64 (0:Int))])
theorem zpp (x0:Option Addr) (x1:Int) {K:Value->WP} {w:World} (h:S41 x0 x1 K w):Calls prog 41 #[(.pointer x0),(.int .u32 x1)] w (Ret K):=cF an41 false Tryz.func41 h
def an42:Ann:=(AN (.block (.loop [(2,.sh (.one (.int .i64))),(3,.sh (.one (.int .i64)))] [0,1000000] (AR (AN (AQ AP AP)) (AR (.block AP) AP)))))
def S42 (a0:Option Addr) (n0 c0:Nat) (K:Value->WP):WP:=
 zG (Int×Int×Unit) ((0:Int),(wrap .i64 (((n0:Nat):Int)-(1:Int))),()) fun(y2:Int×Int×Unit) (I1:(Int×Int×Unit)->WP)=>
 za (decide (y2.1<y2.2.1)) (zB<|
 zc (0<=y2.2.1/\y2.2.1<((n0:Nat):Int))<|
 zh a0 fun(p3:Addr)=>
 ldW (.int .u32) (p3.add (Int.toNat y2.2.1*1)) fun(u4:Int)=>
 zc (0<=y2.1/\y2.1<((n0:Nat):Int))<|
 zh a0 fun(p5:Addr)=>
 ldW (.int .u32) (p5.add (Int.toNat y2.1*1)) fun(u6:Int)=>
 zc (0<=y2.1/\y2.1<((n0:Nat):Int))<|
 zh a0 fun(p7:Addr)=>
 stW (p7.add (Int.toNat y2.1*1)) (.int .u32 u4)<|
 zc (0<=y2.2.1/\y2.2.1<((n0:Nat):Int))<|
 zh a0 fun(p8:Addr)=>
 stW (p8.add (Int.toNat y2.2.1*1)) (.int .u32 u6)<|I1 ((wrap .i64 (y2.1+(1:Int))),(wrap .i64 (y2.2.1-(1:Int))),()))<|K (.tuple #[])
theorem zpq (a0:Option Addr) (n0 c0:Nat) {K:Value->WP} {w:World} (h:S42 a0 n0 c0 K w):Calls prog 42 #[(.slice a0 n0 c0)] w (Ret K):=cF an42 false Tryz.func42 h
def an43:Ann:=(AN (AR (AN (AQ AO AP)) (AR (AN (AN (AQ AO AP))) (AN (AN (AR (AN (.block (.loop [(30,.sh (.one (.int .u64))),(31,.sh (.one (.int .u64)))] [] (AR AO (.block AP))))) (AR (AN (AQ AO AP)) (AN (AR (AN (AQ AO AP)) (AN (AR (AN (AQ AO AP)) (AN (AR (AN (AQ AO AP)) (AR (AN (.block (.loop [(87,.sh (.one (.int .i64)))] [4,7,8,13,85,86,1000000] (AN (AR (AQ AP AP) (AR (.block (AN (AR (AN (AQ AO AP)) AP))) AP)))))) AO))))))))))))))
def S43 (x0:Option Addr) (x1:Int) (K:Value->WP):WP:=
 zi (.cells #[(.slice none 0 0),(.slice none 0 0)] 30) fun(r1:Nat)=>
 za (x1==(0:Int)) (zc ((#[(.slice none 0 0),(.slice none 0 0)]:Array Value).size=2)<|
 zq (aD r1) [(.slice none 0 0),(.slice none 0 0)]<|
 zW prog []<|
 zl [.slc,.slc] (aD r1) fun(u2:(SLC×SLC×Unit))=>K (.tuple #[(.agg #[(.slice u2.1.1 u2.1.2.1 u2.1.2.2),(.slice u2.2.1.1 u2.2.1.2.1 u2.2.1.2.2)]),(.int .i64 (0:Int))]))<|
 ze prog 85 [(.pointer x0),(.int .u32 x1)] (.one (.one (.int .i64))) fun(u3:Int)=>
 za (u3 !=(0:Int)) (zc ((#[(.slice none 0 0),(.slice none 0 0)]:Array Value).size=2)<|
 zq (aD r1) [(.slice none 0 0),(.slice none 0 0)]<|
 zW prog []<|
 zl [.slc,.slc] (aD r1) fun(u4:(SLC×SLC×Unit))=>K (.tuple #[(.agg #[(.slice u4.1.1 u4.1.2.1 u4.1.2.2),(.slice u4.2.1.1 u4.2.1.2.1 u4.2.1.2.2)]),(.int .i64 u3)]))<|
 zi (.cells #[(.slice none 0 0)] 138) fun(r5:Nat)=>
 zi (.cells #[(.slice none 0 0)] 47) fun(r6:Nat)=>
 ze prog 86 [(.pointer x0),(.int .u32 x1),(.int .u64 (0:Int))] (.one (.one .any)) fun(u7:Value)=>
 jj prog u7 (Int×Int×Unit) (fun(t8:Int×Int×Unit)=>[(.int .u64 t8.1),(.int .u64 t8.2.1)]) (fun(t8:Int×Int×Unit) (B9:WP->WP) (N10:WP) (Q11:Code->WP)=>B9 (zB<|
 ldW .slc (aD r5) fun(u14:SLC)=>
 ldW .slc (aD r6) fun(u15:SLC)=>
 kI (zi (.cells #[(.int .u64 t8.1)] 40) fun(r16:Nat)=>
 zt [[((aD r6),(.slice u15.1 u15.2.1 u15.2.2))],[((aD r5),(.slice u14.1 u14.2.1 u14.2.2))]]<|
 kI (zv prog (Builtin.append_ #[138,138] 138 #[(.slice u14.1 u14.2.1 u14.2.2),(.slice (some (aD r16)) 1 1)]) .slc fun(u17:SLC)=>
 zt [[((aD r6),(.slice u15.1 u15.2.1 u15.2.2))]]<|
 zi (.cells #[(.int .u32 (wrap .u32 t8.2.1))] 39) fun(r18:Nat)=>
 zt [[((aD r6),(.slice u15.1 u15.2.1 u15.2.2))],[((aD r5),(.slice u14.1 u14.2.1 u14.2.2))]]<|
 zv prog (Builtin.append_ #[47,47] 47 #[(.slice u15.1 u15.2.1 u15.2.2),(.slice (some (aD r18)) 1 1)]) .slc fun(u19:SLC)=>
 stW (aD r5) (.slice u17.1 u17.2.1 u17.2.2)<|
 stW (aD r6) (.slice u19.1 u19.2.1 u19.2.2)<|N10)<|
 zi (.cells #[(.int .u32 (wrap .u32 t8.2.1))] 39) fun(r20:Nat)=>
 zt [[((aD r6),(.slice u15.1 u15.2.1 u15.2.2))],[((aD r5),(.slice u14.1 u14.2.1 u14.2.2))]]<|
 zv prog (Builtin.append_ #[138,138] 138 #[(.slice u14.1 u14.2.1 u14.2.2),(.slice (some (aD r16)) 1 1)]) .slc fun(u21:SLC)=>
 zt [[((aD r6),(.slice u15.1 u15.2.1 u15.2.2))]]<|
 zv prog (Builtin.append_ #[47,47] 47 #[(.slice u15.1 u15.2.1 u15.2.2),(.slice (some (aD r20)) 1 1)]) .slc fun(u22:SLC)=>
 stW (aD r5) (.slice u21.1 u21.2.1 u21.2.2)<|
 stW (aD r6) (.slice u22.1 u22.2.1 u22.2.2)<|N10)<|
 zi (.cells #[(.int .u32 (wrap .u32 t8.2.1))] 39) fun(r23:Nat)=>
 zt [[((aD r6),(.slice u15.1 u15.2.1 u15.2.2))],[((aD r5),(.slice u14.1 u14.2.1 u14.2.2))]]<|
 zi (.cells #[(.int .u64 t8.1)] 40) fun(r24:Nat)=>
 zt [[((aD r6),(.slice u15.1 u15.2.1 u15.2.2))],[((aD r5),(.slice u14.1 u14.2.1 u14.2.2))]]<|
 zv prog (Builtin.append_ #[138,138] 138 #[(.slice u14.1 u14.2.1 u14.2.2),(.slice (some (aD r24)) 1 1)]) .slc fun(u25:SLC)=>
 zt [[((aD r6),(.slice u15.1 u15.2.1 u15.2.2))]]<|
 zv prog (Builtin.append_ #[47,47] 47 #[(.slice u15.1 u15.2.1 u15.2.2),(.slice (some (aD r23)) 1 1)]) .slc fun(u26:SLC)=>
 stW (aD r5) (.slice u25.1 u25.2.1 u25.2.2)<|
 stW (aD r6) (.slice u26.1 u26.2.1 u26.2.2)<|N10)) fun(r12:Nat) (p13:Option Code)=>
 qN (ze prog 87 [(.pointer x0),(.int .u32 x1)] (.one (.one .bool)) fun(u27:Bool)=>
 za (!u27) (zc ((#[(.slice none 0 0),(.slice none 0 0)]:Array Value).size=2)<|
 zq (aD r1) [(.slice none 0 0),(.slice none 0 0)]<|
 zW prog (⟨.collected r12,#[]⟩::[])<|
 zl [.slc,.slc] (aD r1) fun(u28:(SLC×SLC×Unit))=>K (.tuple #[(.agg #[(.slice u28.1.1 u28.1.2.1 u28.1.2.2),(.slice u28.2.1.1 u28.2.1.2.1 u28.2.1.2.2)]),(.int .i64 (10:Int))]))<|
 ldW .slc (aD r5) fun(u29:SLC)=>
 za (((u29.2.1:Nat):Int)==(0:Int)) (zc ((#[(.slice none 0 0),(.slice none 0 0)]:Array Value).size=2)<|
 zq (aD r1) [(.slice none 0 0),(.slice none 0 0)]<|
 zW prog (⟨.collected r12,#[]⟩::[])<|
 zl [.slc,.slc] (aD r1) fun(u30:(SLC×SLC×Unit))=>K (.tuple #[(.agg #[(.slice u30.1.1 u30.1.2.1 u30.1.2.2),(.slice u30.2.1.1 u30.2.1.2.1 u30.2.1.2.2)]),(.int .i64 (10:Int))]))<|
 ldW .slc (aD r5) fun(u31:SLC)=>
 zc (0<=(0:Int)/\(0:Int)<((u31.2.1:Nat):Int))<|
 zh u31.1 fun(p32:Addr)=>
 ldW (.int .u64) (p32.add (Int.toNat (0:Int)*1)) fun(u33:Int)=>
 za (u33 !=(0:Int)) (zc ((#[(.slice none 0 0),(.slice none 0 0)]:Array Value).size=2)<|
 zq (aD r1) [(.slice none 0 0),(.slice none 0 0)]<|
 zW prog (⟨.collected r12,#[]⟩::[])<|
 zl [.slc,.slc] (aD r1) fun(u34:(SLC×SLC×Unit))=>K (.tuple #[(.agg #[(.slice u34.1.1 u34.1.2.1 u34.1.2.2),(.slice u34.2.1.1 u34.2.1.2.1 u34.2.1.2.2)]),(.int .i64 (10:Int))]))<|
 ldW .slc (aD r6) fun(u35:SLC)=>
 zc (0<=(0:Int)/\(0:Int)<((u35.2.1:Nat):Int))<|
 zh u35.1 fun(p36:Addr)=>
 ldW (.int .u32) (p36.add (Int.toNat (0:Int)*1)) fun(u37:Int)=>
 ze prog 88 [(.pointer x0),(.int .u32 u37)] (.many [(.one .str),(.one (.int .i64))]) fun(u38:ByteArray×Int×Unit)=>
 za (u38.2.1 !=(0:Int)) (zc ((#[(.slice none 0 0),(.slice none 0 0)]:Array Value).size=2)<|
 zq (aD r1) [(.slice none 0 0),(.slice none 0 0)]<|
 zW prog (⟨.collected r12,#[]⟩::[])<|
 zl [.slc,.slc] (aD r1) fun(u39:(SLC×SLC×Unit))=>K (.tuple #[(.agg #[(.slice u39.1.1 u39.1.2.1 u39.1.2.2),(.slice u39.2.1.1 u39.2.1.2.1 u39.2.1.2.2)]),(.int .i64 u38.2.1)]))<|
 ze prog 89 [(.string u38.1)] (.many [(.agg [.slc,.slc]),(.one (.int .i64))]) fun(u40:(SLC×SLC×Unit)×Int×Unit)=>
 zi (.cells #[(.slice none 0 0),(.slice none 0 0)] 30) fun(r41:Nat)=>
 zc ((#[(.slice u40.1.1.1 u40.1.1.2.1 u40.1.1.2.2),(.slice u40.1.2.1.1 u40.1.2.1.2.1 u40.1.2.1.2.2)]:Array Value).size=2)<|
 zq (aD r41) [(.slice u40.1.1.1 u40.1.1.2.1 u40.1.1.2.2),(.slice u40.1.2.1.1 u40.1.2.1.2.1 u40.1.2.1.2.2)]<|
 za (u40.2.1 !=(0:Int)) (zc ((#[(.slice none 0 0),(.slice none 0 0)]:Array Value).size=2)<|
 zq (aD r1) [(.slice none 0 0),(.slice none 0 0)]<|
 zW prog (⟨.collected r12,#[]⟩::[])<|
 zl [.slc,.slc] (aD r1) fun(u42:(SLC×SLC×Unit))=>K (.tuple #[(.agg #[(.slice u42.1.1 u42.1.2.1 u42.1.2.2),(.slice u42.2.1.1 u42.2.1.2.1 u42.2.1.2.2)]),(.int .i64 (10:Int))]))<|
 ze prog 73 [(.pointer (some (aD r41)))] (.one (.one .slc)) fun(u43:SLC)=>
 ldW .slc (aD r5) fun(u44:SLC)=>
 za (((u43.2.1:Nat):Int) !=(wrap .i64 (((u44.2.1:Nat):Int)-(1:Int)))) (zc ((#[(.slice none 0 0),(.slice none 0 0)]:Array Value).size=2)<|
 zq (aD r1) [(.slice none 0 0),(.slice none 0 0)]<|
 zW prog (⟨.collected r12,#[]⟩::[])<|
 zl [.slc,.slc] (aD r1) fun(u45:(SLC×SLC×Unit))=>K (.tuple #[(.agg #[(.slice u45.1.1 u45.1.2.1 u45.1.2.2),(.slice u45.2.1.1 u45.2.1.2.1 u45.2.1.2.2)]),(.int .i64 (10:Int))]))<|
 zG (Int×Unit) ((0:Int),()) fun(y47:Int×Unit) (I46:(Int×Unit)->WP)=>
 za (decide (y47.1<((u43.2.1:Nat):Int))) (zc (0<=y47.1/\y47.1<((u43.2.1:Nat):Int))<|
 zh u43.1 fun(p48:Addr)=>
 zl [(.int .u64),.ptr] (p48.add (Int.toNat y47.1*2)) fun(u49:(Int×Option Addr×Unit))=>
 zi (.cells #[(.int .u64 (0:Int)),(.pointer none)] 135) fun(r50:Nat)=>
 zc ((#[(.int .u64 u49.1),(.pointer u49.2.1)]:Array Value).size=2)<|
 zq (aD r50) [(.int .u64 u49.1),(.pointer u49.2.1)]<|
 zB<|
 ldW .slc (aD r5) fun(u51:SLC)=>
 zc (0<=(wrap .i64 (y47.1+(1:Int)))/\(wrap .i64 (y47.1+(1:Int)))<((u51.2.1:Nat):Int))<|
 zh u51.1 fun(p52:Addr)=>
 ldW (.int .u64) (p52.add (Int.toNat (wrap .i64 (y47.1+(1:Int)))*1)) fun(u53:Int)=>
 ldW (.int .u64) (aD r50) fun(u54:Int)=>
 za (u53 !=u54) (zc ((#[(.slice none 0 0),(.slice none 0 0)]:Array Value).size=2)<|
 zq (aD r1) [(.slice none 0 0),(.slice none 0 0)]<|
 zW prog (⟨.collected r12,#[]⟩::[])<|
 zl [.slc,.slc] (aD r1) fun(u55:(SLC×SLC×Unit))=>K (.tuple #[(.agg #[(.slice u55.1.1 u55.1.2.1 u55.1.2.2),(.slice u55.2.1.1 u55.2.1.2.1 u55.2.1.2.2)]),(.int .i64 (10:Int))]))<|
 zB<|
 ldW .ptr ((aD r50).add 1) fun(u56:Option Addr)=>
 ldW .slc (aD r6) fun(u57:SLC)=>
 zc (0<=(wrap .i64 (y47.1+(1:Int)))/\(wrap .i64 (y47.1+(1:Int)))<((u57.2.1:Nat):Int))<|
 zh u57.1 fun(p58:Addr)=>
 ldW (.int .u32) (p58.add (Int.toNat (wrap .i64 (y47.1+(1:Int)))*1)) fun(u59:Int)=>
 zh u56 fun(p60:Addr)=>
 stW p60 (.int .u32 u59)<|I46 ((wrap .i64 (y47.1+(1:Int))),()))<|
 zl [.slc,.slc] (aD r41) fun(u61:(SLC×SLC×Unit))=>
 zc ((#[(.slice u61.1.1 u61.1.2.1 u61.1.2.2),(.slice u61.2.1.1 u61.2.1.2.1 u61.2.1.2.2)]:Array Value).size=2)<|
 zq (aD r1) [(.slice u61.1.1 u61.1.2.1 u61.1.2.2),(.slice u61.2.1.1 u61.2.1.2.1 u61.2.1.2.2)]<|
 zW prog (⟨.collected r12,#[]⟩::[])<|
 zl [.slc,.slc] (aD r1) fun(u62:(SLC×SLC×Unit))=>K (.tuple #[(.agg #[(.slice u62.1.1 u62.1.2.1 u62.1.2.2),(.slice u62.2.1.1 u62.2.1.2.1 u62.2.1.2.2)]),(.int .i64 (0:Int))])) (zW prog (⟨.collected r12,#[]⟩::[])<|
 zl [.slc,.slc] (aD r1) fun(u63:(SLC×SLC×Unit))=>K (.tuple #[(.agg #[(.slice u63.1.1 u63.1.2.1 u63.1.2.2),(.slice u63.2.1.1 u63.2.1.2.1 u63.2.1.2.2)]),(.int .i64 (0:Int))])) [] p13
theorem zfJ (x0:Option Addr) (x1:Int) {K:Value->WP} {w:World} (h:S43 x0 x1 K w):Calls prog 43 #[(.pointer x0),(.int .u32 x1)] w (Ret K):=cF an43 true Tryz.func43 h
def an44:Ann:=(AN (AR (.block (AN (AQ AO (AN (AQ AO AP))))) (AR (AN (.block (.loop [(18,.sh (.one (.int .i64))),(19,.sh (.agg [(.int .i64),.str]))] [] (AN (.block (AN (AQ AO AP))))))) AO)))
def S44 (x0:Option Addr) (x1:Int) (K:Value->WP):WP:=
 zi (.cells #[(.int .i64 x1)] 3) fun(r1:Nat)=>
 zi (.cells #[(.string ByteArray.empty)] 9) fun(r2:Nat)=>
 zi (.cells #[(.int .i64 (0:Int))] 34) fun(r3:Nat)=>
 za (Option.isNone x0) (stW (aD r2) (.string (ByteArray.mk #[]))<|
 stW (aD r3) (.int .i64 (1:Int))<|
 zW prog []<|
 ldW .str (aD r2) fun(u4:ByteArray)=>
 ldW (.int .i64) (aD r3) fun(u5:Int)=>K (.tuple #[(.string u4),(.int .i64 u5)]))<|
 ldW (.int .i64) (aD r1) fun(u6:Int)=>
 ze prog 90 [(.pointer x0),(.int .i64 u6)] (.one (.one .bool)) fun(u7:Bool)=>
 za (!u7) (stW (aD r2) (.string (ByteArray.mk #[]))<|
 stW (aD r3) (.int .i64 (2:Int))<|
 zW prog []<|
 ldW .str (aD r2) fun(u8:ByteArray)=>
 ldW (.int .i64) (aD r3) fun(u9:Int)=>K (.tuple #[(.string u8),(.int .i64 u9)]))<|
 ze prog 91 [(.pointer x0)] (.one (.one .any)) fun(u10:Value)=>
 jj prog u10 (Int×(Int×ByteArray×Unit)×Unit) (fun(t11:Int×(Int×ByteArray×Unit)×Unit)=>[(.int .i64 t11.1),(.agg #[(.int .i64 t11.2.1.1),(.string t11.2.1.2.1)])]) (fun(t11:Int×(Int×ByteArray×Unit)×Unit) (B12:WP->WP) (N13:WP) (Q14:Code->WP)=>
 zi (.cells #[(.int .i64 (0:Int)),(.string ByteArray.empty)] 165) fun(r17:Nat)=>
 zc ((#[(.int .i64 t11.2.1.1),(.string t11.2.1.2.1)]:Array Value).size=2)<|
 zq (aD r17) [(.int .i64 t11.2.1.1),(.string t11.2.1.2.1)]<|B12 (ldW (.int .i64) (aD r17) fun(u18:Int)=>
 ldW (.int .i64) (aD r1) fun(u19:Int)=>
 za (u18==u19) (ldW .str ((aD r17).add 1) fun(u20:ByteArray)=>
 stW (aD r2) (.string u20)<|
 stW (aD r3) (.int .i64 (0:Int))<|Q14 .ret)<|N13)) fun(r15:Nat) (p16:Option Code)=>
 qN (zB<|
 zh x0 fun(p21:Addr)=>
 ldW .slc (p21.add 2) fun(u22:SLC)=>
 ldW (.int .i64) (aD r1) fun(u23:Int)=>
 zc (0<=u23/\u23<((u22.2.1:Nat):Int))<|
 zh u22.1 fun(p24:Addr)=>
 ldW .str (p24.add (Int.toNat u23*1)) fun(u25:ByteArray)=>
 stW (aD r2) (.string u25)<|
 stW (aD r3) (.int .i64 (0:Int))<|
 zW prog (⟨.collected r15,#[]⟩::[])<|
 ldW .str (aD r2) fun(u26:ByteArray)=>
 ldW (.int .i64) (aD r3) fun(u27:Int)=>K (.tuple #[(.string u26),(.int .i64 u27)])) (zW prog (⟨.collected r15,#[]⟩::[])<|
 ldW .str (aD r2) fun(u28:ByteArray)=>
 ldW (.int .i64) (aD r3) fun(u29:Int)=>K (.tuple #[(.string u28),(.int .i64 u29)])) [] p16
theorem zpr (x0:Option Addr) (x1:Int) {K:Value->WP} {w:World} (h:S44 x0 x1 K w):Calls prog 44 #[(.pointer x0),(.int .i64 x1)] w (Ret K):=cF an44 true Tryz.func44 h
def an45:Ann:=(AN (AN (AR (AN (AQ AO AP)) (AN (AN (AR (AN (AQ AO AP)) (AN (AR (AN (.block (.loop [(41,.sh (.one (.int .u64)))] [0,4,7,40,1000000] (AN (AR (AQ AP AP) (AR (.block (AN (AR (AN (AQ AO AP)) AP))) AP)))))) (AN (AN AO))))))))))
def S45 (x0:Option Addr) (x1:ByteArray) (K:Value->WP):WP:=
 zi (.cells #[(.int .u8 (0:Int)),(.slice none 0 0),(.string ByteArray.empty)] 49) fun(r1:Nat)=>
 ze prog 92 [(.string x1)] (.many [(.agg [(.int .u8),(.int .u64),.str]),(.one (.int .i64))]) fun(u2:(Int×Int×ByteArray×Unit)×Int×Unit)=>
 zi (.cells #[(.int .u8 (0:Int)),(.int .u64 (0:Int)),(.string ByteArray.empty)] 128) fun(r3:Nat)=>
 zc ((#[(.int .u8 u2.1.1),(.int .u64 u2.1.2.1),(.string u2.1.2.2.1)]:Array Value).size=3)<|
 zq (aD r3) [(.int .u8 u2.1.1),(.int .u64 u2.1.2.1),(.string u2.1.2.2.1)]<|
 za (u2.2.1 !=(0:Int)) (zl [(.int .u8),.slc,.str] (aD r1) fun(u4:(Int×SLC×ByteArray×Unit))=>
 zc ((#[(.int .u8 u4.1),(.slice u4.2.1.1 u4.2.1.2.1 u4.2.1.2.2),(.string u4.2.2.1)]:Array Value).size=3)<|
 zq (aD r1) [(.int .u8 u4.1),(.slice u4.2.1.1 u4.2.1.2.1 u4.2.1.2.2),(.string u4.2.2.1)]<|
 zl [(.int .u8),.slc,.str] (aD r1) fun(u5:(Int×SLC×ByteArray×Unit))=>K (.tuple #[(.agg #[(.int .u8 u5.1),(.slice u5.2.1.1 u5.2.1.2.1 u5.2.1.2.2),(.string u5.2.2.1)]),(.int .i64 (10:Int))]))<|
 ldW (.int .u8) (aD r3) fun(u6:Int)=>
 za (decide (u6<(3:Int))) (zl [(.int .u8),.slc,.str] (aD r1) fun(u7:(Int×SLC×ByteArray×Unit))=>
 zc ((#[(.int .u8 u7.1),(.slice u7.2.1.1 u7.2.1.2.1 u7.2.1.2.2),(.string u7.2.2.1)]:Array Value).size=3)<|
 zq (aD r1) [(.int .u8 u7.1),(.slice u7.2.1.1 u7.2.1.2.1 u7.2.1.2.2),(.string u7.2.2.1)]<|
 zl [(.int .u8),.slc,.str] (aD r1) fun(u8:(Int×SLC×ByteArray×Unit))=>K (.tuple #[(.agg #[(.int .u8 u8.1),(.slice u8.2.1.1 u8.2.1.2.1 u8.2.1.2.2),(.string u8.2.2.1)]),(.int .i64 (10:Int))]))<|
 ldW .str ((aD r3).add 2) fun(u9:ByteArray)=>
 zv prog (Go.convert 9 119 (.string u9)) .slc fun(u10:SLC)=>
 ze prog 93 [(.slice u10.1 u10.2.1 u10.2.2)] (.one (.one .ptr)) fun(u11:Option Addr)=>
 ze prog 94 [(.pointer u11),(.int .i64 (2:Int))] (.many [(.one (.int .u64)),(.one (.int .i64))]) fun(u12:Int×Int×Unit)=>
 za (u12.2.1 !=(0:Int)) (zl [(.int .u8),.slc,.str] (aD r1) fun(u13:(Int×SLC×ByteArray×Unit))=>
 zc ((#[(.int .u8 u13.1),(.slice u13.2.1.1 u13.2.1.2.1 u13.2.1.2.2),(.string u13.2.2.1)]:Array Value).size=3)<|
 zq (aD r1) [(.int .u8 u13.1),(.slice u13.2.1.1 u13.2.1.2.1 u13.2.1.2.2),(.string u13.2.2.1)]<|
 zl [(.int .u8),.slc,.str] (aD r1) fun(u14:(Int×SLC×ByteArray×Unit))=>K (.tuple #[(.agg #[(.int .u8 u14.1),(.slice u14.2.1.1 u14.2.1.2.1 u14.2.1.2.2),(.string u14.2.2.1)]),(.int .i64 (10:Int))]))<|
 ldW (.int .u8) (aD r3) fun(u15:Int)=>
 stW (aD r1) (.int .u8 u15)<|
 zG (Int×Unit) ((0:Int),()) fun(y17:Int×Unit) (I16:(Int×Unit)->WP)=>
 za (decide (y17.1<u12.1)) (ze prog 94 [(.pointer u11),(.int .i64 (4:Int))] (.many [(.one (.int .u64)),(.one (.int .i64))]) fun(u18:Int×Int×Unit)=>
 za (u18.2.1 !=(0:Int)) (zc ((#[(.int .u8 (0:Int)),(.slice none 0 0),(.string ByteArray.empty)]:Array Value).size=3)<|
 zq (aD r1) [(.int .u8 (0:Int)),(.slice none 0 0),(.string ByteArray.empty)]<|
 zl [(.int .u8),.slc,.str] (aD r1) fun(u19:(Int×SLC×ByteArray×Unit))=>K (.tuple #[(.agg #[(.int .u8 u19.1),(.slice u19.2.1.1 u19.2.1.2.1 u19.2.1.2.2),(.string u19.2.2.1)]),(.int .i64 (10:Int))]))<|
 za (decide (u18.1<(2:Int))) (zc ((#[(.int .u8 (0:Int)),(.slice none 0 0),(.string ByteArray.empty)]:Array Value).size=3)<|
 zq (aD r1) [(.int .u8 (0:Int)),(.slice none 0 0),(.string ByteArray.empty)]<|
 zl [(.int .u8),.slc,.str] (aD r1) fun(u20:(Int×SLC×ByteArray×Unit))=>K (.tuple #[(.agg #[(.int .u8 u20.1),(.slice u20.2.1.1 u20.2.1.2.1 u20.2.1.2.2),(.string u20.2.2.1)]),(.int .i64 (10:Int))]))<|
 zh x0 fun(p21:Addr)=>
 ldW (.int .i64) (((p21.add 1).add 1).add 1) fun(u22:Int)=>
 za (decide (u18.1>=(wrap .u64 u22))) (zc ((#[(.int .u8 (0:Int)),(.slice none 0 0),(.string ByteArray.empty)]:Array Value).size=3)<|
 zq (aD r1) [(.int .u8 (0:Int)),(.slice none 0 0),(.string ByteArray.empty)]<|
 zl [(.int .u8),.slc,.str] (aD r1) fun(u23:(Int×SLC×ByteArray×Unit))=>K (.tuple #[(.agg #[(.int .u8 u23.1),(.slice u23.2.1.1 u23.2.1.2.1 u23.2.1.2.2),(.string u23.2.2.1)]),(.int .i64 (10:Int))]))<|
 ldW .slc ((aD r1).add 1) fun(u24:SLC)=>
 zi (.cells #[(.int .u32 (wrap .u32 u18.1))] 39) fun(r25:Nat)=>
 zv prog (Builtin.append_ #[47,47] 47 #[(.slice u24.1 u24.2.1 u24.2.2),(.slice (some (aD r25)) 1 1)]) .slc fun(u26:SLC)=>
 stW ((aD r1).add 1) (.slice u26.1 u26.2.1 u26.2.2)<|I16 ((wrap .u64 (y17.1+(1:Int))),()))<|
 ze prog 96 [(.pointer u11)] (.one (.one (.int .i64))) fun(u27:Int)=>
 ze prog 95 [(.pointer u11),(.int .i64 u27)] (.many [(.one .slc),(.one (.int .i64))]) fun(u28:SLC×Int×Unit)=>
 zv prog (Go.convert 119 9 (.slice u28.1.1 u28.1.2.1 u28.1.2.2)) .str fun(u29:ByteArray)=>
 stW ((aD r1).add 2) (.string u29)<|
 zl [(.int .u8),.slc,.str] (aD r1) fun(u30:(Int×SLC×ByteArray×Unit))=>
 zc ((#[(.int .u8 u30.1),(.slice u30.2.1.1 u30.2.1.2.1 u30.2.1.2.2),(.string u30.2.2.1)]:Array Value).size=3)<|
 zq (aD r1) [(.int .u8 u30.1),(.slice u30.2.1.1 u30.2.1.2.1 u30.2.1.2.2),(.string u30.2.2.1)]<|
 zl [(.int .u8),.slc,.str] (aD r1) fun(u31:(Int×SLC×ByteArray×Unit))=>K (.tuple #[(.agg #[(.int .u8 u31.1),(.slice u31.2.1.1 u31.2.1.2.1 u31.2.1.2.2),(.string u31.2.2.1)]),(.int .i64 u28.2.1)])
theorem zps (x0:Option Addr) (x1:ByteArray) {K:Value->WP} {w:World} (h:S45 x0 x1 K w):Calls prog 45 #[(.pointer x0),(.string x1)] w (Ret K):=cF an45 false Tryz.func45 h
def an46:Ann:=(AN (AN (AR (AN (AQ AO AP)) (AN (AN (AN AO))))))
def S46 (a0:Option Addr) (n0 c0:Nat) (x1:Int) (x2:Int) (K:Value->WP):WP:=
 zc (0<=x1/\x1<=x2/\x2<=((n0:Nat):Int)/\((n0:Nat):Int)<=((c0:Nat):Int))<|
 za (x1==x2) (K (.slice a0 n0 c0))<|
 zB<|
 zc (0<=x1/\x1<=((c0:Nat):Int))<|
 zc (0<=x2/\x2<=((n0:Nat):Int))<|
 zv prog (Builtin.append_ #[28,28] 28 #[(.slice (zk a0 0 c0 2) (Int.toNat x1) c0),(.slice (zk a0 (Int.toNat x2) c0 2) (n0-(Int.toNat x2)) (c0-(Int.toNat x2)))]) .slc fun(u1:SLC)=>
 zc (0<=((u1.2.1:Nat):Int)/\((u1.2.1:Nat):Int)<=((n0:Nat):Int)/\((n0:Nat):Int)<=((u1.2.2:Nat):Int))<|
 zv prog (Builtin.clear_ #[28] 0 #[(.slice (zk u1.1 (Int.toNat ((u1.2.1:Nat):Int)) u1.2.2 2) ((Int.toNat ((n0:Nat):Int))-(Int.toNat ((u1.2.1:Nat):Int))) (u1.2.2-(Int.toNat ((u1.2.1:Nat):Int))))]) .any fun(u2:Value)=>K (.slice u1.1 u1.2.1 u1.2.2)
theorem zpt (a0:Option Addr) (n0 c0:Nat) (x1:Int) (x2:Int) {K:Value->WP} {w:World} (h:S46 a0 n0 c0 x1 x2 K w):Calls prog 46 #[(.slice a0 n0 c0),(.int .i64 x1),(.int .i64 x2)] w (Ret K):=cF an46 false Tryz.func46 h
def an47:Ann:=(AN (AR (AN (AQ AO AP)) (AN (AN (AR (AN (.block (.loop [(23,.sh (.one (.int .u32)))] [] (AN (.block AP))))) (AR (AN (AQ AO AP)) (AN (AR (AN (.block (.loop [(43,.sh (.one (.int .i64)))] [6,41,42,1000000] (AN (AR (AQ AP AP) (AR (.block AO) AP)))))) AO))))))))
def S47 (x0:Option Addr) (a1:Option Addr) (n1 c1:Nat) (K:Value->WP):WP:=
 za (Option.isNone x0) (zW prog []<|K (.tuple #[(.slice none 0 0),(.int .i64 (1:Int))]))<|
 zh x0 fun(p1:Addr)=>
 ldW (.int .i64) (((p1.add 1).add 1).add 1) fun(u2:Int)=>
 zv prog (Instr.makeSlice 100 (.int .i64 u2) (.int .i64 u2)) .slc fun(u3:SLC)=>
 zi (.cells #[(.slice none 0 0)] 100) fun(r4:Nat)=>
 stW (aD r4) (.slice u3.1 u3.2.1 u3.2.2)<|
 zi (.cells #[(.int .i64 (0:Int))] 34) fun(r5:Nat)=>
 stW (aD r5) (.int .i64 (0:Int))<|
 ze prog 97 [(.pointer x0),(.slice a1 n1 c1),(.pointer (some (aD r5)))] (.one (.one .any)) fun(u6:Value)=>
 jj prog u6 (Int×Unit) (fun(t7:Int×Unit)=>[(.int .u32 t7.1)]) (fun(t7:Int×Unit) (B8:WP->WP) (N9:WP) (Q10:Code->WP)=>B8 (ldW .slc (aD r4) fun(u13:SLC)=>
 zc (0<=t7.1/\t7.1<((u13.2.1:Nat):Int))<|
 zh u13.1 fun(p14:Addr)=>
 ldW (.int .i64) (p14.add (Int.toNat t7.1*1)) fun(u15:Int)=>
 zc (0<=t7.1/\t7.1<((u13.2.1:Nat):Int))<|
 zh u13.1 fun(p16:Addr)=>
 stW (p16.add (Int.toNat t7.1*1)) (.int .i64 (wrap .i64 (u15+(1:Int))))<|N9)) fun(r11:Nat) (p12:Option Code)=>
 qN (ldW (.int .i64) (aD r5) fun(u17:Int)=>
 za (u17 !=(0:Int)) (zB<|
 ldW (.int .i64) (aD r5) fun(u18:Int)=>
 zW prog (⟨.collected r11,#[]⟩::[])<|K (.tuple #[(.slice none 0 0),(.int .i64 u18)]))<|
 zB<|
 ldW .slc (aD r4) fun(u19:SLC)=>
 ldW .slc (aD r4) fun(u20:SLC)=>
 zc (0<=(0:Int)/\(0:Int)<((u19.2.1:Nat):Int))<|
 zh u19.1 fun(p21:Addr)=>
 stW (p21.add (Int.toNat (0:Int)*1)) (.int .i64 (1:Int))<|
 zt [[((aD r4),(.slice u20.1 u20.2.1 u20.2.2))]]<|
 zc (0<=(1:Int)/\(1:Int)<((u20.2.1:Nat):Int))<|
 zh u20.1 fun(p22:Addr)=>
 stW (p22.add (Int.toNat (1:Int)*1)) (.int .i64 (1:Int))<|
 zh x0 fun(p23:Addr)=>
 ldW .slc ((p23.add 1).add 4) fun(u24:SLC)=>
 zG (Int×Unit) ((0:Int),()) fun(y26:Int×Unit) (I25:(Int×Unit)->WP)=>
 za (decide (y26.1<((u24.2.1:Nat):Int))) (zc (0<=y26.1/\y26.1<((u24.2.1:Nat):Int))<|
 zh u24.1 fun(p27:Addr)=>
 ldW (.int .u32) (p27.add (Int.toNat y26.1*1)) fun(u28:Int)=>
 ldW .slc (aD r4) fun(u29:SLC)=>
 zc (0<=u28/\u28<((u29.2.1:Nat):Int))<|
 zh u29.1 fun(p30:Addr)=>
 stW (p30.add (Int.toNat u28*1)) (.int .i64 (1:Int))<|I25 ((wrap .i64 (y26.1+(1:Int))),()))<|
 ldW .slc (aD r4) fun(u31:SLC)=>
 zW prog (⟨.collected r11,#[]⟩::[])<|K (.tuple #[(.slice u31.1 u31.2.1 u31.2.2),(.int .i64 (0:Int))])) (zW prog (⟨.collected r11,#[]⟩::[])<|K (.tuple #[(.slice none 0 0),(.int .i64 (0:Int))])) [] p12
theorem zpu (x0:Option Addr) (a1:Option Addr) (n1 c1:Nat) {K:Value->WP} {w:World} (h:S47 x0 a1 n1 c1 K w):Calls prog 47 #[(.pointer x0),(.slice a1 n1 c1)] w (Ret K):=cF an47 true Tryz.func47 h
def an48:Ann:=(AN (AR (AN (AQ AO AP)) (AR (AN (.block (.loop [(13,.sh (.one (.int .i64)))] [0,1,12,1000000] (AN (AR (AQ AP AP) (AR (.block (AN (AN (AQ AO AP)))) AP)))))) AO)))
def S48 (a0:Option Addr) (n0 c0:Nat) (a1:Option Addr) (n1 c1:Nat) (K:Value->WP):WP:=
 za (((n0:Nat):Int) !=((n1:Nat):Int)) (K (.bool false))<|
 zG (Int×Unit) ((0:Int),()) fun(y2:Int×Unit) (I1:(Int×Unit)->WP)=>
 za (decide (y2.1<((n0:Nat):Int))) (zB<|
 zc (0<=y2.1/\y2.1<((n0:Nat):Int))<|
 zh a0 fun(p3:Addr)=>
 ldW (.int .i64) (p3.add (Int.toNat y2.1*1)) fun(u4:Int)=>
 zc (0<=y2.1/\y2.1<((n1:Nat):Int))<|
 zh a1 fun(p5:Addr)=>
 ldW (.int .i64) (p5.add (Int.toNat y2.1*1)) fun(u6:Int)=>
 za (u4 !=u6) (K (.bool false))<|I1 ((wrap .i64 (y2.1+(1:Int))),()))<|K (.bool true)
theorem zpv (a0:Option Addr) (n0 c0:Nat) (a1:Option Addr) (n1 c1:Nat) {K:Value->WP} {w:World} (h:S48 a0 n0 c0 a1 n1 c1 K w):Calls prog 48 #[(.slice a0 n0 c0),(.slice a1 n1 c1)] w (Ret K):=cF an48 false Tryz.func48 h
def an49:Ann:=(AN (AR (AN (AQ AO AP)) (AR (AN (.block (.loop [(2,.sh (.one .slc)),(12,.sh (.one (.int .i64)))] [10,11,1000000] (AN (AR (AQ AP AP) (AR (.block AO) AP)))))) AO)))
def S49 (x0:Option Addr) (K:Value->WP):WP:=
 za (Option.isNone x0) (K (.slice none 0 0))<|
 zh x0 fun(p1:Addr)=>
 ldW .slc (p1.add 2) fun(u2:SLC)=>
 zG (SLC×Int×Unit) ((none,0,0),(0:Int),()) fun(y4:SLC×Int×Unit) (I3:(SLC×Int×Unit)->WP)=>
 za (decide (y4.2.1<((u2.2.1:Nat):Int))) (zc (0<=y4.2.1/\y4.2.1<((u2.2.1:Nat):Int))<|
 zh u2.1 fun(p5:Addr)=>
 ldW (.int .u16) (p5.add (Int.toNat y4.2.1*1)) fun(u6:Int)=>
 zi (.cells #[(.int .i64 (wrap .i64 u6))] 3) fun(r7:Nat)=>
 zv prog (Builtin.append_ #[100,100] 100 #[(.slice y4.1.1 y4.1.2.1 y4.1.2.2),(.slice (some (aD r7)) 1 1)]) .slc fun(u8:SLC)=>I3 ((u8.1,u8.2.1,u8.2.2),(wrap .i64 (y4.2.1+(1:Int))),()))<|K (.slice y4.1.1 y4.1.2.1 y4.1.2.2)
theorem zpw (x0:Option Addr) {K:Value->WP} {w:World} (h:S49 x0 K w):Calls prog 49 #[(.pointer x0)] w (Ret K):=cF an49 false Tryz.func49 h
def an50:Ann:=(AN (AN (AR (AN (.block (.loop [(5,.sh (.one .slc)),(10,.sh (.one (.int .i64)))] [1,8,9,1000000] (AN (AR (AQ AP AP) (AR (.block AO) AP)))))) AO)))
def S50 (a0:Option Addr) (n0 c0:Nat) (x1:Value) (K:Value->WP):WP:=
 zG (SLC×Int×Unit) ((none,0,0),(0:Int),()) fun(y2:SLC×Int×Unit) (I1:(SLC×Int×Unit)->WP)=>
 za (decide (y2.2.1<((n0:Nat):Int))) (zc (0<=y2.2.1/\y2.2.1<((n0:Nat):Int))<|
 zh a0 fun(p3:Addr)=>
 zl [.str,(.int .u32)] (p3.add (Int.toNat y2.2.1*2)) fun(u4:(ByteArray×Int×Unit))=>
 zi (.cells #[(.string ByteArray.empty),(.int .u32 (0:Int))] 64) fun(r5:Nat)=>
 zc ((#[(.string u4.1),(.int .u32 u4.2.1)]:Array Value).size=2)<|
 zq (aD r5) [(.string u4.1),(.int .u32 u4.2.1)]<|
 zl [.str,(.int .u32)] (aD r5) fun(u6:(ByteArray×Int×Unit))=>
 yD prog x1 [(.agg #[(.string u6.1),(.int .u32 u6.2.1)])] (.one (.one .str)) fun(u7:ByteArray)=>
 zi (.cells #[(.string u7)] 9) fun(r8:Nat)=>
 zv prog (Builtin.append_ #[22,22] 22 #[(.slice y2.1.1 y2.1.2.1 y2.1.2.2),(.slice (some (aD r8)) 1 1)]) .slc fun(u9:SLC)=>I1 ((u9.1,u9.2.1,u9.2.2),(wrap .i64 (y2.2.1+(1:Int))),()))<|K (.slice y2.1.1 y2.1.2.1 y2.1.2.2)
theorem zpx (a0:Option Addr) (n0 c0:Nat) (x1:Value) {K:Value->WP} {w:World} (h:S50 a0 n0 c0 x1 K w):Calls prog 50 #[(.slice a0 n0 c0),x1] w (Ret K):=cF an50 false Tryz.func50 h
def an51:Ann:=(AN AO)
def S51 (Aa:ByteArray) (Af:Int) (K:Value->WP):WP:=
 zi (.cells #[(.string Aa),(.int .u32 Af)] 64) fun(r1:Nat)=>
 ldW .str (aD r1) fun(u2:ByteArray)=>K (.string u2)
theorem zpy (Aa:ByteArray) (Af:Int) {K:Value->WP} {w:World} (h:S51 Aa Af K w):Calls prog 51 #[(.agg #[(.string Aa),(.int .u32 Af)])] w (Ret K):=cF an51 false Tryz.func51 h
def an52:Ann:=(AN AO)
def S52 (Aa:ByteArray) (Af:Int) (a1:Addr) (K:Value->WP):WP:=
 zi (.cells #[(.string Aa),(.int .u32 Af)] 64) fun(r1:Nat)=>
 ldW .str (aD r1) fun(u2:ByteArray)=>
 ldW .str a1 fun(u3:ByteArray)=>K (.bool (u2.toList==u3.toList))
theorem zpz (Aa:ByteArray) (Af:Int) (a1:Addr) {K:Value->WP} {w:World} (h:S52 Aa Af a1 K w):Calls prog 52 #[(.agg #[(.string Aa),(.int .u32 Af)]),(.pointer (some a1))] w (Ret K):=cF an52 false Tryz.func52 h
def an53:Ann:=(AN (AR (AN (AQ AO AP)) AO))
def S53 (Aa:Int) (Af:Int) (K:Value->WP):WP:=
 zi (.cells #[(.int .i64 Aa),(.int .i64 Af)] 69) fun(r1:Nat)=>
 ldW (.int .i64) (aD r1) fun(u2:Int)=>
 za (decide (u2<(128:Int))) (K (.int .i64 (2:Int)))<|
 ldW (.int .i64) (aD r1) fun(u3:Int)=>
 za (decide (u3>(4096:Int))) (K (.int .i64 (2:Int)))<|
 ldW (.int .i64) (aD r1) fun(u4:Int)=>
 za ((Int.tmod u4 (64:Int)) !=(0:Int)) (K (.int .i64 (2:Int)))<|
 ldW (.int .i64) ((aD r1).add 1) fun(u5:Int)=>
 za (decide (u5<(8:Int))) (K (.int .i64 (2:Int)))<|
 ldW (.int .i64) ((aD r1).add 1) fun(u6:Int)=>
 za (decide (u6>(4096:Int))) (K (.int .i64 (2:Int)))<|K (.int .i64 (0:Int))
theorem zpA (Aa:Int) (Af:Int) {K:Value->WP} {w:World} (h:S53 Aa Af K w):Calls prog 53 #[(.agg #[(.int .i64 Aa),(.int .i64 Af)])] w (Ret K):=cF an53 false Tryz.func53 h
def an54:Ann:=(AN (.join [] [0,1,1000000] (AN (AQ AP AP)) (AN (.join [] [0,6,1000000] (AN (AQ AP AP)) (AN (AN (AR (.block (.loop [(8,.sh (.one (.int .i64)))] [7,1000000] (AR (AN (AQ AP AP)) (.block AP)))) AO)))))))
def S54 (a0:Option Addr) (n0 c0:Nat) (x1:Int) (K:Value->WP):WP:=
 yV (Unit) (fun(J1:(Unit)->WP)=>
 za (decide (x1<(0:Int))) (zo)<|J1 ()) fun(y2:Unit)=>
 ze prog 98 [(.int .u64 (wrap .u64 ((n0:Nat):Int))),(.int .u64 (wrap .u64 x1))] (.many [(.one (.int .u64)),(.one (.int .u64))]) fun(u3:Int×Int×Unit)=>
 yV (Unit) (fun(J4:(Unit)->WP)=>
 za (decide (u3.1>(0:Int))) (zo)<|
 za (decide (u3.2.1>(9223372036854775807:Int))) (zo)<|J4 ()) fun(y5:Unit)=>
 zv prog (Instr.makeSlice 22 (.int .i64 (wrap .i64 u3.2.1)) (.int .i64 (wrap .i64 u3.2.1))) .slc fun(u6:SLC)=>
 zv prog (Builtin.copy_ #[22,22] 3 #[(.slice u6.1 u6.2.1 u6.2.2),(.slice a0 n0 c0)]) (.int .i64) fun(u7:Int)=>
 zG (Int×Unit) (u7,()) fun(y9:Int×Unit) (I8:(Int×Unit)->WP)=>
 za (decide (y9.1<((u6.2.1:Nat):Int))) (zB<|
 zc (0<=y9.1/\y9.1<=((u6.2.1:Nat):Int))<|
 zc (0<=y9.1/\y9.1<=((u6.2.2:Nat):Int))<|
 zv prog (Builtin.copy_ #[22,22] 3 #[(.slice (zk u6.1 (Int.toNat y9.1) u6.2.2 1) (u6.2.1-(Int.toNat y9.1)) (u6.2.2-(Int.toNat y9.1))),(.slice (zk u6.1 0 u6.2.2 1) (Int.toNat y9.1) u6.2.2)]) (.int .i64) fun(u10:Int)=>I8 ((wrap .i64 (y9.1+u10)),()))<|K (.slice u6.1 u6.2.1 u6.2.2)
theorem zpB (a0:Option Addr) (n0 c0:Nat) (x1:Int) {K:Value->WP} {w:World} (h:S54 a0 n0 c0 x1 K w):Calls prog 54 #[(.slice a0 n0 c0),(.int .i64 x1)] w (Ret K):=cF an54 false Tryz.func54 h
def an56:Ann:=(AN (AR (AN (AQ AO AP)) (AN (AN AO))))
def S56 (Aa:Int) (Af:Int) (K:Value->WP):WP:=
 zi (.cells #[(.int .i64 Aa),(.int .i64 Af)] 69) fun(r1:Nat)=>
 zl [(.int .i64),(.int .i64)] (aD r1) fun(u2:(Int×Int×Unit))=>
 ze prog 53 [(.agg #[(.int .i64 u2.1),(.int .i64 u2.2.1)])] (.one (.one (.int .i64))) fun(u3:Int)=>
 za (u3 !=(0:Int)) (K (.tuple #[(.pointer none),(.int .i64 (2:Int))]))<|
 zB<|
 zl [(.int .i64),(.int .i64)] (aD r1) fun(u4:(Int×Int×Unit))=>
 ldW (.int .i64) ((aD r1).add 1) fun(u5:Int)=>
 zv prog (Instr.makeSlice 146 (.int .i64 u5) (.int .i64 u5)) .slc fun(u6:SLC)=>
 zt [[((aD r1).add 0,(.int .i64 u4.1)),((aD r1).add 1,(.int .i64 u4.2.1))]]<|
 zi (.cells #[(.int .i64 u4.1),(.int .i64 u4.2.1),(.slice u6.1 u6.2.1 u6.2.2)] 148) fun(r7:Nat)=>
 zB<|
 zh (some (aD r7)) fun(p8:Addr)=>
 ldW .slc (p8.add 2) fun(u9:SLC)=>
 zh (some (aD r7)) fun(p10:Addr)=>
 ldW .slc (p10.add 2) fun(u11:SLC)=>
 zc (0<=(0:Int)/\(0:Int)<((u9.2.1:Nat):Int))<|
 zh u9.1 fun(p12:Addr)=>
 stW (p12.add (Int.toNat (0:Int)*1)) (.int .u16 (1:Int))<|
 zc (0<=(1:Int)/\(1:Int)<((u11.2.1:Nat):Int))<|
 zh u11.1 fun(p13:Addr)=>
 stW (p13.add (Int.toNat (1:Int)*1)) (.int .u16 (1:Int))<|K (.tuple #[(.pointer (some (aD r7))),(.int .i64 (0:Int))])
theorem zpC (Aa:Int) (Af:Int) {K:Value->WP} {w:World} (h:S56 Aa Af K w):Calls prog 56 #[(.agg #[(.int .i64 Aa),(.int .i64 Af)])] w (Ret K):=cF an56 false Tryz.func56 h
def an57:Ann:=(AN (AR (AN (AQ AO AP)) AO))
def S57 (x0:Option Addr) (K:Value->WP):WP:=
 zi (.cells #[(.int .i64 (0:Int)),(.int .i64 (0:Int))] 69) fun(r1:Nat)=>
 za (Option.isNone x0) (zc ((#[(.int .i64 (0:Int)),(.int .i64 (0:Int))]:Array Value).size=2)<|
 zq (aD r1) [(.int .i64 (0:Int)),(.int .i64 (0:Int))]<|
 zl [(.int .i64),(.int .i64)] (aD r1) fun(u2:(Int×Int×Unit))=>K (.agg #[(.int .i64 u2.1),(.int .i64 u2.2.1)]))<|
 zh x0 fun(p3:Addr)=>
 zl [(.int .i64),(.int .i64)] p3 fun(u4:(Int×Int×Unit))=>
 zc ((#[(.int .i64 u4.1),(.int .i64 u4.2.1)]:Array Value).size=2)<|
 zq (aD r1) [(.int .i64 u4.1),(.int .i64 u4.2.1)]<|
 zl [(.int .i64),(.int .i64)] (aD r1) fun(u5:(Int×Int×Unit))=>K (.agg #[(.int .i64 u5.1),(.int .i64 u5.2.1)])
theorem zpD (x0:Option Addr) {K:Value->WP} {w:World} (h:S57 x0 K w):Calls prog 57 #[(.pointer x0)] w (Ret K):=cF an57 false Tryz.func57 h
def an58:Ann:=(AN (AR (AN (AQ AO AP)) (AN AO)))
def S58 (Aa:Int) (Af:Int) (K:Value->WP):WP:=
 zi (.cells #[(.int .i64 Aa),(.int .i64 Af)] 69) fun(r1:Nat)=>
 zl [(.int .i64),(.int .i64)] (aD r1) fun(u2:(Int×Int×Unit))=>
 ze prog 53 [(.agg #[(.int .i64 u2.1),(.int .i64 u2.2.1)])] (.one (.one (.int .i64))) fun(u3:Int)=>
 za (u3 !=(0:Int)) (K (.int .i64 (0:Int)))<|
 ldW (.int .i64) (aD r1) fun(u4:Int)=>
 ze prog 104 [(.int .i64 u4)] (.one (.one (.int .i64))) fun(u5:Int)=>
 ldW (.int .i64) ((aD r1).add 1) fun(u6:Int)=>
 zc (u5≠0)<|K (.int .i64 (wrap .i64 (Int.tdiv (wrap .i64 ((wrap .i64 ((wrap .i64 ((2:Int)*u6))+u5))-(1:Int))) u5)))
theorem zju (Aa:Int) (Af:Int) {K:Value->WP} {w:World} (h:S58 Aa Af K w):Calls prog 58 #[(.agg #[(.int .i64 Aa),(.int .i64 Af)])] w (Ret K):=cF an58 false Tryz.func58 h
def an59:Ann:=(AN (.join [] [0,1,1000000] (.block (AN (AQ AO (AN (AQ AO AP))))) (AR (AN (.block (.loop [(30,.sh (.one (.int .i64)))] [0,1,28,29,1000000] (AN (AR (AQ AP AP) (AR (.block (AN (AN (AQ (AN AO) AP)))) AP)))))) AO)))
def S59 (x0:Option Addr) (x1:Option Addr) (K:Value->WP):WP:=
 yV (Unit) (fun(J1:(Unit)->WP)=>
 za (Option.isNone x0) (K (.tuple #[(.int .u32 (0:Int)),(.int .i64 (1:Int))]))<|
 zB<|
 za (!(Option.isNone x1)) (zh x1 fun(p3:Addr)=>
 zl [(.int .i64),(.int .i64)] p3 fun(u4:(Int×Int×Unit))=>
 zh x0 fun(p5:Addr)=>
 zl [(.int .i64),(.int .i64)] p5 fun(u6:(Int×Int×Unit))=>
 eqW prog (eqS .neq 69 (.tmp 18) (.tmp 22) (.agg #[(.int .i64 u4.1),(.int .i64 u4.2.1)]) (.agg #[(.int .i64 u6.1),(.int .i64 u6.2.1)])) fun(b7:Bool)=>
 za b7 (K (.tuple #[(.int .u32 (0:Int)),(.int .i64 (2:Int))]))<|J1 ())<|J1 ()) fun(y2:Unit)=>
 zh x0 fun(p8:Addr)=>
 ldW .slc (p8.add 2) fun(u9:SLC)=>
 zG (Int×Unit) ((0:Int),()) fun(y11:Int×Unit) (I10:(Int×Unit)->WP)=>
 za (decide (y11.1<((u9.2.1:Nat):Int))) (zc (0<=y11.1/\y11.1<((u9.2.1:Nat):Int))<|
 zh u9.1 fun(p12:Addr)=>
 ldW (.int .u16) (p12.add (Int.toNat y11.1*1)) fun(u13:Int)=>
 za (u13==(0:Int)) (ze prog 40 [(.pointer x1),(.int .u32 (wrap .u32 y11.1))] (.one (.one (.int .i64))) fun(u14:Int)=>
 za (u14==(0:Int)) (zh x0 fun(p15:Addr)=>
 ldW .slc (p15.add 2) fun(u16:SLC)=>
 zc (0<=y11.1/\y11.1<((u16.2.1:Nat):Int))<|
 zh u16.1 fun(p17:Addr)=>
 stW (p17.add (Int.toNat y11.1*1)) (.int .u16 (1:Int))<|K (.tuple #[(.int .u32 (wrap .u32 y11.1)),(.int .i64 (0:Int))]))<|I10 ((wrap .i64 (y11.1+(1:Int))),()))<|I10 ((wrap .i64 (y11.1+(1:Int))),()))<|K (.tuple #[(.int .u32 (0:Int)),(.int .i64 (9:Int))])
theorem zpE (x0:Option Addr) (x1:Option Addr) {K:Value->WP} {w:World} (h:S59 x0 x1 K w):Calls prog 59 #[(.pointer x0),(.pointer x1)] w (Ret K):=cF an59 false Tryz.func59 h
def an60:Ann:=(AN (AN (.join [] [1,3,1000000] (AN (AQ AO AP)) (AR (AN (.block (.loop [(40,.sh (.one (.int .i64)))] [1,3,38,39,1000000] (AN (AR (AQ AP AP) (AR (.block (AN (AN (AQ AO AP)))) AP)))))) (AR (AN (AQ AO AP)) AO)))))
def S60 (Aa:Int) (Af:Int) (Ax:Int) (Ay:Int) (AB:Option Addr) (AC AD:Nat) (K:Value->WP):WP:=
 zi (.cells #[(.int .u64 Aa),(.int .i64 Af),(.int .i64 Ax),(.int .u32 Ay),(.slice AB AC AD)] 87) fun(r1:Nat)=>
 yV (Unit) (fun(J2:(Unit)->WP)=>
 zB<|
 zl [(.int .i64),(.int .i64)] ((aD r1).add 1) fun(u4:(Int×Int×Unit))=>
 ze prog 53 [(.agg #[(.int .i64 u4.1),(.int .i64 u4.2.1)])] (.one (.one (.int .i64))) fun(u5:Int)=>
 za (u5 !=(0:Int)) (K (.int .i64 (2:Int)))<|
 ldW (.int .u64) (aD r1) fun(u6:Int)=>
 za (u6==(0:Int)) (K (.int .i64 (2:Int)))<|
 ldW (.int .u32) ((aD r1).add 3) fun(u7:Int)=>
 za (u7 !=(0:Int)) (ldW (.int .u32) ((aD r1).add 3) fun(u8:Int)=>
 yD prog (.func (.func 105) #[] #[(.pointer (some (aD r1)))]) [(.int .u32 u8)] (.one (.one .bool)) fun(u9:Bool)=>
 za (!u9) (K (.int .i64 (2:Int)))<|
 ldW .slc ((aD r1).add 4) fun(u10:SLC)=>
 zl [(.int .i64),(.int .i64)] ((aD r1).add 1) fun(u11:(Int×Int×Unit))=>
 ze prog 58 [(.agg #[(.int .i64 u11.1),(.int .i64 u11.2.1)])] (.one (.one (.int .i64))) fun(u12:Int)=>
 zt [[(((aD r1).add 4),(.slice u10.1 u10.2.1 u10.2.2))]]<|
 za (((u10.2.1:Nat):Int) !=u12) (K (.int .i64 (2:Int)))<|J2 ())<|
 ldW .slc ((aD r1).add 4) fun(u13:SLC)=>
 zl [(.int .i64),(.int .i64)] ((aD r1).add 1) fun(u14:(Int×Int×Unit))=>
 ze prog 58 [(.agg #[(.int .i64 u14.1),(.int .i64 u14.2.1)])] (.one (.one (.int .i64))) fun(u15:Int)=>
 zt [[(((aD r1).add 4),(.slice u13.1 u13.2.1 u13.2.2))]]<|
 za (((u13.2.1:Nat):Int) !=u15) (K (.int .i64 (2:Int)))<|J2 ()) fun(y3:Unit)=>
 ldW .slc ((aD r1).add 4) fun(u16:SLC)=>
 zG (Int×Unit) ((0:Int),()) fun(y18:Int×Unit) (I17:(Int×Unit)->WP)=>
 za (decide (y18.1<((u16.2.1:Nat):Int))) (zc (0<=y18.1/\y18.1<((u16.2.1:Nat):Int))<|
 zh u16.1 fun(p19:Addr)=>
 ldW (.int .u32) (p19.add (Int.toNat y18.1*1)) fun(u20:Int)=>
 yD prog (.func (.func 105) #[] #[(.pointer (some (aD r1)))]) [(.int .u32 u20)] (.one (.one .bool)) fun(u21:Bool)=>
 za (!u21) (K (.int .i64 (2:Int)))<|
 ldW (.int .u32) ((aD r1).add 3) fun(u22:Int)=>
 za (u20==u22) (K (.int .i64 (2:Int)))<|
 ldW .slc ((aD r1).add 4) fun(u23:SLC)=>
 zc (0<=y18.1/\y18.1<=((u23.2.2:Nat):Int))<|
 ze prog 83 [(.slice (zk u23.1 0 u23.2.2 1) (Int.toNat y18.1) u23.2.2),(.int .u32 u20)] (.one (.one .bool)) fun(u24:Bool)=>
 za u24 (K (.int .i64 (2:Int)))<|I17 ((wrap .i64 (y18.1+(1:Int))),()))<|
 zB<|
 ldW .slc ((aD r1).add 4) fun(u25:SLC)=>
 ldW (.int .i64) ((aD r1).add 1) fun(u26:Int)=>
 ze prog 104 [(.int .i64 u26)] (.one (.one (.int .i64))) fun(u27:Int)=>
 zt [[(((aD r1).add 4),(.slice u25.1 u25.2.1 u25.2.2))]]<|
 za (decide ((wrap .i64 ((14:Int)+(wrap .i64 ((4:Int)*((u25.2.1:Nat):Int)))))>u27)) (K (.int .i64 (3:Int)))<|K (.int .i64 (0:Int))
theorem zpF (Aa:Int) (Af:Int) (Ax:Int) (Ay:Int) (AB:Option Addr) (AC AD:Nat) {K:Value->WP} {w:World} (h:S60 Aa Af Ax Ay AB AC AD K w):Calls prog 60 #[(.agg #[(.int .u64 Aa),(.int .i64 Af),(.int .i64 Ax),(.int .u32 Ay),(.slice AB AC AD)])] w (Ret K):=cF an60 false Tryz.func60 h
def an61:Ann:=(AN (AR (.block (AN (AQ AO (AN (AQ AO (AN (AQ AO AP))))))) (AN AO)))
def S61 (x0:Option Addr) (x1:Int) (x2:ByteArray) (K:Value->WP):WP:=
 za (Option.isNone x0) (K (.int .i64 (1:Int)))<|
 ze prog 90 [(.pointer x0),(.int .i64 x1)] (.one (.one .bool)) fun(u1:Bool)=>
 za (!u1) (K (.int .i64 (2:Int)))<|
 zh x0 fun(p2:Addr)=>
 ldW (.int .i64) p2 fun(u3:Int)=>
 za (((x2.size:Nat):Int) !=u3) (K (.int .i64 (2:Int)))<|
 ze prog 106 [(.pointer x0)] (.one (.one .bool)) fun(u4:Bool)=>
 za (!u4) (K (.int .i64 (8:Int)))<|
 zh x0 fun(p5:Addr)=>
 ldW .slc (p5.add 3) fun(u6:SLC)=>
 zi (.cells #[(.int .i64 x1),(.string x2)] 165) fun(r7:Nat)=>
 zv prog (Builtin.append_ #[109,109] 109 #[(.slice u6.1 u6.2.1 u6.2.2),(.slice (some (aD r7)) 1 1)]) .slc fun(u8:SLC)=>
 zh x0 fun(p9:Addr)=>
 stW (p9.add 3) (.slice u8.1 u8.2.1 u8.2.2)<|K (.int .i64 (0:Int))
theorem zpG (x0:Option Addr) (x1:Int) (x2:ByteArray) {K:Value->WP} {w:World} (h:S61 x0 x1 x2 K w):Calls prog 61 #[(.pointer x0),(.int .i64 x1),(.string x2)] w (Ret K):=cF an61 false Tryz.func61 h
def an62:Ann:=(AN (AR (AN (.block (.loop [(19,.sh (.one (.int .i64)))] [0,3,6,17,18,1000000] (AN (AR (AQ AP AP) (AR (.block (AN (AN (AN (AQ AO AP))))) AP)))))) (AR (AN (AN (AQ AO AP))) (AN (AR (AN (AQ AO AP)) (AR (AN (AN (AQ AO AP))) AO))))))
def S62 (x0:Option Addr) (x1:Option Addr) (AE:Int) (AF:Int) (AG:Int) (AI:Int) (AJ:Option Addr) (AK AL:Nat) (x3:Int) (K:Value->WP):WP:=
 zi (.cells #[(.int .u64 AE),(.int .i64 AF),(.int .i64 AG),(.int .u32 AI),(.slice AJ AK AL)] 87) fun(r1:Nat)=>
 ze prog 107 [(.pointer x1)] (.one (.one .slc)) fun(u2:SLC)=>
 zG (Int×Unit) ((0:Int),()) fun(y4:Int×Unit) (I3:(Int×Unit)->WP)=>
 za (decide (y4.1<((u2.2.1:Nat):Int))) (zc (0<=y4.1/\y4.1<((u2.2.1:Nat):Int))<|
 zh u2.1 fun(p5:Addr)=>
 ldW .str (p5.add (Int.toNat y4.1*1)) fun(u6:ByteArray)=>
 zB<|
 ldW .slc ((aD r1).add 4) fun(u7:SLC)=>
 zc (0<=y4.1/\y4.1<((u7.2.1:Nat):Int))<|
 zh u7.1 fun(p8:Addr)=>
 ldW (.int .u32) (p8.add (Int.toNat y4.1*1)) fun(u9:Int)=>
 ldW (.int .u64) (aD r1) fun(u10:Int)=>
 ze prog 71 [(.pointer x0),(.int .u32 u9),(.agg #[(.int .u8 (2:Int)),(.int .u64 u10),(.string u6)])] (.one (.one (.int .i64))) fun(u11:Int)=>
 za (u11 !=(0:Int)) (K (.int .i64 u11))<|I3 ((wrap .i64 (y4.1+(1:Int))),()))<|
 ze prog 108 [(.pointer x0)] (.one (.one (.int .i64))) fun(u12:Int)=>
 za (u12 !=(0:Int)) (K (.int .i64 u12))<|
 zl [(.int .u64),(.int .i64),(.int .i64),(.int .u32),.slc] (aD r1) fun(u13:(Int×Int×Int×Int×SLC×Unit))=>
 ze prog 109 [(.agg #[(.int .u64 u13.1),(.int .i64 u13.2.1),(.int .i64 u13.2.2.1),(.int .u32 u13.2.2.2.1),(.slice u13.2.2.2.2.1.1 u13.2.2.2.2.1.2.1 u13.2.2.2.2.1.2.2)])] (.many [(.one .str),(.one (.int .i64))]) fun(u14:ByteArray×Int×Unit)=>
 za (u14.2.1 !=(0:Int)) (K (.int .i64 u14.2.1))<|
 ze prog 61 [(.pointer x0),(.int .i64 x3),(.string u14.1)] (.one (.one (.int .i64))) fun(u15:Int)=>
 za (u15 !=(0:Int)) (K (.int .i64 u15))<|
 ze prog 108 [(.pointer x0)] (.one (.one (.int .i64))) fun(u16:Int)=>K (.int .i64 u16)
theorem zpH (x0:Option Addr) (x1:Option Addr) (AE:Int) (AF:Int) (AG:Int) (AI:Int) (AJ:Option Addr) (AK AL:Nat) (x3:Int) {K:Value->WP} {w:World} (h:S62 x0 x1 AE AF AG AI AJ AK AL x3 K w):Calls prog 62 #[(.pointer x0),(.pointer x1),(.agg #[(.int .u64 AE),(.int .i64 AF),(.int .i64 AG),(.int .u32 AI),(.slice AJ AK AL)]),(.int .i64 x3)] w (Ret K):=cF an62 false Tryz.func62 h
def an63:Ann:=(AN (AR (AN (AQ AO AP)) AO))
def S63 (x0:Option Addr) (K:Value->WP):WP:=
 za (Option.isNone x0) (K (.pointer none))<|
 zB<|
 zh x0 fun(p1:Addr)=>
 zl [(.int .i64),(.int .i64)] p1 fun(u2:(Int×Int×Unit))=>
 zh x0 fun(p3:Addr)=>
 ldW .slc (p3.add 2) fun(u4:SLC)=>
 ze prog 110 [(.slice u4.1 u4.2.1 u4.2.2)] (.one (.one .slc)) fun(u5:SLC)=>
 zt [[(p1.add 0,(.int .i64 u2.1)),(p1.add 1,(.int .i64 u2.2.1))]]<|
 zi (.cells #[(.int .i64 u2.1),(.int .i64 u2.2.1),(.slice u5.1 u5.2.1 u5.2.2)] 148) fun(r6:Nat)=>K (.pointer (some (aD r6)))
theorem zpI (x0:Option Addr) {K:Value->WP} {w:World} (h:S63 x0 K w):Calls prog 63 #[(.pointer x0)] w (Ret K):=cF an63 false Tryz.func63 h
def an64:Ann:=(AN (.block (.loop [(3,.sh (.one (.int .u32)))] [0,1,1000000] (AR (AN (AQ AP AP)) (AR (.block (AN (AQ AP AP))) AP)))))
def S64 (x0:Value) (a1:Addr) (K:Value->WP):WP:=
 zG (Int×Unit) ((2:Int),()) fun(y2:Int×Unit) (I1:(Int×Unit)->WP)=>
 ldW .ptr a1 fun(u3:Option Addr)=>
 zh u3 fun(p4:Addr)=>
 ldW (.int .i64) (((p4.add 1).add 1).add 1) fun(u5:Int)=>
 za (decide ((wrap .i64 y2.1)<u5)) (zB<|
 ldW .ptr a1 fun(u6:Option Addr)=>
 zh u6 fun(p7:Addr)=>
 ldW .ptr (p7.add 8) fun(u8:Option Addr)=>
 ldW .ptr a1 fun(u9:Option Addr)=>
 zh u9 fun(p10:Addr)=>
 ldW .ptr (p10.add 7) fun(u11:Option Addr)=>
 ldW .ptr a1 fun(u12:Option Addr)=>
 zh u12 fun(p13:Addr)=>
 ldW .ptr (p13.add 9) fun(u14:Option Addr)=>
 ze prog 40 [(.pointer u8),(.int .u32 y2.1)] (.one (.one (.int .i64))) fun(u15:Int)=>
 zt [[((p13.add 9),(.pointer u14))],[(a1,(.pointer u12))],[((p10.add 7),(.pointer u11))],[(a1,(.pointer u9))]]<|
 ze prog 40 [(.pointer u11),(.int .u32 y2.1)] (.one (.one (.int .i64))) fun(u16:Int)=>
 zt [[((p13.add 9),(.pointer u14))],[(a1,(.pointer u12))]]<|
 ze prog 40 [(.pointer u14),(.int .u32 y2.1)] (.one (.one (.int .i64))) fun(u17:Int)=>
 za ((wrap .i64 ((wrap .i64 (u15+u16))+u17))==(0:Int)) (yD prog x0 [(.int .u32 y2.1)] (.one (.one .bool)) fun(u18:Bool)=>
 za (!u18) (K (.tuple #[]))<|I1 ((wrap .u32 (y2.1+(1:Int))),()))<|I1 ((wrap .u32 (y2.1+(1:Int))),()))<|K (.tuple #[])
theorem zpJ (x0:Value) (a1:Addr) {K:Value->WP} {w:World} (h:S64 x0 a1 K w):Calls prog 64 #[x0,(.pointer (some a1))] w (Ret K):=cF an64 false Tryz.func64 h
def an65:Ann:=(AN AO)
def S65 (a0:Option Addr) (n0 c0:Nat) (x1:Value) (K:Value->WP):WP:=
 ze prog 111 [(.slice a0 n0 c0),x1] (.one (.one (.int .i64))) fun(u1:Int)=>K (.bool (decide (u1>=(0:Int))))
theorem zpK (a0:Option Addr) (n0 c0:Nat) (x1:Value) {K:Value->WP} {w:World} (h:S65 a0 n0 c0 x1 K w):Calls prog 65 #[(.slice a0 n0 c0),x1] w (Ret K):=cF an65 false Tryz.func65 h
def an66:Ann:=(AN AO)
def S66 (x0:Int) (a1:Addr) (K:Value->WP):WP:=
 ldW .ptr a1 fun(u1:Option Addr)=>
 ze prog 39 [(.pointer u1),(.int .u32 x0)] (.one (.one .bool)) fun(u2:Bool)=>K (.bool (!u2))
theorem zpL (x0:Int) (a1:Addr) {K:Value->WP} {w:World} (h:S66 x0 a1 K w):Calls prog 66 #[(.int .u32 x0),(.pointer (some a1))] w (Ret K):=cF an66 false Tryz.func66 h
def an67:Ann:=(AN AO)
def S67 (x0:Int) (a1:Addr) (K:Value->WP):WP:=
 ldW .ptr a1 fun(u1:Option Addr)=>
 zh u1 fun(p2:Addr)=>
 ldW .ptr (p2.add 8) fun(u3:Option Addr)=>
 ze prog 40 [(.pointer u3),(.int .u32 x0)] (.one (.one (.int .i64))) fun(u4:Int)=>K (.bool (u4==(0:Int)))
theorem zpM (x0:Int) (a1:Addr) {K:Value->WP} {w:World} (h:S67 x0 a1 K w):Calls prog 67 #[(.int .u32 x0),(.pointer (some a1))] w (Ret K):=cF an67 false Tryz.func67 h
def an68:Ann:=(AN (AR (AN (AQ AO AP)) (AN (AR (AN (AQ AO AP)) AO))))
def S68 (x0:Option Addr) (x1:Int) (K:Value->WP):WP:=
 za (Option.isNone x0) (K (.int .i64 (0:Int)))<|
 zh x0 fun(p1:Addr)=>
 ldW (.int .i64) ((p1.add 1).add 1) fun(u2:Int)=>
 ze prog 104 [(.int .i64 u2)] (.one (.one (.int .i64))) fun(u3:Int)=>
 za (decide (x1<(0:Int))) (K (.int .i64 (0:Int)))<|
 za (decide (x1>(wrap .i64 (Int.tdiv (wrap .i64 (u3-(2:Int))) (4:Int))))) (K (.int .i64 (0:Int)))<|K (.int .i64 (wrap .i64 ((wrap .i64 (u3-(2:Int)))-(wrap .i64 ((4:Int)*x1)))))
theorem zpN (x0:Option Addr) (x1:Int) {K:Value->WP} {w:World} (h:S68 x0 x1 K w):Calls prog 68 #[(.pointer x0),(.int .i64 x1)] w (Ret K):=cF an68 false Tryz.func68 h
def an69:Ann:=(AN (AN (AN (.block (.loop [] [1,4,1000000] (.block (AN (AR (AN (AQ AO AP)) AP))))))))
def S69 (x0:Option Addr) (K:Value->WP):WP:=
 zi (.cells #[(.pointer x0)] 24) fun(r1:Nat)=>
 zi (.cells #[(.slice none 0 0)] 47) fun(r2:Nat)=>
 zG (Unit) () fun(y4:Unit) (I3:(Unit)->WP)=>
 zB<|
 ldW .ptr (aD r1) fun(u5:Option Addr)=>
 zh u5 fun(p6:Addr)=>
 ldW .ptr (p6.add 8) fun(u7:Option Addr)=>
 ldW .ptr (aD r1) fun(u8:Option Addr)=>
 zh u8 fun(p9:Addr)=>
 ldW .ptr (p9.add 7) fun(u10:Option Addr)=>
 ze prog 59 [(.pointer u7),(.pointer u10)] (.many [(.one (.int .u32)),(.one (.int .i64))]) fun(u11:Int×Int×Unit)=>
 za (u11.2.1 !=(0:Int)) (zW prog (⟨.fn (.func 112) #[(.pointer (some (aD r2))),(.pointer (some (aD r1)))],#[]⟩::[])<|K (.tuple #[(.int .u32 u11.1),(.int .i64 u11.2.1)]))<|
 ldW .ptr (aD r1) fun(u12:Option Addr)=>
 zh u12 fun(p13:Addr)=>
 ldW .ptr (p13.add 9) fun(u14:Option Addr)=>
 ze prog 40 [(.pointer u14),(.int .u32 u11.1)] (.one (.one (.int .i64))) fun(u15:Int)=>
 za (u15==(0:Int)) (zW prog (⟨.fn (.func 112) #[(.pointer (some (aD r2))),(.pointer (some (aD r1)))],#[]⟩::[])<|K (.tuple #[(.int .u32 u11.1),(.int .i64 u11.2.1)]))<|
 ldW .slc (aD r2) fun(u16:SLC)=>
 zi (.cells #[(.int .u32 u11.1)] 39) fun(r17:Nat)=>
 zv prog (Builtin.append_ #[47,47] 47 #[(.slice u16.1 u16.2.1 u16.2.2),(.slice (some (aD r17)) 1 1)]) .slc fun(u18:SLC)=>
 stW (aD r2) (.slice u18.1 u18.2.1 u18.2.2)<|I3 ()
theorem zpO (x0:Option Addr) {K:Value->WP} {w:World} (h:S69 x0 K w):Calls prog 69 #[(.pointer x0)] w (Ret K):=cF an69 true Tryz.func69 h
def an70:Ann:=(AN (AR (AN (AQ AO AP)) (AR (AN (.block (.loop [(0,.sh (.one .slc)),(16,.sh (.one (.int .i64)))] [1,15,1000000] (AN (AR (AQ AP AP) (AR (.block AO) AP)))))) AO)))
def S70 (a0:Option Addr) (n0 c0:Nat) (x1:Int) (x2:Int) (K:Value->WP):WP:=
 za (decide (x2<(1:Int))) (K (.slice a0 n0 c0))<|
 za (decide (x2>(8:Int))) (K (.slice a0 n0 c0))<|
 zG (SLC×Int×Unit) ((a0,n0,c0),(0:Int),()) fun(y2:SLC×Int×Unit) (I1:(SLC×Int×Unit)->WP)=>
 za (decide (y2.2.1<x2)) (zc (0<=(wrap .i64 ((8:Int)*y2.2.1)))<|
 zi (.cells #[(.int .u8 (wrap .u8 (ishr .u64 x1 (wrap .i64 ((8:Int)*y2.2.1)))))] 5) fun(r3:Nat)=>
 zv prog (Builtin.append_ #[119,119] 119 #[(.slice y2.1.1 y2.1.2.1 y2.1.2.2),(.slice (some (aD r3)) 1 1)]) .slc fun(u4:SLC)=>I1 ((u4.1,u4.2.1,u4.2.2),(wrap .i64 (y2.2.1+(1:Int))),()))<|K (.slice y2.1.1 y2.1.2.1 y2.1.2.2)
theorem zjv (a0:Option Addr) (n0 c0:Nat) (x1:Int) (x2:Int) {K:Value->WP} {w:World} (h:S70 a0 n0 c0 x1 x2 K w):Calls prog 70 #[(.slice a0 n0 c0),(.int .u64 x1),(.int .i64 x2)] w (Ret K):=cF an70 false Tryz.func70 h
def an71:Ann:=(AN (AN (AR (AN (AQ AO AP)) AO)))
def S71 (x0:Option Addr) (x1:Int) (AE:Int) (AF:Int) (AG:ByteArray) (K:Value->WP):WP:=
 zi (.cells #[(.int .u8 AE),(.int .u64 AF),(.string AG)] 128) fun(r1:Nat)=>
 zB<|
 zl [(.int .u8),(.int .u64),.str] (aD r1) fun(u2:(Int×Int×ByteArray×Unit))=>
 ze prog 57 [(.pointer x0)] (.one (.agg [(.int .i64),(.int .i64)])) fun(u3:(Int×Int×Unit))=>
 zt [[((aD r1).add 0,(.int .u8 u2.1)),((aD r1).add 1,(.int .u64 u2.2.1)),((aD r1).add 2,(.string u2.2.2.1))]]<|
 ze prog 113 [(.int .i64 u3.1),(.agg #[(.int .u8 u2.1),(.int .u64 u2.2.1),(.string u2.2.2.1)])] (.many [(.one .str),(.one (.int .i64))]) fun(u4:ByteArray×Int×Unit)=>
 za (u4.2.1 !=(0:Int)) (K (.int .i64 u4.2.1))<|
 ze prog 61 [(.pointer x0),(.int .i64 (wrap .i64 x1)),(.string u4.1)] (.one (.one (.int .i64))) fun(u5:Int)=>K (.int .i64 u5)
theorem zpP (x0:Option Addr) (x1:Int) (AE:Int) (AF:Int) (AG:ByteArray) {K:Value->WP} {w:World} (h:S71 x0 x1 AE AF AG K w):Calls prog 71 #[(.pointer x0),(.int .u32 x1),(.agg #[(.int .u8 AE),(.int .u64 AF),(.string AG)])] w (Ret K):=cF an71 false Tryz.func71 h
def an72:Ann:=(AN (AR (AN (AQ AO AP)) (AR (AN (.block (.loop [(3,.sh (.one (.int .i64)))] [0,1000000] (AR (AN (AQ AP AP)) (AR (.block (AR (AN (AQ AO AP)) (AR (AN (AQ AO AP)) (AN (.block (.loop [(4,.sh (.one (.int .i64)))] [0,3,1000000] (AR (AN (AQ AP AP)) (AR (.block (AN (AQ AO AP))) AP)))))))) AP))))) AO)))
def S72 (a0:Option Addr) (n0 c0:Nat) (K:Value->WP):WP:=
 za (decide (((n0:Nat):Int)<(1:Int))) (K (.int .i64 (171:Int)))<|
 za (decide (((n0:Nat):Int)>(16:Int))) (K (.int .i64 (171:Int)))<|
 zG (Int×Unit) ((0:Int),()) fun(y2:Int×Unit) (I1:(Int×Unit)->WP)=>
 za (decide (y2.1<((n0:Nat):Int))) (zc (0<=y2.1/\y2.1<((n0:Nat):Int))<|
 zh a0 fun(p3:Addr)=>
 ldW .str (p3.add (Int.toNat y2.1*3)) fun(u4:ByteArray)=>
 ze prog 12 [(.string u4)] (.one (.one (.int .i64))) fun(u5:Int)=>
 za (u5 !=(0:Int)) (K (.int .i64 (170:Int)))<|
 zc (0<=y2.1/\y2.1<((n0:Nat):Int))<|
 zh a0 fun(p6:Addr)=>
 ldW (.int .i64) ((p6.add (Int.toNat y2.1*3)).add 1) fun(u7:Int)=>
 za (decide (u7<(1:Int))) (K (.int .i64 (171:Int)))<|
 zc (0<=y2.1/\y2.1<((n0:Nat):Int))<|
 zh a0 fun(p8:Addr)=>
 ldW (.int .i64) ((p8.add (Int.toNat y2.1*3)).add 1) fun(u9:Int)=>
 za (decide (u9>(3:Int))) (K (.int .i64 (171:Int)))<|
 zG (Int×Unit) ((0:Int),()) fun(y11:Int×Unit) (I10:(Int×Unit)->WP)=>
 za (decide (y11.1<y2.1)) (zB<|
 zc (0<=y11.1/\y11.1<((n0:Nat):Int))<|
 zh a0 fun(p12:Addr)=>
 ldW .str (p12.add (Int.toNat y11.1*3)) fun(u13:ByteArray)=>
 zc (0<=y2.1/\y2.1<((n0:Nat):Int))<|
 zh a0 fun(p14:Addr)=>
 ldW .str (p14.add (Int.toNat y2.1*3)) fun(u15:ByteArray)=>
 za (u13.toList==u15.toList) (K (.int .i64 (171:Int)))<|I10 ((wrap .i64 (y11.1+(1:Int))),()))<|I1 ((wrap .i64 (y2.1+(1:Int))),()))<|K (.int .i64 (0:Int))
theorem zpQ (a0:Option Addr) (n0 c0:Nat) {K:Value->WP} {w:World} (h:S72 a0 n0 c0 K w):Calls prog 72 #[(.slice a0 n0 c0)] w (Ret K):=cF an72 false Tryz.func72 h
def an73:Ann:=(AN (AR (AN (.block (.loop [(2,.sh (.one .slc)),(10,.sh (.one (.int .i64)))] [0,9,1000000] (AN (AR (AQ AP AP) (AR (.block (AN (AN (AQ AP AP)))) AP)))))) (AR (AN (.block (.loop [(2,.sh (.one .slc)),(42,.sh (.one (.int .i64)))] [0,41,1000000] (AN (AR (AQ AP AP) (AR (.block (AN (AN (AQ AP AP)))) AP)))))) AO)))
def S73 (x0:Option Addr) (K:Value->WP):WP:=
 zh x0 fun(p1:Addr)=>
 ldW .slc p1 fun(u2:SLC)=>
 zG (SLC×Int×Unit) ((none,0,0),(0:Int),()) fun(y4:SLC×Int×Unit) (I3:(SLC×Int×Unit)->WP)=>
 za (decide (y4.2.1<((u2.2.1:Nat):Int))) (zh x0 fun(p5:Addr)=>
 ldW .slc p5 fun(u6:SLC)=>
 zc (0<=y4.2.1/\y4.2.1<((u6.2.1:Nat):Int))<|
 zh u6.1 fun(p7:Addr)=>
 ldW (.int .u32) ((p7.add (Int.toNat y4.2.1*5)).add 2) fun(u8:Int)=>
 za (u8 !=(0:Int)) (zh x0 fun(p9:Addr)=>
 ldW .slc p9 fun(u10:SLC)=>
 zc (0<=y4.2.1/\y4.2.1<((u10.2.1:Nat):Int))<|
 zh u10.1 fun(p11:Addr)=>
 zi (.cells #[(.int .u64 (wrap .u64 (wrap .i64 ((1:Int)+y4.2.1)))),(.pointer (some ((p11.add (Int.toNat y4.2.1*5)).add 2)))] 135) fun(r12:Nat)=>
 zv prog (Builtin.append_ #[130,130] 130 #[(.slice y4.1.1 y4.1.2.1 y4.1.2.2),(.slice (some (aD r12)) 1 1)]) .slc fun(u13:SLC)=>I3 ((u13.1,u13.2.1,u13.2.2),(wrap .i64 (y4.2.1+(1:Int))),()))<|I3 ((y4.1.1,y4.1.2.1,y4.1.2.2),(wrap .i64 (y4.2.1+(1:Int))),()))<|
 zh x0 fun(p14:Addr)=>
 ldW .slc (p14.add 1) fun(u15:SLC)=>
 zG (SLC×Int×Unit) ((y4.1.1,y4.1.2.1,y4.1.2.2),(0:Int),()) fun(y17:SLC×Int×Unit) (I16:(SLC×Int×Unit)->WP)=>
 za (decide (y17.2.1<((u15.2.1:Nat):Int))) (zh x0 fun(p18:Addr)=>
 ldW .slc (p18.add 1) fun(u19:SLC)=>
 zc (0<=y17.2.1/\y17.2.1<((u19.2.1:Nat):Int))<|
 zh u19.1 fun(p20:Addr)=>
 ldW (.int .u32) ((p20.add (Int.toNat y17.2.1*2)).add 1) fun(u21:Int)=>
 za (u21 !=(0:Int)) (zh x0 fun(p22:Addr)=>
 ldW .slc (p22.add 1) fun(u23:SLC)=>
 zc (0<=y17.2.1/\y17.2.1<((u23.2.1:Nat):Int))<|
 zh u23.1 fun(p24:Addr)=>
 zi (.cells #[(.int .u64 (wrap .u64 (wrap .i64 ((100:Int)+y17.2.1)))),(.pointer (some ((p24.add (Int.toNat y17.2.1*2)).add 1)))] 135) fun(r25:Nat)=>
 zv prog (Builtin.append_ #[130,130] 130 #[(.slice y17.1.1 y17.1.2.1 y17.1.2.2),(.slice (some (aD r25)) 1 1)]) .slc fun(u26:SLC)=>I16 ((u26.1,u26.2.1,u26.2.2),(wrap .i64 (y17.2.1+(1:Int))),()))<|I16 ((y17.1.1,y17.1.2.1,y17.1.2.2),(wrap .i64 (y17.2.1+(1:Int))),()))<|K (.slice y17.1.1 y17.1.2.1 y17.1.2.2)
theorem zpR (x0:Option Addr) {K:Value->WP} {w:World} (h:S73 x0 K w):Calls prog 73 #[(.pointer x0)] w (Ret K):=cF an73 false Tryz.func73 h
def an74:Ann:=(AN (AR (.block (AN (AQ AO (AN (AQ AO AP))))) AO))
def S74 (x0:Option Addr) (x1:Int) (K:Value->WP):WP:=
 za (Option.isNone x0) (K (.int .i64 (1:Int)))<|
 ze prog 39 [(.pointer x0),(.int .u32 x1)] (.one (.one .bool)) fun(u1:Bool)=>
 za (!u1) (K (.int .i64 (2:Int)))<|
 zh x0 fun(p2:Addr)=>
 ldW .ptr (p2.add 8) fun(u3:Option Addr)=>
 ze prog 114 [(.pointer u3),(.int .u32 x1)] (.one (.one (.int .i64))) fun(u4:Int)=>K (.int .i64 u4)
theorem zpS (x0:Option Addr) (x1:Int) {K:Value->WP} {w:World} (h:S74 x0 x1 K w):Calls prog 74 #[(.pointer x0),(.int .u32 x1)] w (Ret K):=cF an74 false Tryz.func74 h
def an75:Ann:=(AN (AR (AN (AN (AQ AO AP))) (AN (AR (AN (.block (.loop [(5,.sh (.one .slc)),(25,.sh (.one (.int .i64)))] [1,23,24,1000000] (AN (AR (AQ AP AP) (AR (.block (AN (AN (AR (AN (AQ AO AP)) (AN AO))))) AP)))))) (AN (AR (AN (.block (.loop [(5,.sh (.one .slc)),(67,.sh (.one (.int .i64)))] [65,66,1000000] (AN (AR (AQ AP AP) (AR (.block AO) AP)))))) AO))))))
def S75 (Aj:Option Addr) (Ak Al:Nat) (Ab:Option Addr) (Ac Ae:Nat) (K:Value->WP):WP:=
 zi (.cells #[(.slice Aj Ak Al),(.slice Ab Ac Ae)] 30) fun(r1:Nat)=>
 zl [.slc,.slc] (aD r1) fun(u2:(SLC×SLC×Unit))=>
 ze prog 115 [(.agg #[(.slice u2.1.1 u2.1.2.1 u2.1.2.2),(.slice u2.2.1.1 u2.2.1.2.1 u2.2.1.2.2)])] (.one (.one (.int .i64))) fun(u3:Int)=>
 za (u3 !=(0:Int)) (K (.tuple #[(.string (ByteArray.mk #[])),(.int .i64 u3)]))<|
 ldW .slc (aD r1) fun(u4:SLC)=>
 zi (.cells #[(.int .u8 (wrap .u8 ((u4.2.1:Nat):Int)))] 5) fun(r5:Nat)=>
 ldW .slc (aD r1) fun(u6:SLC)=>
 zG (SLC×Int×Unit) (((some (aD r5)),1,1),(0:Int),()) fun(y8:SLC×Int×Unit) (I7:(SLC×Int×Unit)->WP)=>
 za (decide (y8.2.1<((u6.2.1:Nat):Int))) (zc (0<=y8.2.1/\y8.2.1<((u6.2.1:Nat):Int))<|
 zh u6.1 fun(p9:Addr)=>
 zl [.str,.slc,(.int .u32),(.int .u64),(.int .i64)] (p9.add (Int.toNat y8.2.1*5)) fun(u10:(ByteArray×SLC×Int×Int×Int×Unit))=>
 zi (.cells #[(.string ByteArray.empty),(.slice none 0 0),(.int .u32 (0:Int)),(.int .u64 (0:Int)),(.int .i64 (0:Int))] 42) fun(r11:Nat)=>
 zc ((#[(.string u10.1),(.slice u10.2.1.1 u10.2.1.2.1 u10.2.1.2.2),(.int .u32 u10.2.2.1),(.int .u64 u10.2.2.2.1),(.int .i64 u10.2.2.2.2.1)]:Array Value).size=5)<|
 zq (aD r11) [(.string u10.1),(.slice u10.2.1.1 u10.2.1.2.1 u10.2.1.2.2),(.int .u32 u10.2.2.1),(.int .u64 u10.2.2.2.1),(.int .i64 u10.2.2.2.2.1)]<|
 ldW .slc ((aD r11).add 1) fun(u12:SLC)=>
 ze prog 116 [(.slice u12.1 u12.2.1 u12.2.2)] (.many [(.one .str),(.one (.int .i64))]) fun(u13:ByteArray×Int×Unit)=>
 za (u13.2.1 !=(0:Int)) (K (.tuple #[(.string (ByteArray.mk #[])),(.int .i64 u13.2.1)]))<|
 ldW .str (aD r11) fun(u14:ByteArray)=>
 ze prog 117 [(.slice y8.1.1 y8.1.2.1 y8.1.2.2),(.string u14)] (.one (.one .slc)) fun(u15:SLC)=>
 zv prog (Builtin.append_ #[119,9] 119 #[(.slice u15.1 u15.2.1 u15.2.2),(.string u13.1)]) .slc fun(u16:SLC)=>
 zB<|
 ldW (.int .u64) ((aD r11).add 3) fun(u17:Int)=>
 ldW (.int .i64) ((aD r11).add 4) fun(u18:Int)=>
 ze prog 70 [(.slice u16.1 u16.2.1 u16.2.2),(.int .u64 u17),(.int .i64 (8:Int))] (.one (.one .slc)) fun(u19:SLC)=>
 zt [[(((aD r11).add 4),(.int .i64 u18))]]<|
 ze prog 70 [(.slice u19.1 u19.2.1 u19.2.2),(.int .u64 (wrap .u64 u18)),(.int .i64 (4:Int))] (.one (.one .slc)) fun(u20:SLC)=>
 ldW (.int .u32) ((aD r11).add 2) fun(u21:Int)=>
 ze prog 118 [(.slice u20.1 u20.2.1 u20.2.2),(.int .u32 u21)] (.one (.one .slc)) fun(u22:SLC)=>I7 ((u22.1,u22.2.1,u22.2.2),(wrap .i64 (y8.2.1+(1:Int))),()))<|
 ldW .slc ((aD r1).add 1) fun(u23:SLC)=>
 zi (.cells #[(.int .u8 (wrap .u8 ((u23.2.1:Nat):Int)))] 5) fun(r24:Nat)=>
 zv prog (Builtin.append_ #[119,119] 119 #[(.slice y8.1.1 y8.1.2.1 y8.1.2.2),(.slice (some (aD r24)) 1 1)]) .slc fun(u25:SLC)=>
 ldW .slc ((aD r1).add 1) fun(u26:SLC)=>
 zG (SLC×Int×Unit) ((u25.1,u25.2.1,u25.2.2),(0:Int),()) fun(y28:SLC×Int×Unit) (I27:(SLC×Int×Unit)->WP)=>
 za (decide (y28.2.1<((u26.2.1:Nat):Int))) (zc (0<=y28.2.1/\y28.2.1<((u26.2.1:Nat):Int))<|
 zh u26.1 fun(p29:Addr)=>
 zl [.str,(.int .u32)] (p29.add (Int.toNat y28.2.1*2)) fun(u30:(ByteArray×Int×Unit))=>
 zi (.cells #[(.string ByteArray.empty),(.int .u32 (0:Int))] 64) fun(r31:Nat)=>
 zc ((#[(.string u30.1),(.int .u32 u30.2.1)]:Array Value).size=2)<|
 zq (aD r31) [(.string u30.1),(.int .u32 u30.2.1)]<|
 zB<|
 ldW .str (aD r31) fun(u32:ByteArray)=>
 ldW (.int .u32) ((aD r31).add 1) fun(u33:Int)=>
 ze prog 117 [(.slice y28.1.1 y28.1.2.1 y28.1.2.2),(.string u32)] (.one (.one .slc)) fun(u34:SLC)=>
 zt [[(((aD r31).add 1),(.int .u32 u33))]]<|
 ze prog 118 [(.slice u34.1 u34.2.1 u34.2.2),(.int .u32 u33)] (.one (.one .slc)) fun(u35:SLC)=>I27 ((u35.1,u35.2.1,u35.2.2),(wrap .i64 (y28.2.1+(1:Int))),()))<|
 zv prog (Go.convert 119 9 (.slice y28.1.1 y28.1.2.1 y28.1.2.2)) .str fun(u36:ByteArray)=>K (.tuple #[(.string u36),(.int .i64 (0:Int))])
end V
end Go.Proofs.YtpagephahcnijaaGreat
