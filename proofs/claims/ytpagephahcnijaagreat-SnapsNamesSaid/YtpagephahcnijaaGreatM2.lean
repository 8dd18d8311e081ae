/- Texts of mine, merged (wip/tool/mergep.py): S_0. -/
import Derived.Test.YtpagephahcnijaaGreatM1
import Derived.Test.YtpagephahcnijaaGreatChecked
open Go.IntKind (wrap)
open Go.Proofs.Tryz (prog)
open List (mem_cons_self mem_cons_of_mem mem_cons length_cons map_map mem_append mem_append_left drop_drop mem_range mem_of_getElem? getElem_mem map_cons mem_map append_assoc nodup_cons foldl_cons append_nil length_map length_set eq_nil_of_length_eq_zero range_succ map_congr_left length_append drop_of_length_le take_of_length_le getD_eq_getElem?_getD mem_singleton length_take length_drop take_succ_eq_append_getElem take_add_one not_mem_nil map_append take_left' length_replicate drop_left' flatMap_cons length_range getElem_range flatMap_append length_singleton)
set_option linter.unusedVariables false
set_option linter.unusedSimpArgs false
namespace Go.Proofs.YtpagephahcnijaaGreat
/- The shallow forms of the functions,by a program of mine (wip/tool/gen.py). -/
set_option maxRecDepth 100000
namespace V
open Go Go.Proofs
theorem mixed:prog.follows .mixedOrders=true:=by kernel_rfl
abbrev AN (a:Ann):Ann:=.seq .nil a
abbrev AO:Ann:=.seq .nil .nil
abbrev AP:Ann:=.nil
abbrev AQ (a b:Ann):Ann:=.cond a b
abbrev AR (a b:Ann):Ann:=.seq a b
theorem cF {f:FuncId} {fn:Func} (an:Ann) (marks:Bool) {args:List Value} {w:World} {K:Value->WP} {T:Prop} (hf:prog.funcs[f]?=some fn) (h:T) (hz:decide (args.length<=fn.ntmps)=true:=by kernel_rfl) (e:T=uS prog fn an marks args K w:=by kernel_rfl):Calls prog f args.toArray w (Ret K):=cE an marks hf mixed hz e h
def an6:Ann:=(AN (AR (AN (AQ AO AP)) (AN (AN (AN (AN (AN (AN (AN (AN (AN (AN (AN (AN (AN (AN (AR (AN (AQ AO AP)) (AN (AR (AN (.block (.loop [(27,.sh (.one (.int .i64)))] [1,2,4,6,8,10,11,12,14,15,16,18,19,20,21,22,23,24,25,26,1000000] (AR (AN (AQ AP AP)) (AR (.block AP) AP))))) (AN (.join [(0,.sh (.one .bool))] [1000000] (.cuts [⟨0,1,0,0,some 130,[4]⟩,⟨1,2,1,0,some 131,[130]⟩,⟨2,4,2,0,some 132,[131]⟩,⟨3,8,4,0,some 133,[6,132]⟩,⟨4,16,12,0,some 134,[133,132]⟩,⟨5,32,20,0,some 135,[132,134]⟩,⟨6,64,36,0,some 136,[135]⟩,⟨7,128,64,0,some 137,[8,136]⟩,⟨8,256,192,0,some 138,[137,136]⟩,⟨9,512,320,0,some 139,[136,138]⟩,⟨10,1024,576,0,some 140,[139]⟩,⟨11,2048,1024,0,some 141,[10,140]⟩,⟨12,4096,3072,0,some 142,[141,140]⟩,⟨13,8192,5120,0,some 143,[140,142]⟩,⟨14,16384,9216,0,some 144,[143]⟩,⟨15,32768,16384,0,some 145,[12,144]⟩,⟨16,65536,49152,0,some 146,[145,144]⟩,⟨17,131072,81920,0,some 147,[144,146]⟩,⟨18,262144,147456,0,some 148,[147]⟩,⟨19,524288,262144,0,some 149,[11,148]⟩,⟨20,1048576,786432,0,some 150,[149,148]⟩,⟨21,2097152,1310720,0,some 151,[148,150]⟩,⟨22,4194304,2359296,0,some 152,[151]⟩,⟨23,8388608,4194304,0,some 153,[14,152]⟩,⟨24,16777216,12582912,0,some 154,[153,152]⟩,⟨25,33554432,20971520,0,some 155,[152,154]⟩,⟨26,67108864,37748736,0,some 156,[155]⟩,⟨27,134217728,67108864,0,some 157,[16,156]⟩,⟨28,268435456,201326592,0,some 158,[157,156]⟩,⟨29,536870912,335544320,0,some 159,[156,158]⟩,⟨30,1073741824,603979776,0,some 160,[159]⟩,⟨31,2147483648,1073741824,0,some 161,[15,160]⟩,⟨32,4294967296,3221225472,0,some 162,[161,160]⟩,⟨33,8589934592,5368709120,0,some 163,[162,160]⟩,⟨34,17179869184,9663676416,0,some 164,[160,163]⟩,⟨35,34359738368,18253611008,0,some 165,[164]⟩,⟨36,68719476736,34359738368,0,some 166,[15,165]⟩,⟨37,137438953472,103079215104,0,some 167,[166,165]⟩,⟨38,274877906944,171798691840,0,some 168,[167,165]⟩,⟨39,549755813888,309237645312,2535301200456458767809034321920,some 169,[168,165]⟩,⟨40,1099511627776,34359738368,0,some 170,[2,165]⟩,⟨41,2199023255552,1133871366144,2535301200456458798595359899648,some 171,[170,165]⟩,⟨42,4398046511104,2233382993920,0,some 172,[171,165]⟩,⟨43,8796093022208,4432406249472,0,some 173,[172,165]⟩,⟨44,17592186044416,8830452760576,2535301200456458767809034321920,some 174,[173,165]⟩,⟨45,35184372088832,18176301596672,0,some 175,[169,174,165]⟩,⟨46,70368744177664,35218731827200,0,some 176,[165,175]⟩,⟨47,140737488355328,70403103916032,0,some 177,[176]⟩,⟨48,281474976710656,140737488355328,0,some 178,[18,177]⟩,⟨49,562949953421312,422212465065984,0,some 179,[178,177]⟩,⟨50,1125899906842624,703687441776640,0,some 180,[177,179]⟩,⟨51,2251799813685248,1266637395197952,0,some 181,[180]⟩,⟨52,4503599627370496,2251799813685248,0,some 182,[20,181]⟩,⟨53,9007199254740992,6755399441055744,0,some 183,[182,181]⟩,⟨54,18014398509481984,11258999068426240,0,some 184,[181,183]⟩,⟨55,36028797018963968,20266198323167232,0,some 185,[184]⟩,⟨56,72057594037927936,36028797018963968,0,some 186,[19,185]⟩,⟨57,144115188075855872,108086391056891904,0,some 187,[186,185]⟩,⟨58,288230376151711744,180143985094819840,0,some 188,[187,185]⟩,⟨59,576460752303423488,324259173170675712,0,some 189,[185,188]⟩,⟨60,1152921504606846976,612489549322387456,0,some 190,[189]⟩,⟨61,2305843009213693952,1152921504606846976,0,some 191,[21,190]⟩,⟨62,4611686018427387904,3458764513820540928,0,some 192,[191,190]⟩,⟨63,9223372036854775808,5764607523034234880,0,some 193,[190,192]⟩,⟨64,18446744073709551616,10376293541461622784,0,some 194,[193]⟩,⟨65,36893488147419103232,18446744073709551616,0,some 195,[23,194]⟩,⟨66,73786976294838206464,55340232221128654848,0,some 196,[195,194]⟩,⟨67,147573952589676412928,92233720368547758080,0,some 197,[194,196]⟩,⟨68,295147905179352825856,166020696663385964544,0,some 198,[197]⟩,⟨69,590295810358705651712,295147905179352825856,0,some 199,[22,198]⟩,⟨70,1180591620717411303424,885443715538058477568,2535301198095275561558583803904,some 200,[199,198]⟩,⟨71,2361183241434822606848,1475739525896764129280,0,some 201,[200,198]⟩,⟨72,4722366482869645213696,2656331146614175432704,0,some 202,[201,198]⟩,⟨73,9444732965739290427392,5017514388048998039552,0,some 203,[198,202]⟩,⟨74,18889465931478580854784,9739880870918643253248,0,some 204,[203]⟩,⟨75,37778931862957161709568,18889465931478580854784,0,some 205,[1,204]⟩,⟨76,75557863725914323419136,18889465931478580854784,0,some 206,[2,204]⟩,⟨77,151115727451828646838272,94447329657392904273920,2535300898225003899336112734208,some 207,[206,204]⟩,⟨78,302231454903657293676544,170005193383307227693056,0,some 208,[207,204]⟩,⟨79,604462909807314587353088,321120920835135874531328,0,some 209,[208,204]⟩,⟨80,1208925819614629174706176,623352375738793168207872,2535298782604819573735056998400,some 210,[209,204]⟩,⟨81,2417851639229258349412352,1265594217409064917270528,0,some 211,[205,210,204]⟩,⟨82,4835703278458516698824704,2436741105160736930267136,0,some 212,[211,204]⟩,⟨83,9671406556917033397649408,4854592744389995279679488,0,some 213,[204,212]⟩,⟨84,19342813113834066795298816,12089258196146291747061760,0,some 214,[213]⟩,⟨85,38685626227668133590597632,19342813113834066795298816,0,some 215,[25,214]⟩,⟨86,77371252455336267181195264,58028439341502200385896448,0,some 216,[215,214]⟩,⟨87,154742504910672534362390528,96714065569170333976494080,0,some 217,[214,216]⟩,⟨88,309485009821345068724781056,174085318024506601157689344,0,some 218,[217]⟩,⟨89,618970019642690137449562112,309485009821345068724781056,0,some 219,[24,218]⟩,⟨90,1237940039285380274899124224,928455029464035206174343168,2532825320377888042443608162304,some 220,[219,218]⟩,⟨91,2475880078570760549798248448,1547425049106725343623905280,0,some 221,[220,218]⟩,⟨92,4951760157141521099596496896,2785365088392105618523029504,0,some 222,[221,218]⟩,⟨93,9903520314283042199192993792,5261245166962866168321277952,2515494159827892718595020423168,some 223,[222,218]⟩,⟨94,19807040628566084398385987584,10213005324104387267917774848,0,some 224,[223,218]⟩,⟨95,39614081257132168796771975168,20116525638387429467110768640,0,some 225,[218,224]⟩,⟨96,79228162514264337593543950336,39923566266953513865496756224,0,some 226,[225]⟩,⟨97,158456325028528675187087900672,79228162514264337593543950336,0,some 227,[29,226]⟩,⟨98,316912650057057350374175801344,237684487542793012780631851008,0,some 228,[227,226]⟩,⟨99,633825300114114700748351602688,396140812571321687967719751680,0,some 229,[226,228]⟩,⟨100,1267650600228229401496703205376,1267650600228229401496703205375,0,some 0,[229]⟩] [⟨32767,[(144,.sh (.one .bool))],[1,2,11,12,14,15,16,18,19,20,21,22,23,24,25,29,1000000]⟩,⟨134217727,[(156,.sh (.one .bool))],[1,2,15,16,18,19,20,21,22,23,24,25,29,1000000]⟩,⟨281474976710655,[(177,.sh (.one .bool))],[1,2,18,19,20,21,22,23,24,25,29,1000000]⟩,⟨2305843009213693951,[(190,.sh (.one .bool))],[1,2,21,22,23,24,25,29,1000000]⟩,⟨37778931862957161709567,[(204,.sh (.one .bool))],[1,2,24,25,29,1000000]⟩,⟨618970019642690137449562111,[(218,.sh (.one .bool))],[24,29,1000000]⟩]) AP)))))))))))))))))))))
def S6  (K:Value->WP):WP:=
 ze prog 7 [] (.one (.one .bool)) fun(u1:Bool)=>
 za (!u1) (K (.bool false))<|
 ze prog 8 [] (.one (.one .ptr)) fun(u2:Option Addr)=>
 ze prog 24 [(.pointer u2)] (.one (.agg [.slc,.slc])) fun(u3:(SLC×SLC×Unit))=>
 zi (.cells #[(.slice none 0 0),(.slice none 0 0)] 30) fun(r4:Nat)=>
 zc ((#[(.slice u3.1.1 u3.1.2.1 u3.1.2.2),(.slice u3.2.1.1 u3.2.1.2.1 u3.2.1.2.2)]:Array Value).size=2)<|
 zr (aD r4) [(.slice u3.1.1 u3.1.2.1 u3.1.2.2),(.slice u3.2.1.1 u3.2.1.2.1 u3.2.1.2.2)]<|
 zl [.slc,.slc] (aD r4) fun(u5:(SLC×SLC×Unit))=>
 ze prog 13 [(.pointer u2),(.agg #[(.slice u5.1.1 u5.1.2.1 u5.1.2.2),(.slice u5.2.1.1 u5.2.1.2.1 u5.2.1.2.2)]),(.string (ByteArray.mk #[115]))] (.many [(.agg [.slc,.slc]),(.one (.int .i64))]) fun(u6:(SLC×SLC×Unit)×Int×Unit)=>
 zi (.cells #[(.slice none 0 0),(.slice none 0 0)] 30) fun(r7:Nat)=>
 zc ((#[(.slice u6.1.1.1 u6.1.1.2.1 u6.1.1.2.2),(.slice u6.1.2.1.1 u6.1.2.1.2.1 u6.1.2.1.2.2)]:Array Value).size=2)<|
 zr (aD r7) [(.slice u6.1.1.1 u6.1.1.2.1 u6.1.1.2.2),(.slice u6.1.2.1.1 u6.1.2.1.2.1 u6.1.2.1.2.2)]<|
 zl [.slc,.slc] (aD r7) fun(u8:(SLC×SLC×Unit))=>
 ze prog 13 [(.pointer u2),(.agg #[(.slice u8.1.1 u8.1.2.1 u8.1.2.2),(.slice u8.2.1.1 u8.2.1.2.1 u8.2.1.2.2)]),(.string (ByteArray.mk #[115]))] (.many [(.agg [.slc,.slc]),(.one (.int .i64))]) fun(u9:(SLC×SLC×Unit)×Int×Unit)=>
 zi (.cells #[(.slice none 0 0),(.slice none 0 0)] 30) fun(r10:Nat)=>
 zc ((#[(.slice u9.1.1.1 u9.1.1.2.1 u9.1.1.2.2),(.slice u9.1.2.1.1 u9.1.2.1.2.1 u9.1.2.1.2.2)]:Array Value).size=2)<|
 zr (aD r10) [(.slice u9.1.1.1 u9.1.1.2.1 u9.1.1.2.2),(.slice u9.1.2.1.1 u9.1.2.1.2.1 u9.1.2.1.2.2)]<|
 zl [.slc,.slc] (aD r7) fun(u11:(SLC×SLC×Unit))=>
 ze prog 13 [(.pointer u2),(.agg #[(.slice u11.1.1 u11.1.2.1 u11.1.2.2),(.slice u11.2.1.1 u11.2.1.2.1 u11.2.1.2.2)]),(.string (ByteArray.mk #[]))] (.many [(.agg [.slc,.slc]),(.one (.int .i64))]) fun(u12:(SLC×SLC×Unit)×Int×Unit)=>
 zi (.cells #[(.slice none 0 0),(.slice none 0 0)] 30) fun(r13:Nat)=>
 zc ((#[(.slice u12.1.1.1 u12.1.1.2.1 u12.1.1.2.2),(.slice u12.1.2.1.1 u12.1.2.1.2.1 u12.1.2.1.2.2)]:Array Value).size=2)<|
 zr (aD r13) [(.slice u12.1.1.1 u12.1.1.2.1 u12.1.1.2.2),(.slice u12.1.2.1.1 u12.1.2.1.2.1 u12.1.2.1.2.2)]<|
 zl [.slc,.slc] (aD r7) fun(u14:(SLC×SLC×Unit))=>
 ze prog 19 [(.pointer u2),(.agg #[(.slice u14.1.1 u14.1.2.1 u14.1.2.2),(.slice u14.2.1.1 u14.2.1.2.1 u14.2.1.2.2)]),(.string (ByteArray.mk #[120]))] (.many [(.agg [.slc,.slc]),(.one (.int .i64))]) fun(u15:(SLC×SLC×Unit)×Int×Unit)=>
 zi (.cells #[(.slice none 0 0),(.slice none 0 0)] 30) fun(r16:Nat)=>
 zc ((#[(.slice u15.1.1.1 u15.1.1.2.1 u15.1.1.2.2),(.slice u15.1.2.1.1 u15.1.2.1.2.1 u15.1.2.1.2.2)]:Array Value).size=2)<|
 zr (aD r16) [(.slice u15.1.1.1 u15.1.1.2.1 u15.1.1.2.2),(.slice u15.1.2.1.1 u15.1.2.1.2.1 u15.1.2.1.2.2)]<|
 zl [.slc,.slc] (aD r7) fun(u17:(SLC×SLC×Unit))=>
 ze prog 23 [(.agg #[(.slice u17.1.1 u17.1.2.1 u17.1.2.2),(.slice u17.2.1.1 u17.2.1.2.1 u17.2.1.2.2)]),(.string (ByteArray.mk #[115]))] (.many [(.one (.int .i64)),(.one (.int .i64))]) fun(u18:Int×Int×Unit)=>
 zl [.slc,.slc] (aD r7) fun(u19:(SLC×SLC×Unit))=>
 ze prog 23 [(.agg #[(.slice u19.1.1 u19.1.2.1 u19.1.2.2),(.slice u19.2.1.1 u19.2.1.2.1 u19.2.1.2.2)]),(.string (ByteArray.mk #[120]))] (.many [(.one (.int .i64)),(.one (.int .i64))]) fun(u20:Int×Int×Unit)=>
 zl [.slc,.slc] (aD r7) fun(u21:(SLC×SLC×Unit))=>
 ze prog 15 [(.pointer u2),(.agg #[(.slice u21.1.1 u21.1.2.1 u21.1.2.2),(.slice u21.2.1.1 u21.2.1.2.1 u21.2.1.2.2)]),(.string (ByteArray.mk #[115]))] (.many [(.one .slc),(.one (.int .i64))]) fun(u22:SLC×Int×Unit)=>
 zl [.slc,.slc] (aD r7) fun(u23:(SLC×SLC×Unit))=>
 ze prog 15 [(.pointer u2),(.agg #[(.slice u23.1.1 u23.1.2.1 u23.1.2.2),(.slice u23.2.1.1 u23.2.1.2.1 u23.2.1.2.2)]),(.string (ByteArray.mk #[120]))] (.many [(.one .slc),(.one (.int .i64))]) fun(u24:SLC×Int×Unit)=>
 zl [.slc,.slc] (aD r7) fun(u25:(SLC×SLC×Unit))=>
 ze prog 15 [(.pointer u2),(.agg #[(.slice u25.1.1 u25.1.2.1 u25.1.2.2),(.slice u25.2.1.1 u25.2.1.2.1 u25.2.1.2.2)]),(.string (ByteArray.mk #[]))] (.many [(.one .slc),(.one (.int .i64))]) fun(u26:SLC×Int×Unit)=>
 ldW .slc (aD r4) fun(u27:SLC)=>
 zc (0<=(0:Int)/\(0:Int)<((u27.2.1:Nat):Int))<|
 zk u27.1 fun(p28:Addr)=>
 ldW (.int .u32) ((p28.add (Int.toNat (0:Int)*5)).add 2) fun(u29:Int)=>
 ze prog 18 [(.pointer u2),(.int .u32 u29)] (.one (.one (.int .i64))) fun(u30:Int)=>
 zl [.slc,.slc] (aD r7) fun(u31:(SLC×SLC×Unit))=>
 ze prog 19 [(.pointer u2),(.agg #[(.slice u31.1.1 u31.1.2.1 u31.1.2.2),(.slice u31.2.1.1 u31.2.1.2.1 u31.2.1.2.2)]),(.string (ByteArray.mk #[115]))] (.many [(.agg [.slc,.slc]),(.one (.int .i64))]) fun(u32:(SLC×SLC×Unit)×Int×Unit)=>
 zi (.cells #[(.slice none 0 0),(.slice none 0 0)] 30) fun(r33:Nat)=>
 zc ((#[(.slice u32.1.1.1 u32.1.1.2.1 u32.1.1.2.2),(.slice u32.1.2.1.1 u32.1.2.1.2.1 u32.1.2.1.2.2)]:Array Value).size=2)<|
 zr (aD r33) [(.slice u32.1.1.1 u32.1.1.2.1 u32.1.1.2.2),(.slice u32.1.2.1.1 u32.1.2.1.2.1 u32.1.2.1.2.2)]<|
 ze prog 13 [(.pointer u2),(.agg #[(.slice none 0 0),(.slice none 0 0)]),(.string (ByteArray.mk #[101]))] (.many [(.agg [.slc,.slc]),(.one (.int .i64))]) fun(u34:(SLC×SLC×Unit)×Int×Unit)=>
 zi (.cells #[(.slice none 0 0),(.slice none 0 0)] 30) fun(r35:Nat)=>
 zc ((#[(.slice u34.1.1.1 u34.1.1.2.1 u34.1.1.2.2),(.slice u34.1.2.1.1 u34.1.2.1.2.1 u34.1.2.1.2.2)]:Array Value).size=2)<|
 zr (aD r35) [(.slice u34.1.1.1 u34.1.1.2.1 u34.1.1.2.2),(.slice u34.1.2.1.1 u34.1.2.1.2.1 u34.1.2.1.2.2)]<|
 ldW .slc ((aD r35).add 1) fun(u36:SLC)=>
 za (((u36.2.1:Nat):Int)==(0:Int)) (K (.bool false))<|
 zl [.slc,.slc] (aD r35) fun(u37:(SLC×SLC×Unit))=>
 zi (.cells #[(.slice none 0 0),(.slice none 0 0)] 30) fun(r38:Nat)=>
 zc ((#[(.slice u37.1.1 u37.1.2.1 u37.1.2.2),(.slice u37.2.1.1 u37.2.1.2.1 u37.2.1.2.2)]:Array Value).size=2)<|
 zr (aD r38) [(.slice u37.1.1 u37.1.2.1 u37.1.2.2),(.slice u37.2.1.1 u37.2.1.2.1 u37.2.1.2.2)]<|
 zL (Int×Unit) ((0:Int),()) fun(y40:Int×Unit) (I39:(Int×Unit)->WP)=>
 za (decide (y40.1<(15:Int))) (zF<|
 zl [.slc,.slc] (aD r38) fun(u41:(SLC×SLC×Unit))=>
 ze prog 25 [(.string (ByteArray.mk #[97])),(.int .i64 (wrap .i64 (y40.1+(1:Int))))] (.one (.one .str)) fun(u42:ByteArray)=>
 zu [[((aD r38).add 0,(.slice u41.1.1 u41.1.2.1 u41.1.2.2)),((aD r38).add 1,(.slice u41.2.1.1 u41.2.1.2.1 u41.2.1.2.2))]]<|
 ze prog 13 [(.pointer u2),(.agg #[(.slice u41.1.1 u41.1.2.1 u41.1.2.2),(.slice u41.2.1.1 u41.2.1.2.1 u41.2.1.2.2)]),(.string u42)] (.many [(.agg [.slc,.slc]),(.one (.int .i64))]) fun(u43:(SLC×SLC×Unit)×Int×Unit)=>
 zc ((#[(.slice u43.1.1.1 u43.1.1.2.1 u43.1.1.2.2),(.slice u43.1.2.1.1 u43.1.2.1.2.1 u43.1.2.1.2.2)]:Array Value).size=2)<|
 zr (aD r38) [(.slice u43.1.1.1 u43.1.1.2.1 u43.1.1.2.2),(.slice u43.1.2.1.1 u43.1.2.1.2.1 u43.1.2.1.2.2)]<|I39 ((wrap .i64 (y40.1+(1:Int))),()))<|
 zl [.slc,.slc] (aD r38) fun(u44:(SLC×SLC×Unit))=>
 ze prog 13 [(.pointer u2),(.agg #[(.slice u44.1.1 u44.1.2.1 u44.1.2.2),(.slice u44.2.1.1 u44.2.1.2.1 u44.2.1.2.2)]),(.string (ByteArray.mk #[122]))] (.many [(.agg [.slc,.slc]),(.one (.int .i64))]) fun(u45:(SLC×SLC×Unit)×Int×Unit)=>
 zi (.cells #[(.slice none 0 0),(.slice none 0 0)] 30) fun(r46:Nat)=>
 zc ((#[(.slice u45.1.1.1 u45.1.1.2.1 u45.1.1.2.2),(.slice u45.1.2.1.1 u45.1.2.1.2.1 u45.1.2.1.2.2)]:Array Value).size=2)<|
 zr (aD r46) [(.slice u45.1.1.1 u45.1.1.2.1 u45.1.1.2.2),(.slice u45.1.2.1.1 u45.1.2.1.2.1 u45.1.2.1.2.2)]<|
 yF (Bool×Unit) (fun(J47:(Bool×Unit)->WP)=>
 zF<|
 yF (Bool×Unit) (fun(J49:(Bool×Unit)->WP)=>
 za (u6.2.1==(0:Int)) (za (u9.2.1==(6:Int)) (za (u12.2.1==(170:Int)) (za (u15.2.1==(211:Int)) (J49 (true,()))<|J49 (false,()))<|J49 (false,()))<|J49 (false,()))<|J49 (false,())) fun(y50:Bool×Unit)=>
 yF (Bool×Unit) (fun(J51:(Bool×Unit)->WP)=>
 za y50.1 (za (u18.2.1==(0:Int)) (za (u18.1==(0:Int)) (za (u20.2.1==(211:Int)) (J51 (true,()))<|J51 (false,()))<|J51 (false,()))<|J51 (false,()))<|J51 (false,())) fun(y52:Bool×Unit)=>
 yF (Bool×Unit) (fun(J53:(Bool×Unit)->WP)=>
 za y52.1 (za (u22.2.1==(0:Int)) (za (((u22.1.2.1:Nat):Int)==(1:Int)) (zc (0<=(0:Int)/\(0:Int)<((u22.1.2.1:Nat):Int))<|
 zk u22.1.1 fun(p55:Addr)=>
 ldW (.int .u32) ((p55.add (Int.toNat (0:Int)*5)).add 2) fun(u56:Int)=>
 ldW .slc (aD r4) fun(u57:SLC)=>
 zc (0<=(0:Int)/\(0:Int)<((u57.2.1:Nat):Int))<|
 zk u57.1 fun(p58:Addr)=>
 ldW (.int .u32) ((p58.add (Int.toNat (0:Int)*5)).add 2) fun(u59:Int)=>
 za (u56==u59) (J53 (true,()))<|J53 (false,()))<|J53 (false,()))<|J53 (false,()))<|J53 (false,())) fun(y54:Bool×Unit)=>
 yF (Bool×Unit) (fun(J60:(Bool×Unit)->WP)=>
 za y54.1 (za (u24.2.1==(211:Int)) (za (u26.2.1==(0:Int)) (za (((u26.1.2.1:Nat):Int)==(1:Int)) (J60 (true,()))<|J60 (false,()))<|J60 (false,()))<|J60 (false,()))<|J60 (false,())) fun(y61:Bool×Unit)=>
 yF (Bool×Unit) (fun(J62:(Bool×Unit)->WP)=>
 za y61.1 (za (u30==(2:Int)) (za (u32.2.1==(0:Int)) (ldW .slc ((aD r33).add 1) fun(u64:SLC)=>
 za (((u64.2.1:Nat):Int)==(0:Int)) (J62 (true,()))<|J62 (false,()))<|J62 (false,()))<|J62 (false,()))<|J62 (false,())) fun(y63:Bool×Unit)=>
 yF (Bool×Unit) (fun(J65:(Bool×Unit)->WP)=>
 za y63.1 (ldW .slc (aD r4) fun(u67:SLC)=>
 zc (0<=(0:Int)/\(0:Int)<((u67.2.1:Nat):Int))<|
 zk u67.1 fun(p68:Addr)=>
 ldW (.int .u32) ((p68.add (Int.toNat (0:Int)*5)).add 2) fun(u69:Int)=>
 ze prog 18 [(.pointer u2),(.int .u32 u69)] (.one (.one (.int .i64))) fun(u70:Int)=>
 za (u70==(1:Int)) (za (u34.2.1==(0:Int)) (J65 (true,()))<|J65 (false,()))<|J65 (false,()))<|J65 (false,())) fun(y66:Bool×Unit)=>
 za y66.1 (ldW .slc ((aD r35).add 1) fun(u71:SLC)=>
 zc (0<=(0:Int)/\(0:Int)<((u71.2.1:Nat):Int))<|
 zk u71.1 fun(p72:Addr)=>
 ldW (.int .u32) ((p72.add (Int.toNat (0:Int)*2)).add 1) fun(u73:Int)=>
 za (u73==(0:Int)) (J47 ((u45.2.1==(12:Int)),()))<|J47 (false,()))<|J47 (false,())) fun(y48:Bool×Unit)=>K (.bool y48.1)
theorem zpv  {K:Value->WP} {w:World} (h:S6  K w):Calls prog 6 #[] w (Ret K):=cF an6 false Tryz.func6 h
def an7:Ann:=(AN (AN (AR (AN (AQ AO AP)) (AN AO))))
def S7  (K:Value->WP):WP:=
 ze prog 8 [] (.one (.one .ptr)) fun(u1:Option Addr)=>
 za (Option.isNone u1) (K (.bool false))<|
 ze prog 24 [(.pointer u1)] (.one (.agg [.slc,.slc])) fun(u2:(SLC×SLC×Unit))=>
 ze prog 13 [(.pointer u1),(.agg #[(.slice u2.1.1 u2.1.2.1 u2.1.2.2),(.slice u2.2.1.1 u2.2.1.2.1 u2.2.1.2.2)]),(.string (ByteArray.mk #[115]))] (.many [(.agg [.slc,.slc]),(.one (.int .i64))]) fun(u3:(SLC×SLC×Unit)×Int×Unit)=>
 zi (.cells #[(.slice none 0 0),(.slice none 0 0)] 30) fun(r4:Nat)=>
 zc ((#[(.slice u3.1.1.1 u3.1.1.2.1 u3.1.1.2.2),(.slice u3.1.2.1.1 u3.1.2.1.2.1 u3.1.2.1.2.2)]:Array Value).size=2)<|
 zr (aD r4) [(.slice u3.1.1.1 u3.1.1.2.1 u3.1.1.2.2),(.slice u3.1.2.1.1 u3.1.2.1.2.1 u3.1.2.1.2.2)]<|
 za (u3.2.1==(0:Int)) (zl [.slc,.slc] (aD r4) fun(u5:(SLC×SLC×Unit))=>
 ze prog 22 [(.agg #[(.slice u5.1.1 u5.1.2.1 u5.1.2.2),(.slice u5.2.1.1 u5.2.1.2.1 u5.2.1.2.2)])] (.one (.one .slc)) fun(u6:SLC)=>
 zi (.cells #[(.string (ByteArray.mk #[115]))] 9) fun(r7:Nat)=>
 ze prog 21 [(.slice u6.1 u6.2.1 u6.2.2),(.slice (some (aD r7)) 1 1)] (.one (.one .bool)) fun(u8:Bool)=>K (.bool u8))<|K (.bool false)
theorem zpw  {K:Value->WP} {w:World} (h:S7  K w):Calls prog 7 #[] w (Ret K):=cF an7 false Tryz.func7 h
def an8:Ann:=(AN (AN (AN (AR (AN (AQ AO AP)) AO))))
def S8  (K:Value->WP):WP:=
 ze prog 26 [(.agg #[(.int .i64 (256:Int)),(.int .i64 (256:Int))])] (.many [(.one .ptr),(.one (.int .i64))]) fun(u1:Option Addr×Int×Unit)=>
 ze prog 27 [(.pointer u1.1)] (.many [(.one .ptr),(.one (.int .i64))]) fun(u2:Option Addr×Int×Unit)=>
 za (u2.2.1 !=(0:Int)) (K (.pointer none))<|K (.pointer u2.1)
theorem zpx  {K:Value->WP} {w:World} (h:S8  K w):Calls prog 8 #[] w (Ret K):=cF an8 false Tryz.func8 h
def an9:Ann:=(AN (AR (AN (AQ AO AP)) (AR (AN (.block (.loop [(7,.sh (.one (.int .u32)))] [] (AN (.block AP))))) AO)))
def S9 (x0:Option Addr) (K:Value->WP):WP:=
 zi (.cells #[(.int .i64 (0:Int))] 3) fun(r1:Nat)=>
 za (Option.isNone x0) (stW (aD r1) (.int .i64 (0:Int))<|
 zX prog []<|
 ldW (.int .i64) (aD r1) fun(u2:Int)=>K (.int .i64 u2))<|
 ze prog 28 [(.pointer x0)] (.one (.one .any)) fun(u3:Value)=>
 ji prog u3 (Int×Unit) (fun(t4:Int×Unit)=>[(.int .u32 t4.1)]) (fun(t4:Int×Unit) (B5:WP->WP) (N6:WP) (Q7:Code->WP)=>B5 (ldW (.int .i64) (aD r1) fun(u10:Int)=>
 stW (aD r1) (.int .i64 (wrap .i64 (u10+(1:Int))))<|N6)) fun(r8:Nat) (p9:Option Code)=>
 jb (ldW (.int .i64) (aD r1) fun(u11:Int)=>
 stW (aD r1) (.int .i64 u11)<|
 zX prog (⟨.collected r8,#[]⟩::[])<|
 ldW (.int .i64) (aD r1) fun(u12:Int)=>K (.int .i64 u12)) (zX prog (⟨.collected r8,#[]⟩::[])<|
 ldW (.int .i64) (aD r1) fun(u13:Int)=>K (.int .i64 u13)) [] p9
theorem zpy (x0:Option Addr) {K:Value->WP} {w:World} (h:S9 x0 K w):Calls prog 9 #[(.pointer x0)] w (Ret K):=cF an9 true Tryz.func9 h
def an13:Ann:=(AN (AR (AN (AN (AQ AO AP))) (AN (.join [(9,.sh (.one (.int .i64)))] [0,4,5,6,1000000] (AN (AQ AP AP)) (.join [] [0,4,5,6,9,1000000] (.block (.join [(30,.sh (.one .bool))] [0,4,5,6,9,1000000] AP (AQ AO (AN (AQ AO AP))))) (AN (AR (AN (AN (AQ AO AP))) (AN (AR (AN (AQ AO AP)) (AN (AN AO)))))))))))
def S13 (x0:Option Addr) (Ar:Option Addr) (As Au:Nat) (Am:Option Addr) (An Ao:Nat) (x2:ByteArray) (K:Value->WP):WP:=
 zi (.cells #[(.slice Ar As Au),(.slice Am An Ao)] 30) fun(r1:Nat)=>
 zi (.cells #[(.string x2)] 9) fun(r2:Nat)=>
 zi (.cells #[(.slice none 0 0),(.slice none 0 0)] 30) fun(r3:Nat)=>
 ldW .str (aD r2) fun(u4:ByteArray)=>
 ze prog 32 [(.string u4)] (.one (.one (.int .i64))) fun(u5:Int)=>
 za (u5 !=(0:Int)) (zc ((#[(.slice none 0 0),(.slice none 0 0)]:Array Value).size=2)<|
 zr (aD r3) [(.slice none 0 0),(.slice none 0 0)]<|
 zl [.slc,.slc] (aD r3) fun(u6:(SLC×SLC×Unit))=>K (.tuple #[(.agg #[(.slice u6.1.1 u6.1.2.1 u6.1.2.2),(.slice u6.2.1.1 u6.2.1.2.1 u6.2.1.2.2)]),(.int .i64 u5)]))<|
 ldW .slc ((aD r1).add 1) fun(u7:SLC)=>
 ze prog 33 [(.slice u7.1 u7.2.1 u7.2.2),(.func (.func 34) #[] #[(.pointer (some (aD r2)))])] (.one (.one (.int .i64))) fun(u8:Int)=>
 yF (Int×Unit) (fun(J9:(Int×Unit)->WP)=>
 za (decide (u8<(0:Int))) (ldW .slc ((aD r1).add 1) fun(u11:SLC)=>J9 (((u11.2.1:Nat):Int),()))<|J9 (u8,())) fun(y10:Int×Unit)=>
 yF (Unit) (fun(J12:(Unit)->WP)=>
 yF (Bool×Unit) (fun(J14:(Bool×Unit)->WP)=>
 zF<|
 ldW .slc ((aD r1).add 1) fun(u16:SLC)=>
 za (decide (y10.1<((u16.2.1:Nat):Int))) (ldW .slc ((aD r1).add 1) fun(u17:SLC)=>
 zc (0<=y10.1/\y10.1<((u17.2.1:Nat):Int))<|
 zk u17.1 fun(p18:Addr)=>
 ldW .str (p18.add (Int.toNat y10.1*2)) fun(u19:ByteArray)=>
 ldW .str (aD r2) fun(u20:ByteArray)=>J14 ((u19.toList==u20.toList),()))<|J14 (false,())) fun(y15:Bool×Unit)=>
 za y15.1 (zc ((#[(.slice none 0 0),(.slice none 0 0)]:Array Value).size=2)<|
 zr (aD r3) [(.slice none 0 0),(.slice none 0 0)]<|
 zl [.slc,.slc] (aD r3) fun(u21:(SLC×SLC×Unit))=>K (.tuple #[(.agg #[(.slice u21.1.1 u21.1.2.1 u21.1.2.2),(.slice u21.2.1.1 u21.2.1.2.1 u21.2.1.2.2)]),(.int .i64 (6:Int))]))<|
 ldW .slc ((aD r1).add 1) fun(u22:SLC)=>
 za (decide (((u22.2.1:Nat):Int)>=(16:Int))) (zc ((#[(.slice none 0 0),(.slice none 0 0)]:Array Value).size=2)<|
 zr (aD r3) [(.slice none 0 0),(.slice none 0 0)]<|
 zl [.slc,.slc] (aD r3) fun(u23:(SLC×SLC×Unit))=>K (.tuple #[(.agg #[(.slice u23.1.1 u23.1.2.1 u23.1.2.2),(.slice u23.2.1.1 u23.2.1.2.1 u23.2.1.2.2)]),(.int .i64 (12:Int))]))<|J12 ()) fun(y13:Unit)=>
 ldW .slc (aD r1) fun(u24:SLC)=>
 zi (.cells #[(.slice none 0 0),(.slice none 0 0)] 30) fun(r25:Nat)=>
 zc ((#[(.slice u24.1 u24.2.1 u24.2.2),(.slice none 0 0)]:Array Value).size=2)<|
 zr (aD r25) [(.slice u24.1 u24.2.1 u24.2.2),(.slice none 0 0)]<|
 zl [.slc,.slc] (aD r25) fun(u26:(SLC×SLC×Unit))=>
 ze prog 35 [(.pointer x0),(.agg #[(.slice u26.1.1 u26.1.2.1 u26.1.2.2),(.slice u26.2.1.1 u26.2.1.2.1 u26.2.1.2.2)])] (.one (.one (.int .i64))) fun(u27:Int)=>
 za (u27 !=(0:Int)) (zc ((#[(.slice none 0 0),(.slice none 0 0)]:Array Value).size=2)<|
 zr (aD r3) [(.slice none 0 0),(.slice none 0 0)]<|
 zl [.slc,.slc] (aD r3) fun(u28:(SLC×SLC×Unit))=>K (.tuple #[(.agg #[(.slice u28.1.1 u28.1.2.1 u28.1.2.2),(.slice u28.2.1.1 u28.2.1.2.1 u28.2.1.2.2)]),(.int .i64 u27)]))<|
 zl [.slc,.slc] (aD r25) fun(u29:(SLC×SLC×Unit))=>
 ze prog 36 [(.pointer x0),(.agg #[(.slice u29.1.1 u29.1.2.1 u29.1.2.2),(.slice u29.2.1.1 u29.2.1.2.1 u29.2.1.2.2)])] (.many [(.one (.int .u32)),(.one (.int .i64))]) fun(u30:Int×Int×Unit)=>
 za (u30.2.1 !=(0:Int)) (zc ((#[(.slice none 0 0),(.slice none 0 0)]:Array Value).size=2)<|
 zr (aD r3) [(.slice none 0 0),(.slice none 0 0)]<|
 zl [.slc,.slc] (aD r3) fun(u31:(SLC×SLC×Unit))=>K (.tuple #[(.agg #[(.slice u31.1.1 u31.1.2.1 u31.1.2.2),(.slice u31.2.1.1 u31.2.1.2.1 u31.2.1.2.2)]),(.int .i64 u30.2.1)]))<|
 zl [.slc,.slc] (aD r1) fun(u32:(SLC×SLC×Unit))=>
 ze prog 37 [(.agg #[(.slice u32.1.1 u32.1.2.1 u32.1.2.2),(.slice u32.2.1.1 u32.2.1.2.1 u32.2.1.2.2)])] (.one (.agg [.slc,.slc])) fun(u33:(SLC×SLC×Unit))=>
 zi (.cells #[(.slice none 0 0),(.slice none 0 0)] 30) fun(r34:Nat)=>
 zc ((#[(.slice u33.1.1 u33.1.2.1 u33.1.2.2),(.slice u33.2.1.1 u33.2.1.2.1 u33.2.1.2.2)]:Array Value).size=2)<|
 zr (aD r34) [(.slice u33.1.1 u33.1.2.1 u33.1.2.2),(.slice u33.2.1.1 u33.2.1.2.1 u33.2.1.2.2)]<|
 ldW .slc ((aD r34).add 1) fun(u35:SLC)=>
 ldW .str (aD r2) fun(u36:ByteArray)=>
 zi (.cells #[(.string u36),(.int .u32 u30.1)] 64) fun(r37:Nat)=>
 ze prog 38 [(.slice u35.1 u35.2.1 u35.2.2),(.int .i64 y10.1),(.slice (some (aD r37)) 1 1)] (.one (.one .slc)) fun(u38:SLC)=>
 stW ((aD r34).add 1) (.slice u38.1 u38.2.1 u38.2.2)<|
 zl [.slc,.slc] (aD r34) fun(u39:(SLC×SLC×Unit))=>
 zc ((#[(.slice u39.1.1 u39.1.2.1 u39.1.2.2),(.slice u39.2.1.1 u39.2.1.2.1 u39.2.1.2.2)]:Array Value).size=2)<|
 zr (aD r3) [(.slice u39.1.1 u39.1.2.1 u39.1.2.2),(.slice u39.2.1.1 u39.2.1.2.1 u39.2.1.2.2)]<|
 zl [.slc,.slc] (aD r3) fun(u40:(SLC×SLC×Unit))=>K (.tuple #[(.agg #[(.slice u40.1.1 u40.1.2.1 u40.1.2.2),(.slice u40.2.1.1 u40.2.1.2.1 u40.2.1.2.2)]),(.int .i64 (0:Int))])
theorem znO (x0:Option Addr) (Ar:Option Addr) (As Au:Nat) (Am:Option Addr) (An Ao:Nat) (x2:ByteArray) {K:Value->WP} {w:World} (h:S13 x0 Ar As Au Am An Ao x2 K w):Calls prog 13 #[(.pointer x0),(.agg #[(.slice Ar As Au),(.slice Am An Ao)]),(.string x2)] w (Ret K):=cF an13 false Tryz.func13 h
def an14:Ann:=(AN (AR (.block (AN (AQ AO (AN (AQ AO AP))))) (AN (AN (AR (.block (.loop [(5,.sh (.one .slc))] [0,1000000] (AR (AN (AQ AP AP)) (.block (AN (AN (AN (AR (AN (AQ (AR (AN (AN (AQ AO AP))) AP) AP)) (AN (AR (AN (AQ AO AP)) (AR (AN (AN (AQ AO AP))) AO))))))))))) AO)))))
def S14 (x0:Option Addr) (x1:Int) (K:Value->WP):WP:=
 za (Option.isNone x0) (K (.int .i64 (1:Int)))<|
 ze prog 39 [(.pointer x0),(.int .u32 x1)] (.one (.one .bool)) fun(u1:Bool)=>
 za (!u1) (K (.int .i64 (2:Int)))<|
 zi (.cells #[(.int .u32 x1)] 39) fun(r2:Nat)=>
 zL (SLC×Unit) (((some (aD r2)),1,1),()) fun(y4:SLC×Unit) (I3:(SLC×Unit)->WP)=>
 za (decide (((y4.1.2.1:Nat):Int)>(0:Int))) (zc (0<=(wrap .i64 (((y4.1.2.1:Nat):Int)-(1:Int)))/\(wrap .i64 (((y4.1.2.1:Nat):Int)-(1:Int)))<((y4.1.2.1:Nat):Int))<|
 zk y4.1.1 fun(p5:Addr)=>
 ldW (.int .u32) (p5.add (Int.toNat (wrap .i64 (((y4.1.2.1:Nat):Int)-(1:Int)))*1)) fun(u6:Int)=>
 zc (0<=(wrap .i64 (((y4.1.2.1:Nat):Int)-(1:Int)))/\(wrap .i64 (((y4.1.2.1:Nat):Int)-(1:Int)))<=((y4.1.2.2:Nat):Int))<|
 zk x0 fun(p7:Addr)=>
 ldW .ptr (p7.add 8) fun(u8:Option Addr)=>
 ze prog 40 [(.pointer u8),(.int .u32 u6)] (.one (.one (.int .i64))) fun(u9:Int)=>
 za (u9 !=(1:Int)) (zk x0 fun(p10:Addr)=>
 ldW .ptr (p10.add 8) fun(u11:Option Addr)=>
 ze prog 41 [(.pointer u11),(.int .u32 u6)] (.many [(.one (.int .i64)),(.one (.int .i64))]) fun(u12:Int×Int×Unit)=>
 za (u12.2.1 !=(0:Int)) (K (.int .i64 u12.2.1))<|I3 (((zh y4.1.1 0 y4.1.2.2 1),(Int.toNat (wrap .i64 (((y4.1.2.1:Nat):Int)-(1:Int)))),y4.1.2.2),()))<|
 ze prog 17 [(.pointer x0),(.int .u32 u6)] (.many [(.agg [(.int .u8),.slc,.str]),(.one (.int .i64))]) fun(u13:(Int×SLC×ByteArray×Unit)×Int×Unit)=>
 zi (.cells #[(.int .u8 (0:Int)),(.slice none 0 0),(.string ByteArray.empty)] 49) fun(r14:Nat)=>
 zc ((#[(.int .u8 u13.1.1),(.slice u13.1.2.1.1 u13.1.2.1.2.1 u13.1.2.1.2.2),(.string u13.1.2.2.1)]:Array Value).size=3)<|
 zr (aD r14) [(.int .u8 u13.1.1),(.slice u13.1.2.1.1 u13.1.2.1.2.1 u13.1.2.1.2.2),(.string u13.1.2.2.1)]<|
 za (u13.2.1 !=(0:Int)) (K (.int .i64 u13.2.1))<|
 zk x0 fun(p15:Addr)=>
 ldW .ptr (p15.add 8) fun(u16:Option Addr)=>
 ze prog 41 [(.pointer u16),(.int .u32 u6)] (.many [(.one (.int .i64)),(.one (.int .i64))]) fun(u17:Int×Int×Unit)=>
 za (u17.2.1 !=(0:Int)) (K (.int .i64 u17.2.1))<|
 ldW .slc ((aD r14).add 1) fun(u18:SLC)=>
 ze prog 42 [(.slice u18.1 u18.2.1 u18.2.2)] .none fun(u19:Unit)=>
 ldW .slc ((aD r14).add 1) fun(u20:SLC)=>
 zv prog (Builtin.append_ #[47,47] 47 #[(.slice (zh y4.1.1 0 y4.1.2.2 1) (Int.toNat (wrap .i64 (((y4.1.2.1:Nat):Int)-(1:Int)))) y4.1.2.2),(.slice u20.1 u20.2.1 u20.2.2)]) .slc fun(u21:SLC)=>I3 ((u21.1,u21.2.1,u21.2.2),()))<|K (.int .i64 (0:Int))
theorem znP (x0:Option Addr) (x1:Int) {K:Value->WP} {w:World} (h:S14 x0 x1 K w):Calls prog 14 #[(.pointer x0),(.int .u32 x1)] w (Ret K):=cF an14 false Tryz.func14 h
def an15:Ann:=(AN (AR (AN (AQ AO AP)) (AN (AR (AN (AQ AO AP)) (AN (AR (AN (AQ AO AP)) AO))))))
def S15 (x0:Option Addr) (Ar:Option Addr) (As Au:Nat) (Am:Option Addr) (An Ao:Nat) (x2:ByteArray) (K:Value->WP):WP:=
 zi (.cells #[(.slice Ar As Au),(.slice Am An Ao)] 30) fun(r1:Nat)=>
 za (x2.toList==(ByteArray.mk #[]).toList) (zl [.slc,.slc] (aD r1) fun(u2:(SLC×SLC×Unit))=>
 ze prog 37 [(.agg #[(.slice u2.1.1 u2.1.2.1 u2.1.2.2),(.slice u2.2.1.1 u2.2.1.2.1 u2.2.1.2.2)])] (.one (.agg [.slc,.slc])) fun(u3:(SLC×SLC×Unit))=>K (.tuple #[(.slice u3.1.1 u3.1.2.1 u3.1.2.2),(.int .i64 (0:Int))]))<|
 zl [.slc,.slc] (aD r1) fun(u4:(SLC×SLC×Unit))=>
 ze prog 23 [(.agg #[(.slice u4.1.1 u4.1.2.1 u4.1.2.2),(.slice u4.2.1.1 u4.2.1.2.1 u4.2.1.2.2)]),(.string x2)] (.many [(.one (.int .i64)),(.one (.int .i64))]) fun(u5:Int×Int×Unit)=>
 za (u5.2.1 !=(0:Int)) (K (.tuple #[(.slice none 0 0),(.int .i64 u5.2.1)]))<|
 ldW .slc ((aD r1).add 1) fun(u6:SLC)=>
 zc (0<=u5.1/\u5.1<((u6.2.1:Nat):Int))<|
 zk u6.1 fun(p7:Addr)=>
 ldW (.int .u32) ((p7.add (Int.toNat u5.1*2)).add 1) fun(u8:Int)=>
 ze prog 43 [(.pointer x0),(.int .u32 u8)] (.many [(.agg [.slc,.slc]),(.one (.int .i64))]) fun(u9:(SLC×SLC×Unit)×Int×Unit)=>
 zi (.cells #[(.slice none 0 0),(.slice none 0 0)] 30) fun(r10:Nat)=>
 zc ((#[(.slice u9.1.1.1 u9.1.1.2.1 u9.1.1.2.2),(.slice u9.1.2.1.1 u9.1.2.1.2.1 u9.1.2.1.2.2)]:Array Value).size=2)<|
 zr (aD r10) [(.slice u9.1.1.1 u9.1.1.2.1 u9.1.1.2.2),(.slice u9.1.2.1.1 u9.1.2.1.2.1 u9.1.2.1.2.2)]<|
 za (u9.2.1 !=(0:Int)) (K (.tuple #[(.slice none 0 0),(.int .i64 u9.2.1)]))<|
 ldW .slc (aD r10) fun(u11:SLC)=>K (.tuple #[(.slice u11.1 u11.2.1 u11.2.2),(.int .i64 (0:Int))])
theorem ziF (x0:Option Addr) (Ar:Option Addr) (As Au:Nat) (Am:Option Addr) (An Ao:Nat) (x2:ByteArray) {K:Value->WP} {w:World} (h:S15 x0 Ar As Au Am An Ao x2 K w):Calls prog 15 #[(.pointer x0),(.agg #[(.slice Ar As Au),(.slice Am An Ao)]),(.string x2)] w (Ret K):=cF an15 false Tryz.func15 h
def an17:Ann:=(AN (AR (.block (AN (AQ AO (AN (AQ AO (AN (AQ AO AP))))))) (AN (AR (AN (AQ AO AP)) AO))))
def S17 (x0:Option Addr) (x1:Int) (K:Value->WP):WP:=
 zi (.cells #[(.int .u8 (0:Int)),(.slice none 0 0),(.string ByteArray.empty)] 49) fun(r1:Nat)=>
 za (Option.isNone x0) (zc ((#[(.int .u8 (0:Int)),(.slice none 0 0),(.string ByteArray.empty)]:Array Value).size=3)<|
 zr (aD r1) [(.int .u8 (0:Int)),(.slice none 0 0),(.string ByteArray.empty)]<|
 zl [(.int .u8),.slc,.str] (aD r1) fun(u2:(Int×SLC×ByteArray×Unit))=>K (.tuple #[(.agg #[(.int .u8 u2.1),(.slice u2.2.1.1 u2.2.1.2.1 u2.2.1.2.2),(.string u2.2.2.1)]),(.int .i64 (1:Int))]))<|
 ze prog 39 [(.pointer x0),(.int .u32 x1)] (.one (.one .bool)) fun(u3:Bool)=>
 za (!u3) (zc ((#[(.int .u8 (0:Int)),(.slice none 0 0),(.string ByteArray.empty)]:Array Value).size=3)<|
 zr (aD r1) [(.int .u8 (0:Int)),(.slice none 0 0),(.string ByteArray.empty)]<|
 zl [(.int .u8),.slc,.str] (aD r1) fun(u4:(Int×SLC×ByteArray×Unit))=>K (.tuple #[(.agg #[(.int .u8 u4.1),(.slice u4.2.1.1 u4.2.1.2.1 u4.2.1.2.2),(.string u4.2.2.1)]),(.int .i64 (2:Int))]))<|
 zk x0 fun(p5:Addr)=>
 ldW .ptr (p5.add 8) fun(u6:Option Addr)=>
 ze prog 40 [(.pointer u6),(.int .u32 x1)] (.one (.one (.int .i64))) fun(u7:Int)=>
 za (u7==(0:Int)) (zc ((#[(.int .u8 (0:Int)),(.slice none 0 0),(.string ByteArray.empty)]:Array Value).size=3)<|
 zr (aD r1) [(.int .u8 (0:Int)),(.slice none 0 0),(.string ByteArray.empty)]<|
 zl [(.int .u8),.slc,.str] (aD r1) fun(u8:(Int×SLC×ByteArray×Unit))=>K (.tuple #[(.agg #[(.int .u8 u8.1),(.slice u8.2.1.1 u8.2.1.2.1 u8.2.1.2.2),(.string u8.2.2.1)]),(.int .i64 (8:Int))]))<|
 zk x0 fun(p9:Addr)=>
 ldW .ptr p9 fun(u10:Option Addr)=>
 ze prog 44 [(.pointer u10),(.int .i64 (wrap .i64 x1))] (.many [(.one .str),(.one (.int .i64))]) fun(u11:ByteArray×Int×Unit)=>
 za (u11.2.1 !=(0:Int)) (zc ((#[(.int .u8 (0:Int)),(.slice none 0 0),(.string ByteArray.empty)]:Array Value).size=3)<|
 zr (aD r1) [(.int .u8 (0:Int)),(.slice none 0 0),(.string ByteArray.empty)]<|
 zl [(.int .u8),.slc,.str] (aD r1) fun(u12:(Int×SLC×ByteArray×Unit))=>K (.tuple #[(.agg #[(.int .u8 u12.1),(.slice u12.2.1.1 u12.2.1.2.1 u12.2.1.2.2),(.string u12.2.2.1)]),(.int .i64 u11.2.1)]))<|
 ze prog 45 [(.pointer x0),(.string u11.1)] (.many [(.agg [(.int .u8),.slc,.str]),(.one (.int .i64))]) fun(u13:(Int×SLC×ByteArray×Unit)×Int×Unit)=>
 zc ((#[(.int .u8 u13.1.1),(.slice u13.1.2.1.1 u13.1.2.1.2.1 u13.1.2.1.2.2),(.string u13.1.2.2.1)]:Array Value).size=3)<|
 zr (aD r1) [(.int .u8 u13.1.1),(.slice u13.1.2.1.1 u13.1.2.1.2.1 u13.1.2.1.2.2),(.string u13.1.2.2.1)]<|
 zl [(.int .u8),.slc,.str] (aD r1) fun(u14:(Int×SLC×ByteArray×Unit))=>K (.tuple #[(.agg #[(.int .u8 u14.1),(.slice u14.2.1.1 u14.2.1.2.1 u14.2.1.2.2),(.string u14.2.2.1)]),(.int .i64 u13.2.1)])
theorem znQ (x0:Option Addr) (x1:Int) {K:Value->WP} {w:World} (h:S17 x0 x1 K w):Calls prog 17 #[(.pointer x0),(.int .u32 x1)] w (Ret K):=cF an17 false Tryz.func17 h
def an18:Ann:=(AN (AR (AN (AQ AO AP)) AO))
def S18 (x0:Option Addr) (x1:Int) (K:Value->WP):WP:=
 za (Option.isNone x0) (K (.int .i64 (0:Int)))<|
 zk x0 fun(p1:Addr)=>
 ldW .ptr (p1.add 8) fun(u2:Option Addr)=>
 ze prog 40 [(.pointer u2),(.int .u32 x1)] (.one (.one (.int .i64))) fun(u3:Int)=>K (.int .i64 u3)
theorem znR (x0:Option Addr) (x1:Int) {K:Value->WP} {w:World} (h:S18 x0 x1 K w):Calls prog 18 #[(.pointer x0),(.int .u32 x1)] w (Ret K):=cF an18 false Tryz.func18 h
def an19:Ann:=(AN (AN (AR (AN (AQ AO AP)) (.join [] [4,6,8,1000000] (AN (AN (AQ (AN (AN (AQ AO AP))) AP))) (AN (AN AO))))))
def S19 (x0:Option Addr) (Ar:Option Addr) (As Au:Nat) (Am:Option Addr) (An Ao:Nat) (x2:ByteArray) (K:Value->WP):WP:=
 zi (.cells #[(.slice Ar As Au),(.slice Am An Ao)] 30) fun(r1:Nat)=>
 zi (.cells #[(.slice none 0 0),(.slice none 0 0)] 30) fun(r2:Nat)=>
 zl [.slc,.slc] (aD r1) fun(u3:(SLC×SLC×Unit))=>
 ze prog 23 [(.agg #[(.slice u3.1.1 u3.1.2.1 u3.1.2.2),(.slice u3.2.1.1 u3.2.1.2.1 u3.2.1.2.2)]),(.string x2)] (.many [(.one (.int .i64)),(.one (.int .i64))]) fun(u4:Int×Int×Unit)=>
 za (u4.2.1 !=(0:Int)) (zc ((#[(.slice none 0 0),(.slice none 0 0)]:Array Value).size=2)<|
 zr (aD r2) [(.slice none 0 0),(.slice none 0 0)]<|
 zl [.slc,.slc] (aD r2) fun(u5:(SLC×SLC×Unit))=>K (.tuple #[(.agg #[(.slice u5.1.1 u5.1.2.1 u5.1.2.2),(.slice u5.2.1.1 u5.2.1.2.1 u5.2.1.2.2)]),(.int .i64 u4.2.1)]))<|
 yF (Unit) (fun(J6:(Unit)->WP)=>
 ldW .slc ((aD r1).add 1) fun(u8:SLC)=>
 zc (0<=u4.1/\u4.1<((u8.2.1:Nat):Int))<|
 zk u8.1 fun(p9:Addr)=>
 ldW (.int .u32) ((p9.add (Int.toNat u4.1*2)).add 1) fun(u10:Int)=>
 za (u10 !=(0:Int)) (ze prog 14 [(.pointer x0),(.int .u32 u10)] (.one (.one (.int .i64))) fun(u11:Int)=>
 za (u11 !=(0:Int)) (zc ((#[(.slice none 0 0),(.slice none 0 0)]:Array Value).size=2)<|
 zr (aD r2) [(.slice none 0 0),(.slice none 0 0)]<|
 zl [.slc,.slc] (aD r2) fun(u12:(SLC×SLC×Unit))=>K (.tuple #[(.agg #[(.slice u12.1.1 u12.1.2.1 u12.1.2.2),(.slice u12.2.1.1 u12.2.1.2.1 u12.2.1.2.2)]),(.int .i64 u11)]))<|J6 ())<|J6 ()) fun(y7:Unit)=>
 zl [.slc,.slc] (aD r1) fun(u13:(SLC×SLC×Unit))=>
 ze prog 37 [(.agg #[(.slice u13.1.1 u13.1.2.1 u13.1.2.2),(.slice u13.2.1.1 u13.2.1.2.1 u13.2.1.2.2)])] (.one (.agg [.slc,.slc])) fun(u14:(SLC×SLC×Unit))=>
 zi (.cells #[(.slice none 0 0),(.slice none 0 0)] 30) fun(r15:Nat)=>
 zc ((#[(.slice u14.1.1 u14.1.2.1 u14.1.2.2),(.slice u14.2.1.1 u14.2.1.2.1 u14.2.1.2.2)]:Array Value).size=2)<|
 zr (aD r15) [(.slice u14.1.1 u14.1.2.1 u14.1.2.2),(.slice u14.2.1.1 u14.2.1.2.1 u14.2.1.2.2)]<|
 ldW .slc ((aD r15).add 1) fun(u16:SLC)=>
 ze prog 46 [(.slice u16.1 u16.2.1 u16.2.2),(.int .i64 u4.1),(.int .i64 (wrap .i64 (u4.1+(1:Int))))] (.one (.one .slc)) fun(u17:SLC)=>
 stW ((aD r15).add 1) (.slice u17.1 u17.2.1 u17.2.2)<|
 zl [.slc,.slc] (aD r15) fun(u18:(SLC×SLC×Unit))=>
 zc ((#[(.slice u18.1.1 u18.1.2.1 u18.1.2.2),(.slice u18.2.1.1 u18.2.1.2.1 u18.2.1.2.2)]:Array Value).size=2)<|
 zr (aD r2) [(.slice u18.1.1 u18.1.2.1 u18.1.2.2),(.slice u18.2.1.1 u18.2.1.2.1 u18.2.1.2.2)]<|
 zl [.slc,.slc] (aD r2) fun(u19:(SLC×SLC×Unit))=>K (.tuple #[(.agg #[(.slice u19.1.1 u19.1.2.1 u19.1.2.2),(.slice u19.2.1.1 u19.2.1.2.1 u19.2.1.2.2)]),(.int .i64 (0:Int))])
theorem znS (x0:Option Addr) (Ar:Option Addr) (As Au:Nat) (Am:Option Addr) (An Ao:Nat) (x2:ByteArray) {K:Value->WP} {w:World} (h:S19 x0 Ar As Au Am An Ao x2 K w):Calls prog 19 #[(.pointer x0),(.agg #[(.slice Ar As Au),(.slice Am An Ao)]),(.string x2)] w (Ret K):=cF an19 false Tryz.func19 h
def an21:Ann:=(AN (AR (AN (AQ AO AP)) (AR (AN (.block (.loop [(5,.sh (.one (.int .i64)))] [0,1,1000000] (AR (AN (AQ AP AP)) (AR (.block (AN (AQ AO AP))) AP))))) AO)))
def S21 (a0:Option Addr) (n0 c0:Nat) (a1:Option Addr) (n1 c1:Nat) (K:Value->WP):WP:=
 za (((n0:Nat):Int) !=((n1:Nat):Int)) (K (.bool false))<|
 zL (Int×Unit) ((0:Int),()) fun(y2:Int×Unit) (I1:(Int×Unit)->WP)=>
 za (decide (y2.1<((n0:Nat):Int))) (zF<|
 zc (0<=y2.1/\y2.1<((n0:Nat):Int))<|
 zk a0 fun(p3:Addr)=>
 ldW .str (p3.add (Int.toNat y2.1*1)) fun(u4:ByteArray)=>
 zc (0<=y2.1/\y2.1<((n1:Nat):Int))<|
 zk a1 fun(p5:Addr)=>
 ldW .str (p5.add (Int.toNat y2.1*1)) fun(u6:ByteArray)=>
 za (!(u4.toList==u6.toList)) (K (.bool false))<|I1 ((wrap .i64 (y2.1+(1:Int))),()))<|K (.bool true)
theorem znT (a0:Option Addr) (n0 c0:Nat) (a1:Option Addr) (n1 c1:Nat) {K:Value->WP} {w:World} (h:S21 a0 n0 c0 a1 n1 c1 K w):Calls prog 21 #[(.slice a0 n0 c0),(.slice a1 n1 c1)] w (Ret K):=cF an21 false Tryz.func21 h
def an22:Ann:=(AN AO)
def S22 (Av:Option Addr) (Aw Ax:Nat) (Ab:Option Addr) (Ac Ae:Nat) (K:Value->WP):WP:=
 zi (.cells #[(.slice Av Aw Ax),(.slice Ab Ac Ae)] 30) fun(r1:Nat)=>
 ldW .slc ((aD r1).add 1) fun(u2:SLC)=>
 ze prog 50 [(.slice u2.1 u2.2.1 u2.2.2),(.func (.func 51) #[] #[])] (.one (.one .slc)) fun(u3:SLC)=>K (.slice u3.1 u3.2.1 u3.2.2)
theorem znU (Av:Option Addr) (Aw Ax:Nat) (Ab:Option Addr) (Ac Ae:Nat) {K:Value->WP} {w:World} (h:S22 Av Aw Ax Ab Ac Ae K w):Calls prog 22 #[(.agg #[(.slice Av Aw Ax),(.slice Ab Ac Ae)])] w (Ret K):=cF an22 false Tryz.func22 h
def an23:Ann:=(AN (AN (AR (AN (AQ AO AP)) AO)))
def S23 (Av:Option Addr) (Aw Ax:Nat) (Ab:Option Addr) (Ac Ae:Nat) (x1:ByteArray) (K:Value->WP):WP:=
 zi (.cells #[(.slice Av Aw Ax),(.slice Ab Ac Ae)] 30) fun(r1:Nat)=>
 zi (.cells #[(.string x1)] 9) fun(r2:Nat)=>
 ldW .slc ((aD r1).add 1) fun(u3:SLC)=>
 ze prog 33 [(.slice u3.1 u3.2.1 u3.2.2),(.func (.func 52) #[] #[(.pointer (some (aD r2)))])] (.one (.one (.int .i64))) fun(u4:Int)=>
 za (decide (u4<(0:Int))) (K (.tuple #[(.int .i64 (0:Int)),(.int .i64 (211:Int))]))<|K (.tuple #[(.int .i64 u4),(.int .i64 (0:Int))])
theorem znV (Av:Option Addr) (Aw Ax:Nat) (Ab:Option Addr) (Ac Ae:Nat) (x1:ByteArray) {K:Value->WP} {w:World} (h:S23 Av Aw Ax Ab Ac Ae x1 K w):Calls prog 23 #[(.agg #[(.slice Av Aw Ax),(.slice Ab Ac Ae)]),(.string x1)] w (Ret K):=cF an23 false Tryz.func23 h
def an24:Ann:=(AN (AN AO))
def S24 (x0:Option Addr) (K:Value->WP):WP:=
 zi (.cells #[(.slice none 0 0),(.slice none 0 0)] 30) fun(r1:Nat)=>
 ze prog 30 [(.pointer x0),(.agg #[(.int .u8 (7:Int)),(.slice none 0 0),(.string (ByteArray.mk #[116]))])] (.many [(.one (.int .u32)),(.one (.int .i64))]) fun(u2:Int×Int×Unit)=>
 ze prog 29 [] (.one (.one .slc)) fun(u3:SLC)=>
 zi (.cells #[(.string (ByteArray.mk #[116])),(.slice u3.1 u3.2.1 u3.2.2),(.int .u32 u2.1),(.int .u64 (1:Int)),(.int .i64 (1:Int))] 42) fun(r4:Nat)=>
 zc ((#[(.slice (some (aD r4)) 1 1),(.slice none 0 0)]:Array Value).size=2)<|
 zr (aD r1) [(.slice (some (aD r4)) 1 1),(.slice none 0 0)]<|
 zl [.slc,.slc] (aD r1) fun(u5:(SLC×SLC×Unit))=>K (.agg #[(.slice u5.1.1 u5.1.2.1 u5.1.2.2),(.slice u5.2.1.1 u5.2.1.2.1 u5.2.1.2.2)])
theorem znW (x0:Option Addr) {K:Value->WP} {w:World} (h:S24 x0 K w):Calls prog 24 #[(.pointer x0)] w (Ret K):=cF an24 false Tryz.func24 h
def an25:Ann:=(AN (AN (AR (.block (.loop [(0,.sh (.one .str)),(1,.sh (.one (.int .i64))),(5,.sh (.one .str))] [1000000] (AR (AN (AQ AP AP)) (AR (.block (AR (AN (AQ AP AP)) AP)) AP)))) AO)))
def S25 (x0:ByteArray) (x1:Int) (K:Value->WP):WP:=
 zL (ByteArray×Int×ByteArray×Unit) (x0,x1,(ByteArray.mk #[]),()) fun(y2:ByteArray×Int×ByteArray×Unit) (I1:(ByteArray×Int×ByteArray×Unit)->WP)=>
 za (decide (y2.2.1>(0:Int))) (za ((Int.tmod y2.2.1 (2:Int))==(1:Int)) (zc (((y2.2.2.1.size+y2.1.size:Nat):Int)<=IntKind.i64.max)<|
 zc (((y2.1.size+y2.1.size:Nat):Int)<=IntKind.i64.max)<|I1 ((y2.1++y2.1),(wrap .i64 (Int.tdiv y2.2.1 (2:Int))),(y2.2.2.1++y2.1),()))<|
 zc (((y2.1.size+y2.1.size:Nat):Int)<=IntKind.i64.max)<|I1 ((y2.1++y2.1),(wrap .i64 (Int.tdiv y2.2.1 (2:Int))),y2.2.2.1,()))<|K (.string y2.2.2.1)
theorem znX (x0:ByteArray) (x1:Int) {K:Value->WP} {w:World} (h:S25 x0 x1 K w):Calls prog 25 #[(.string x0),(.int .i64 x1)] w (Ret K):=cF an25 false Tryz.func25 h
def an26:Ann:=(AN (AR (AN (AN (AQ AO AP))) AO))
def S26 (Aa:Int) (Af:Int) (K:Value->WP):WP:=
 zi (.cells #[(.int .i64 Aa),(.int .i64 Af)] 69) fun(r1:Nat)=>
 zl [(.int .i64),(.int .i64)] (aD r1) fun(u2:(Int×Int×Unit))=>
 ze prog 53 [(.agg #[(.int .i64 u2.1),(.int .i64 u2.2.1)])] (.one (.one (.int .i64))) fun(u3:Int)=>
 za (u3 !=(0:Int)) (K (.tuple #[(.pointer none),(.int .i64 u3)]))<|
 zF<|
 zl [(.int .i64),(.int .i64)] (aD r1) fun(u4:(Int×Int×Unit))=>
 ldW (.int .i64) (aD r1) fun(u5:Int)=>
 ldW (.int .i64) ((aD r1).add 1) fun(u6:Int)=>
 ze prog 55 [(.string (ByteArray.mk #[0])),(.int .i64 u5)] (.one (.one .str)) fun(u7:ByteArray)=>
 zu [[(((aD r1).add 1),(.int .i64 u6))],[((aD r1).add 0,(.int .i64 u4.1)),((aD r1).add 1,(.int .i64 u4.2.1))]]<|
 zi (.cells #[(.string u7)] 9) fun(r8:Nat)=>
 zu [[(((aD r1).add 1),(.int .i64 u6))],[((aD r1).add 0,(.int .i64 u4.1)),((aD r1).add 1,(.int .i64 u4.2.1))]]<|
 ze prog 54 [(.slice (some (aD r8)) 1 1),(.int .i64 u6)] (.one (.one .slc)) fun(u9:SLC)=>
 zu [[((aD r1).add 0,(.int .i64 u4.1)),((aD r1).add 1,(.int .i64 u4.2.1))]]<|
 zi (.cells #[(.int .i64 u4.1),(.int .i64 u4.2.1),(.slice u9.1 u9.2.1 u9.2.2),(.slice none 0 0),(.int .i64 (0:Int)),(.int .i64 (-1:Int))] 111) fun(r10:Nat)=>K (.tuple #[(.pointer (some (aD r10))),(.int .i64 (0:Int))])
theorem znY (Aa:Int) (Af:Int) {K:Value->WP} {w:World} (h:S26 Aa Af K w):Calls prog 26 #[(.agg #[(.int .i64 Aa),(.int .i64 Af)])] w (Ret K):=cF an26 false Tryz.func26 h
def an27:Ann:=(AN (AR (AN (AQ AO AP)) (AN (AR (AN (AQ AO AP)) (AN (AR (AN (.block (.loop [(29,.sh (.one (.int .i64)))] [0,4,6,28,1000000] (AN (AR (AQ AP AP) (AR (.block (AN (AR (AN (AQ AO AP)) AP))) AP)))))) (AR (AN (AN (AQ AO AP))) (AR (AN (AN (AQ AO AP))) (AR (AN (AN (AQ AO AP))) AO)))))))))
def S27 (x0:Option Addr) (K:Value->WP):WP:=
 za (Option.isNone x0) (K (.tuple #[(.pointer none),(.int .i64 (1:Int))]))<|
 ze prog 57 [(.pointer x0)] (.one (.agg [(.int .i64),(.int .i64)])) fun(u1:(Int×Int×Unit))=>
 ze prog 56 [(.agg #[(.int .i64 u1.1),(.int .i64 u1.2.1)])] (.many [(.one .ptr),(.one (.int .i64))]) fun(u2:Option Addr×Int×Unit)=>
 za (u2.2.1 !=(0:Int)) (K (.tuple #[(.pointer none),(.int .i64 u2.2.1)]))<|
 ze prog 57 [(.pointer x0)] (.one (.agg [(.int .i64),(.int .i64)])) fun(u3:(Int×Int×Unit))=>
 zi (.cells #[(.int .u64 (0:Int)),(.int .i64 (0:Int)),(.int .i64 (0:Int)),(.int .u32 (0:Int)),(.slice none 0 0)] 87) fun(r4:Nat)=>
 zc ((#[(.int .u64 (1:Int)),(.int .i64 u3.1),(.int .i64 u3.2.1),(.int .u32 (0:Int)),(.slice none 0 0)]:Array Value).size=5)<|
 zr (aD r4) [(.int .u64 (1:Int)),(.int .i64 u3.1),(.int .i64 u3.2.1),(.int .u32 (0:Int)),(.slice none 0 0)]<|
 ze prog 57 [(.pointer x0)] (.one (.agg [(.int .i64),(.int .i64)])) fun(u5:(Int×Int×Unit))=>
 ze prog 58 [(.agg #[(.int .i64 u5.1),(.int .i64 u5.2.1)])] (.one (.one (.int .i64))) fun(u6:Int)=>
 zL (Int×Unit) ((0:Int),()) fun(y8:Int×Unit) (I7:(Int×Unit)->WP)=>
 za (decide (y8.1<u6)) (ze prog 59 [(.pointer u2.1),(.pointer none)] (.many [(.one (.int .u32)),(.one (.int .i64))]) fun(u9:Int×Int×Unit)=>
 za (u9.2.1 !=(0:Int)) (K (.tuple #[(.pointer none),(.int .i64 (2:Int))]))<|
 ldW .slc ((aD r4).add 4) fun(u10:SLC)=>
 zi (.cells #[(.int .u32 u9.1)] 39) fun(r11:Nat)=>
 zv prog (Builtin.append_ #[47,47] 47 #[(.slice u10.1 u10.2.1 u10.2.2),(.slice (some (aD r11)) 1 1)]) .slc fun(u12:SLC)=>
 stW ((aD r4).add 4) (.slice u12.1 u12.2.1 u12.2.2)<|I7 ((wrap .i64 (y8.1+(1:Int))),()))<|
 zl [(.int .u64),(.int .i64),(.int .i64),(.int .u32),.slc] (aD r4) fun(u13:(Int×Int×Int×Int×SLC×Unit))=>
 ze prog 60 [(.agg #[(.int .u64 u13.1),(.int .i64 u13.2.1),(.int .i64 u13.2.2.1),(.int .u32 u13.2.2.2.1),(.slice u13.2.2.2.2.1.1 u13.2.2.2.2.1.2.1 u13.2.2.2.2.1.2.2)])] (.one (.one (.int .i64))) fun(u14:Int)=>
 za (u14 !=(0:Int)) (K (.tuple #[(.pointer none),(.int .i64 u14)]))<|
 ze prog 57 [(.pointer x0)] (.one (.agg [(.int .i64),(.int .i64)])) fun(u15:(Int×Int×Unit))=>
 zv prog (Instr.makeSlice 119 (.int .i64 u15.1) (.int .i64 u15.1)) .slc fun(u16:SLC)=>
 zv prog (Go.convert 119 9 (.slice u16.1 u16.2.1 u16.2.2)) .str fun(u17:ByteArray)=>
 ze prog 61 [(.pointer x0),(.int .i64 (1:Int)),(.string u17)] (.one (.one (.int .i64))) fun(u18:Int)=>
 za (u18 !=(0:Int)) (K (.tuple #[(.pointer none),(.int .i64 u18)]))<|
 zl [(.int .u64),(.int .i64),(.int .i64),(.int .u32),.slc] (aD r4) fun(u19:(Int×Int×Int×Int×SLC×Unit))=>
 ze prog 62 [(.pointer x0),(.pointer u2.1),(.agg #[(.int .u64 u19.1),(.int .i64 u19.2.1),(.int .i64 u19.2.2.1),(.int .u32 u19.2.2.2.1),(.slice u19.2.2.2.2.1.1 u19.2.2.2.2.1.2.1 u19.2.2.2.2.1.2.2)]),(.int .i64 (0:Int))] (.one (.one (.int .i64))) fun(u20:Int)=>
 za (u20 !=(0:Int)) (K (.tuple #[(.pointer none),(.int .i64 u20)]))<|
 zF<|
 zl [(.int .u64),(.int .i64),(.int .i64),(.int .u32),.slc] (aD r4) fun(u21:(Int×Int×Int×Int×SLC×Unit))=>
 ze prog 63 [(.pointer u2.1)] (.one (.one .ptr)) fun(u22:Option Addr)=>
 zu [[((aD r4).add 0,(.int .u64 u21.1)),((aD r4).add 1,(.int .i64 u21.2.1)),((aD r4).add 2,(.int .i64 u21.2.2.1)),((aD r4).add 3,(.int .u32 u21.2.2.2.1)),((aD r4).add 4,(.slice u21.2.2.2.2.1.1 u21.2.2.2.2.1.2.1 u21.2.2.2.2.1.2.2))]]<|
 zi (.cells #[(.pointer x0),(.int .u64 u21.1),(.int .i64 u21.2.1),(.int .i64 u21.2.2.1),(.int .u32 u21.2.2.2.1),(.slice u21.2.2.2.2.1.1 u21.2.2.2.2.1.2.1 u21.2.2.2.2.1.2.2),(.int .i64 (0:Int)),(.pointer u2.1),(.pointer u22),(.pointer none)] 90) fun(r23:Nat)=>K (.tuple #[(.pointer (some (aD r23))),(.int .i64 (0:Int))])
theorem znZ (x0:Option Addr) {K:Value->WP} {w:World} (h:S27 x0 K w):Calls prog 27 #[(.pointer x0)] w (Ret K):=cF an27 false Tryz.func27 h
def an28:Ann:=(AN AO)
def S28 (x0:Option Addr) (K:Value->WP):WP:=
 zi (.cells #[(.pointer x0)] 24) fun(r1:Nat)=>K (.func (.func 64) #[] #[(.pointer (some (aD r1)))])
theorem zn0 (x0:Option Addr) {K:Value->WP} {w:World} (h:S28 x0 K w):Calls prog 28 #[(.pointer x0)] w (Ret K):=cF an28 false Tryz.func28 h
def an29:Ann:=(AN AO)
def S29  (K:Value->WP):WP:=
 zi (.cells #[(.string (ByteArray.mk #[107])),(.int .i64 (3:Int)),(.bool false),(.string (ByteArray.mk #[118])),(.int .i64 (1:Int)),(.bool true)] 95) fun(r1:Nat)=>K (.slice (some (aD r1)) 2 2)
theorem zn1  {K:Value->WP} {w:World} (h:S29  K w):Calls prog 29 #[] w (Ret K):=cF an29 false Tryz.func29 h
def an30:Ann:=(AN (AR (.block (AN (AQ AO (.join [(15,.sh (.one .bool))] [2,3,1000000] AP (AQ AO (AN (AQ AO (.join [(36,.sh (.one .bool))] [2,3,1000000] AP (AQ AO (AN (AQ AO AP))))))))))) (AN (AR (AN (AQ AO AP)) (AN (AR (AN (.block (.loop [(8,.sh (.one .slc)),(81,.sh (.one (.int .i64)))] [2,3,6,79,80,1000000] (AN (AR (AQ AP AP) (AR (.block AO) AP)))))) (AR (AN (AN (AQ AO AP))) AO)))))))
def S30 (x0:Option Addr) (Az:Int) (Am:Option Addr) (An Ao:Nat) (AA:ByteArray) (K:Value->WP):WP:=
 zi (.cells #[(.pointer x0)] 24) fun(r1:Nat)=>
 zi (.cells #[(.int .u8 Az),(.slice Am An Ao),(.string AA)] 49) fun(r2:Nat)=>
 ldW .ptr (aD r1) fun(u3:Option Addr)=>
 za (Option.isNone u3) (K (.tuple #[(.int .u32 (0:Int)),(.int .i64 (1:Int))]))<|
 yF (Bool×Unit) (fun(J4:(Bool×Unit)->WP)=>
 ldW (.int .u8) (aD r2) fun(u6:Int)=>
 za (decide (u6<(3:Int))) (J4 (true,()))<|
 ldW .slc ((aD r2).add 1) fun(u7:SLC)=>
 za (decide (((u7.2.1:Nat):Int)>(65535:Int))) (J4 (true,()))<|
 ldW .slc ((aD r2).add 1) fun(u8:SLC)=>
 ze prog 65 [(.slice u8.1 u8.2.1 u8.2.2),(.func (.func 66) #[] #[(.pointer (some (aD r1)))])] (.one (.one .bool)) fun(u9:Bool)=>J4 (u9,())) fun(y5:Bool×Unit)=>
 za y5.1 (K (.tuple #[(.int .u32 (0:Int)),(.int .i64 (2:Int))]))<|
 ldW .slc ((aD r2).add 1) fun(u10:SLC)=>
 ze prog 65 [(.slice u10.1 u10.2.1 u10.2.2),(.func (.func 67) #[] #[(.pointer (some (aD r1)))])] (.one (.one .bool)) fun(u11:Bool)=>
 za u11 (K (.tuple #[(.int .u32 (0:Int)),(.int .i64 (8:Int))]))<|
 yF (Bool×Unit) (fun(J12:(Bool×Unit)->WP)=>
 zF<|
 ldW .slc ((aD r2).add 1) fun(u14:SLC)=>
 ldW .ptr (aD r1) fun(u15:Option Addr)=>
 ze prog 68 [(.pointer u15),(.int .i64 (0:Int))] (.one (.one (.int .i64))) fun(u16:Int)=>
 zu [[(((aD r2).add 1),(.slice u14.1 u14.2.1 u14.2.2))]]<|
 za (decide (((u14.2.1:Nat):Int)>(wrap .i64 (Int.tdiv u16 (4:Int))))) (J12 (true,()))<|
 ldW .str ((aD r2).add 2) fun(u17:ByteArray)=>
 ldW .ptr (aD r1) fun(u18:Option Addr)=>
 ldW .slc ((aD r2).add 1) fun(u19:SLC)=>
 ze prog 68 [(.pointer u18),(.int .i64 ((u19.2.1:Nat):Int))] (.one (.one (.int .i64))) fun(u20:Int)=>
 zu [[(((aD r2).add 2),(.string u17))]]<|J12 ((decide (((u17.size:Nat):Int)>u20)),())) fun(y13:Bool×Unit)=>
 za y13.1 (K (.tuple #[(.int .u32 (0:Int)),(.int .i64 (3:Int))]))<|
 zF<|
 ldW .ptr (aD r1) fun(u21:Option Addr)=>
 ldW .ptr (aD r1) fun(u22:Option Addr)=>
 zk u22 fun(p23:Addr)=>
 ldW .slc ((p23.add 1).add 4) fun(u24:SLC)=>
 ze prog 9 [(.pointer u21)] (.one (.one (.int .i64))) fun(u25:Int)=>
 zu [[(((p23.add 1).add 4),(.slice u24.1 u24.2.1 u24.2.2))],[((aD r1),(.pointer u22))]]<|
 za (decide (u25<=((u24.2.1:Nat):Int))) (K (.tuple #[(.int .u32 (0:Int)),(.int .i64 (9:Int))]))<|
 ldW .ptr (aD r1) fun(u26:Option Addr)=>
 ze prog 69 [(.pointer u26)] (.many [(.one (.int .u32)),(.one (.int .i64))]) fun(u27:Int×Int×Unit)=>
 za (u27.2.1 !=(0:Int)) (K (.tuple #[(.int .u32 (0:Int)),(.int .i64 u27.2.1)]))<|
 ldW .slc ((aD r2).add 1) fun(u28:SLC)=>
 ze prog 70 [(.slice none 0 0),(.int .u64 (wrap .u64 ((u28.2.1:Nat):Int))),(.int .i64 (2:Int))] (.one (.one .slc)) fun(u29:SLC)=>
 ldW .slc ((aD r2).add 1) fun(u30:SLC)=>
 zL (SLC×Int×Unit) ((u29.1,u29.2.1,u29.2.2),(0:Int),()) fun(y32:SLC×Int×Unit) (I31:(SLC×Int×Unit)->WP)=>
 za (decide (y32.2.1<((u30.2.1:Nat):Int))) (zc (0<=y32.2.1/\y32.2.1<((u30.2.1:Nat):Int))<|
 zk u30.1 fun(p33:Addr)=>
 ldW (.int .u32) (p33.add (Int.toNat y32.2.1*1)) fun(u34:Int)=>
 ze prog 70 [(.slice y32.1.1 y32.1.2.1 y32.1.2.2),(.int .u64 (wrap .u64 u34)),(.int .i64 (4:Int))] (.one (.one .slc)) fun(u35:SLC)=>I31 ((u35.1,u35.2.1,u35.2.2),(wrap .i64 (y32.2.1+(1:Int))),()))<|
 zF<|
 ldW .ptr (aD r1) fun(u36:Option Addr)=>
 zk u36 fun(p37:Addr)=>
 ldW .ptr p37 fun(u38:Option Addr)=>
 ldW (.int .u8) (aD r2) fun(u39:Int)=>
 ldW .ptr (aD r1) fun(u40:Option Addr)=>
 zk u40 fun(p41:Addr)=>
 ldW (.int .u64) (p41.add 1) fun(u42:Int)=>
 ldW .str ((aD r2).add 2) fun(u43:ByteArray)=>
 zv prog (Go.convert 119 9 (.slice y32.1.1 y32.1.2.1 y32.1.2.2)) .str fun(u44:ByteArray)=>
 zu [[(((aD r2).add 2),(.string u43))],[((p41.add 1),(.int .u64 u42))],[((aD r1),(.pointer u40))],[((aD r2),(.int .u8 u39))],[(p37,(.pointer u38))],[((aD r1),(.pointer u36))]]<|
 zc (((u44.size+u43.size:Nat):Int)<=IntKind.i64.max)<|
 ze prog 71 [(.pointer u38),(.int .u32 u27.1),(.agg #[(.int .u8 u39),(.int .u64 (wrap .u64 (u42+(1:Int)))),(.string (u44++u43))])] (.one (.one (.int .i64))) fun(u45:Int)=>
 za (u45 !=(0:Int)) (K (.tuple #[(.int .u32 (0:Int)),(.int .i64 u45)]))<|K (.tuple #[(.int .u32 u27.1),(.int .i64 (0:Int))])
theorem zn2 (x0:Option Addr) (Az:Int) (Am:Option Addr) (An Ao:Nat) (AA:ByteArray) {K:Value->WP} {w:World} (h:S30 x0 Az Am An Ao AA K w):Calls prog 30 #[(.pointer x0),(.agg #[(.int .u8 Az),(.slice Am An Ao),(.string AA)])] w (Ret K):=cF an30 false Tryz.func30 h
def an32:Ann:=(AN (AR (AN (AQ AO AP)) (AN (AR (AN (.block (.loop [] [14,1000000] (AN (AR (AQ AP AP) (.block (AN (.join [] [1000000] (.block (.join [(19,.sh (.one .bool))] [3,4,14,1000000] (AN (AQ AP (AN (AQ AP AP)))) (AQ AP (AN (AQ AP AP))))) AO)))))))) AO))))
def S32 (x0:ByteArray) (K:Value->WP):WP:=
 za (decide (((x0.size:Nat):Int)<(1:Int))) (K (.int .i64 (170:Int)))<|
 za (decide (((x0.size:Nat):Int)>(32:Int))) (K (.int .i64 (170:Int)))<|
 zi (.stringIter x0 0) fun(r1:Nat)=>
 zL (Unit) () fun(y3:Unit) (I2:(Unit)->WP)=>
 zno r1 (fun(i4 c5:Int)=>
 za true (yF (Unit) (fun(J6:(Unit)->WP)=>
 yF (Bool×Unit) (fun(J8:(Bool×Unit)->WP)=>
 za (decide (c5>=(97:Int))) (za (decide (c5<=(122:Int))) (J8 ((decide (c5<=(122:Int))),()))<|
 za (decide (c5>=(65:Int))) (za (decide (c5<=(90:Int))) (J8 ((decide (c5<=(90:Int))),()))<|J8 ((c5==(95:Int)),()))<|J8 ((c5==(95:Int)),()))<|
 za (decide (c5>=(65:Int))) (za (decide (c5<=(90:Int))) (J8 ((decide (c5<=(90:Int))),()))<|J8 ((c5==(95:Int)),()))<|J8 ((c5==(95:Int)),())) fun(y9:Bool×Unit)=>
 za y9.1 (I2 ())<|
 za (decide (i4>(0:Int))) (za (decide (c5>=(48:Int))) (za (decide (c5<=(57:Int))) (I2 ())<|J6 ())<|J6 ())<|J6 ()) fun(y7:Unit)=>K (.int .i64 (170:Int)))<|K (.int .i64 (0:Int)))<|
 za false (zm)<|K (.int .i64 (0:Int))
theorem zn3 (x0:ByteArray) {K:Value->WP} {w:World} (h:S32 x0 K w):Calls prog 32 #[(.string x0)] w (Ret K):=cF an32 false Tryz.func32 h
def an33:Ann:=(AN (AR (AN (.block (.loop [(8,.sh (.one (.int .i64)))] [0,1,7,1000000] (AN (AR (AQ AP AP) (AR (.block (AN (AN (AQ AO AP)))) AP)))))) AO))
def S33 (a0:Option Addr) (n0 c0:Nat) (x1:Value) (K:Value->WP):WP:=
 zL (Int×Unit) ((0:Int),()) fun(y2:Int×Unit) (I1:(Int×Unit)->WP)=>
 za (decide (y2.1<((n0:Nat):Int))) (zc (0<=y2.1/\y2.1<((n0:Nat):Int))<|
 zk a0 fun(p3:Addr)=>
 zl [.str,(.int .u32)] (p3.add (Int.toNat y2.1*2)) fun(u4:(ByteArray×Int×Unit))=>
 yG prog x1 [(.agg #[(.string u4.1),(.int .u32 u4.2.1)])] (.one (.one .bool)) fun(u5:Bool)=>
 za u5 (K (.int .i64 y2.1))<|I1 ((wrap .i64 (y2.1+(1:Int))),()))<|K (.int .i64 (-1:Int))
theorem zn4 (a0:Option Addr) (n0 c0:Nat) (x1:Value) {K:Value->WP} {w:World} (h:S33 a0 n0 c0 x1 K w):Calls prog 33 #[(.slice a0 n0 c0),x1] w (Ret K):=cF an33 false Tryz.func33 h
def an34:Ann:=(AN AO)
def S34 (Aa:ByteArray) (Af:Int) (a1:Addr) (K:Value->WP):WP:=
 zi (.cells #[(.string Aa),(.int .u32 Af)] 64) fun(r1:Nat)=>
 ldW .str (aD r1) fun(u2:ByteArray)=>
 ldW .str a1 fun(u3:ByteArray)=>K (.bool (!(Op.bytesLess u2.toList u3.toList)))
theorem zn5 (Aa:ByteArray) (Af:Int) (a1:Addr) {K:Value->WP} {w:World} (h:S34 Aa Af a1 K w):Calls prog 34 #[(.agg #[(.string Aa),(.int .u32 Af)]),(.pointer (some a1))] w (Ret K):=cF an34 false Tryz.func34 h
def an35:Ann:=(AN (AR (AN (.block (.loop [(10,.sh (.one (.int .i64)))] [0,8,9,1000000] (AN (AR (AQ AP AP) (AR (.block (AN (AN (AN (AQ AO AP))))) AP)))))) AO))
def S35 (x0:Option Addr) (Ar:Option Addr) (As Au:Nat) (Am:Option Addr) (An Ao:Nat) (K:Value->WP):WP:=
 zi (.cells #[(.slice Ar As Au),(.slice Am An Ao)] 30) fun(r1:Nat)=>
 ze prog 73 [(.pointer (some (aD r1)))] (.one (.one .slc)) fun(u2:SLC)=>
 zL (Int×Unit) ((0:Int),()) fun(y4:Int×Unit) (I3:(Int×Unit)->WP)=>
 za (decide (y4.1<((u2.2.1:Nat):Int))) (zc (0<=y4.1/\y4.1<((u2.2.1:Nat):Int))<|
 zk u2.1 fun(p5:Addr)=>
 zl [(.int .u64),.ptr] (p5.add (Int.toNat y4.1*2)) fun(u6:(Int×Option Addr×Unit))=>
 zi (.cells #[(.int .u64 (0:Int)),(.pointer none)] 135) fun(r7:Nat)=>
 zc ((#[(.int .u64 u6.1),(.pointer u6.2.1)]:Array Value).size=2)<|
 zr (aD r7) [(.int .u64 u6.1),(.pointer u6.2.1)]<|
 ldW .ptr ((aD r7).add 1) fun(u8:Option Addr)=>
 zk u8 fun(p9:Addr)=>
 ldW (.int .u32) p9 fun(u10:Int)=>
 ze prog 74 [(.pointer x0),(.int .u32 u10)] (.one (.one (.int .i64))) fun(u11:Int)=>
 za (u11 !=(0:Int)) (K (.int .i64 u11))<|I3 ((wrap .i64 (y4.1+(1:Int))),()))<|K (.int .i64 (0:Int))
theorem zn6 (x0:Option Addr) (Ar:Option Addr) (As Au:Nat) (Am:Option Addr) (An Ao:Nat) {K:Value->WP} {w:World} (h:S35 x0 Ar As Au Am An Ao K w):Calls prog 35 #[(.pointer x0),(.agg #[(.slice Ar As Au),(.slice Am An Ao)])] w (Ret K):=cF an35 false Tryz.func35 h
def an36:Ann:=(AN (AN (AR (AN (AQ AO AP)) (AR (AN (AQ AO AP)) (AN (AR (AN (AQ AO AP)) (AN (AR (AN (.block (.loop [(9,.sh (.one .slc)),(10,.sh (.one .slc)),(44,.sh (.one (.int .i64)))] [0,42,43,1000000] (AN (AR (AQ AP AP) (AR (.block AO) AP)))))) AO))))))))
def S36 (x0:Option Addr) (Ar:Option Addr) (As Au:Nat) (Am:Option Addr) (An Ao:Nat) (K:Value->WP):WP:=
 zi (.cells #[(.slice Ar As Au),(.slice Am An Ao)] 30) fun(r1:Nat)=>
 zl [.slc,.slc] (aD r1) fun(u2:(SLC×SLC×Unit))=>
 ze prog 75 [(.agg #[(.slice u2.1.1 u2.1.2.1 u2.1.2.2),(.slice u2.2.1.1 u2.2.1.2.1 u2.2.1.2.2)])] (.many [(.one .str),(.one (.int .i64))]) fun(u3:ByteArray×Int×Unit)=>
 za (u3.2.1 !=(0:Int)) (K (.tuple #[(.int .u32 (0:Int)),(.int .i64 u3.2.1)]))<|
 ldW .slc (aD r1) fun(u4:SLC)=>
 ldW .slc ((aD r1).add 1) fun(u5:SLC)=>
 za ((wrap .i64 (((u4.2.1:Nat):Int)+((u5.2.1:Nat):Int)))==(0:Int)) (K (.tuple #[(.int .u32 (0:Int)),(.int .i64 (0:Int))]))<|
 ze prog 76 [(.pointer x0),(.string u3.1)] (.many [(.one (.int .u32)),(.one (.int .i64))]) fun(u6:Int×Int×Unit)=>
 za (u6.2.1 !=(0:Int)) (K (.tuple #[(.int .u32 (0:Int)),(.int .i64 u6.2.1)]))<|
 zi (.cells #[(.int .u64 (0:Int))] 40) fun(r7:Nat)=>
 zi (.cells #[(.int .u64 (wrap .u64 u6.1))] 40) fun(r8:Nat)=>
 ze prog 73 [(.pointer (some (aD r1)))] (.one (.one .slc)) fun(u9:SLC)=>
 zL (SLC×SLC×Int×Unit) (((some (aD r7)),1,1),((some (aD r8)),1,1),(0:Int),()) fun(y11:SLC×SLC×Int×Unit) (I10:(SLC×SLC×Int×Unit)->WP)=>
 za (decide (y11.2.2.1<((u9.2.1:Nat):Int))) (zc (0<=y11.2.2.1/\y11.2.2.1<((u9.2.1:Nat):Int))<|
 zk u9.1 fun(p12:Addr)=>
 zl [(.int .u64),.ptr] (p12.add (Int.toNat y11.2.2.1*2)) fun(u13:(Int×Option Addr×Unit))=>
 zi (.cells #[(.int .u64 (0:Int)),(.pointer none)] 135) fun(r14:Nat)=>
 zc ((#[(.int .u64 u13.1),(.pointer u13.2.1)]:Array Value).size=2)<|
 zr (aD r14) [(.int .u64 u13.1),(.pointer u13.2.1)]<|
 zF<|
 ldW (.int .u64) (aD r14) fun(u15:Int)=>
 ldW .ptr ((aD r14).add 1) fun(u16:Option Addr)=>
 zk u16 fun(p17:Addr)=>
 ldW (.int .u32) p17 fun(u18:Int)=>
 vu (zi (.cells #[(.int .u64 u15)] 40) fun(r19:Nat)=>
 zu [[(p17,(.int .u32 u18))],[(((aD r14).add 1),(.pointer u16))]]<|
 vu (zv prog (Builtin.append_ #[138,138] 138 #[(.slice y11.1.1 y11.1.2.1 y11.1.2.2),(.slice (some (aD r19)) 1 1)]) .slc fun(u20:SLC)=>
 zu [[(p17,(.int .u32 u18))],[(((aD r14).add 1),(.pointer u16))]]<|
 zi (.cells #[(.int .u64 (wrap .u64 u18))] 40) fun(r21:Nat)=>
 zu [[((aD r14),(.int .u64 u15))]]<|
 zv prog (Builtin.append_ #[138,138] 138 #[(.slice y11.2.1.1 y11.2.1.2.1 y11.2.1.2.2),(.slice (some (aD r21)) 1 1)]) .slc fun(u22:SLC)=>I10 ((u20.1,u20.2.1,u20.2.2),(u22.1,u22.2.1,u22.2.2),(wrap .i64 (y11.2.2.1+(1:Int))),()))<|
 zi (.cells #[(.int .u64 (wrap .u64 u18))] 40) fun(r23:Nat)=>
 zu [[((aD r14),(.int .u64 u15))]]<|
 zv prog (Builtin.append_ #[138,138] 138 #[(.slice y11.1.1 y11.1.2.1 y11.1.2.2),(.slice (some (aD r19)) 1 1)]) .slc fun(u24:SLC)=>
 zu [[(p17,(.int .u32 u18))],[(((aD r14).add 1),(.pointer u16))]]<|
 zv prog (Builtin.append_ #[138,138] 138 #[(.slice y11.2.1.1 y11.2.1.2.1 y11.2.1.2.2),(.slice (some (aD r23)) 1 1)]) .slc fun(u25:SLC)=>I10 ((u24.1,u24.2.1,u24.2.2),(u25.1,u25.2.1,u25.2.2),(wrap .i64 (y11.2.2.1+(1:Int))),()))<|
 zi (.cells #[(.int .u64 (wrap .u64 u18))] 40) fun(r26:Nat)=>
 zu [[((aD r14),(.int .u64 u15))]]<|
 zi (.cells #[(.int .u64 u15)] 40) fun(r27:Nat)=>
 zu [[(p17,(.int .u32 u18))],[(((aD r14).add 1),(.pointer u16))]]<|
 zv prog (Builtin.append_ #[138,138] 138 #[(.slice y11.1.1 y11.1.2.1 y11.1.2.2),(.slice (some (aD r27)) 1 1)]) .slc fun(u28:SLC)=>
 zu [[(p17,(.int .u32 u18))],[(((aD r14).add 1),(.pointer u16))]]<|
 zv prog (Builtin.append_ #[138,138] 138 #[(.slice y11.2.1.1 y11.2.1.2.1 y11.2.1.2.2),(.slice (some (aD r26)) 1 1)]) .slc fun(u29:SLC)=>I10 ((u28.1,u28.2.1,u28.2.2),(u29.1,u29.2.1,u29.2.2),(wrap .i64 (y11.2.2.1+(1:Int))),()))<|
 ze prog 77 [(.pointer x0),(.bool true),(.slice y11.1.1 y11.1.2.1 y11.1.2.2),(.slice y11.2.1.1 y11.2.1.2.1 y11.2.1.2.2)] (.many [(.one (.int .u32)),(.one (.int .i64))]) fun(u30:Int×Int×Unit)=>K (.tuple #[(.int .u32 u30.1),(.int .i64 u30.2.1)])
theorem zn7 (x0:Option Addr) (Ar:Option Addr) (As Au:Nat) (Am:Option Addr) (An Ao:Nat) {K:Value->WP} {w:World} (h:S36 x0 Ar As Au Am An Ao K w):Calls prog 36 #[(.pointer x0),(.agg #[(.slice Ar As Au),(.slice Am An Ao)])] w (Ret K):=cF an36 false Tryz.func36 h
def an37:Ann:=(AN (AN (AR (AN (.block (.loop [(16,.sh (.one (.int .i64)))] [2,3,14,15,1000000] (AN (AR (AQ AP AP) (AR (.block AO) AP)))))) AO)))
def S37 (Av:Option Addr) (Aw Ax:Nat) (Ab:Option Addr) (Ac Ae:Nat) (K:Value->WP):WP:=
 zi (.cells #[(.slice Av Aw Ax),(.slice Ab Ac Ae)] 30) fun(r1:Nat)=>
 zi (.cells #[(.slice none 0 0),(.slice none 0 0)] 30) fun(r2:Nat)=>
 zF<|
 ldW .slc (aD r1) fun(u3:SLC)=>
 ldW .slc ((aD r1).add 1) fun(u4:SLC)=>
 vu (ze prog 78 [(.slice u3.1 u3.2.1 u3.2.2)] (.one (.one .slc)) fun(u5:SLC)=>
 zu [[(((aD r1).add 1),(.slice u4.1 u4.2.1 u4.2.2))]]<|
 vu (ze prog 79 [(.slice u4.1 u4.2.1 u4.2.2)] (.one (.one .slc)) fun(u6:SLC)=>
 zi (.cells #[(.slice none 0 0),(.slice none 0 0)] 30) fun(r7:Nat)=>
 zu [[(((aD r1).add 1),(.slice u4.1 u4.2.1 u4.2.2))],[((aD r1),(.slice u3.1 u3.2.1 u3.2.2))]]<|
 zc ((#[(.slice u5.1 u5.2.1 u5.2.2),(.slice u6.1 u6.2.1 u6.2.2)]:Array Value).size=2)<|
 zr (aD r7) [(.slice u5.1 u5.2.1 u5.2.2),(.slice u6.1 u6.2.1 u6.2.2)]<|
 ldW .slc (aD r7) fun(u8:SLC)=>
 zL (Int×Unit) ((0:Int),()) fun(y10:Int×Unit) (I9:(Int×Unit)->WP)=>
 za (decide (y10.1<((u8.2.1:Nat):Int))) (zc (0<=y10.1/\y10.1<((u8.2.1:Nat):Int))<|
 zk u8.1 fun(p11:Addr)=>
 zl [.str,.slc,(.int .u32),(.int .u64),(.int .i64)] (p11.add (Int.toNat y10.1*5)) fun(u12:(ByteArray×SLC×Int×Int×Int×Unit))=>
 zi (.cells #[(.string ByteArray.empty),(.slice none 0 0),(.int .u32 (0:Int)),(.int .u64 (0:Int)),(.int .i64 (0:Int))] 42) fun(r13:Nat)=>
 zc ((#[(.string u12.1),(.slice u12.2.1.1 u12.2.1.2.1 u12.2.1.2.2),(.int .u32 u12.2.2.1),(.int .u64 u12.2.2.2.1),(.int .i64 u12.2.2.2.2.1)]:Array Value).size=5)<|
 zr (aD r13) [(.string u12.1),(.slice u12.2.1.1 u12.2.1.2.1 u12.2.1.2.2),(.int .u32 u12.2.2.1),(.int .u64 u12.2.2.2.1),(.int .i64 u12.2.2.2.2.1)]<|
 zF<|
 ldW .slc (aD r7) fun(u14:SLC)=>
 ldW .slc ((aD r13).add 1) fun(u15:SLC)=>
 ze prog 80 [(.slice u15.1 u15.2.1 u15.2.2)] (.one (.one .slc)) fun(u16:SLC)=>
 zu [[((aD r7),(.slice u14.1 u14.2.1 u14.2.2))]]<|
 zc (0<=y10.1/\y10.1<((u14.2.1:Nat):Int))<|
 zk u14.1 fun(p17:Addr)=>
 stW ((p17.add (Int.toNat y10.1*5)).add 1) (.slice u16.1 u16.2.1 u16.2.2)<|I9 ((wrap .i64 (y10.1+(1:Int))),()))<|
 zl [.slc,.slc] (aD r7) fun(u18:(SLC×SLC×Unit))=>
 zc ((#[(.slice u18.1.1 u18.1.2.1 u18.1.2.2),(.slice u18.2.1.1 u18.2.1.2.1 u18.2.1.2.2)]:Array Value).size=2)<|
 zr (aD r2) [(.slice u18.1.1 u18.1.2.1 u18.1.2.2),(.slice u18.2.1.1 u18.2.1.2.1 u18.2.1.2.2)]<|
 zl [.slc,.slc] (aD r2) fun(u19:(SLC×SLC×Unit))=>K (.agg #[(.slice u19.1.1 u19.1.2.1 u19.1.2.2),(.slice u19.2.1.1 u19.2.1.2.1 u19.2.1.2.2)]))<|
 zi (.cells #[(.slice none 0 0),(.slice none 0 0)] 30) fun(r20:Nat)=>
 zu [[(((aD r1).add 1),(.slice u4.1 u4.2.1 u4.2.2))],[((aD r1),(.slice u3.1 u3.2.1 u3.2.2))]]<|
 ze prog 79 [(.slice u4.1 u4.2.1 u4.2.2)] (.one (.one .slc)) fun(u21:SLC)=>
 zc ((#[(.slice u5.1 u5.2.1 u5.2.2),(.slice u21.1 u21.2.1 u21.2.2)]:Array Value).size=2)<|
 zr (aD r20) [(.slice u5.1 u5.2.1 u5.2.2),(.slice u21.1 u21.2.1 u21.2.2)]<|
 ldW .slc (aD r20) fun(u22:SLC)=>
 zL (Int×Unit) ((0:Int),()) fun(y24:Int×Unit) (I23:(Int×Unit)->WP)=>
 za (decide (y24.1<((u22.2.1:Nat):Int))) (zc (0<=y24.1/\y24.1<((u22.2.1:Nat):Int))<|
 zk u22.1 fun(p25:Addr)=>
 zl [.str,.slc,(.int .u32),(.int .u64),(.int .i64)] (p25.add (Int.toNat y24.1*5)) fun(u26:(ByteArray×SLC×Int×Int×Int×Unit))=>
 zi (.cells #[(.string ByteArray.empty),(.slice none 0 0),(.int .u32 (0:Int)),(.int .u64 (0:Int)),(.int .i64 (0:Int))] 42) fun(r27:Nat)=>
 zc ((#[(.string u26.1),(.slice u26.2.1.1 u26.2.1.2.1 u26.2.1.2.2),(.int .u32 u26.2.2.1),(.int .u64 u26.2.2.2.1),(.int .i64 u26.2.2.2.2.1)]:Array Value).size=5)<|
 zr (aD r27) [(.string u26.1),(.slice u26.2.1.1 u26.2.1.2.1 u26.2.1.2.2),(.int .u32 u26.2.2.1),(.int .u64 u26.2.2.2.1),(.int .i64 u26.2.2.2.2.1)]<|
 zF<|
 ldW .slc (aD r20) fun(u28:SLC)=>
 ldW .slc ((aD r27).add 1) fun(u29:SLC)=>
 ze prog 80 [(.slice u29.1 u29.2.1 u29.2.2)] (.one (.one .slc)) fun(u30:SLC)=>
 zu [[((aD r20),(.slice u28.1 u28.2.1 u28.2.2))]]<|
 zc (0<=y24.1/\y24.1<((u28.2.1:Nat):Int))<|
 zk u28.1 fun(p31:Addr)=>
 stW ((p31.add (Int.toNat y24.1*5)).add 1) (.slice u30.1 u30.2.1 u30.2.2)<|I23 ((wrap .i64 (y24.1+(1:Int))),()))<|
 zl [.slc,.slc] (aD r20) fun(u32:(SLC×SLC×Unit))=>
 zc ((#[(.slice u32.1.1 u32.1.2.1 u32.1.2.2),(.slice u32.2.1.1 u32.2.1.2.1 u32.2.1.2.2)]:Array Value).size=2)<|
 zr (aD r2) [(.slice u32.1.1 u32.1.2.1 u32.1.2.2),(.slice u32.2.1.1 u32.2.1.2.1 u32.2.1.2.2)]<|
 zl [.slc,.slc] (aD r2) fun(u33:(SLC×SLC×Unit))=>K (.agg #[(.slice u33.1.1 u33.1.2.1 u33.1.2.2),(.slice u33.2.1.1 u33.2.1.2.1 u33.2.1.2.2)]))<|
 zi (.cells #[(.slice none 0 0),(.slice none 0 0)] 30) fun(r34:Nat)=>
 zu [[(((aD r1).add 1),(.slice u4.1 u4.2.1 u4.2.2))],[((aD r1),(.slice u3.1 u3.2.1 u3.2.2))]]<|
 ze prog 78 [(.slice u3.1 u3.2.1 u3.2.2)] (.one (.one .slc)) fun(u35:SLC)=>
 zu [[(((aD r1).add 1),(.slice u4.1 u4.2.1 u4.2.2))]]<|
 ze prog 79 [(.slice u4.1 u4.2.1 u4.2.2)] (.one (.one .slc)) fun(u36:SLC)=>
 zc ((#[(.slice u35.1 u35.2.1 u35.2.2),(.slice u36.1 u36.2.1 u36.2.2)]:Array Value).size=2)<|
 zr (aD r34) [(.slice u35.1 u35.2.1 u35.2.2),(.slice u36.1 u36.2.1 u36.2.2)]<|
 ldW .slc (aD r34) fun(u37:SLC)=>
 zL (Int×Unit) ((0:Int),()) fun(y39:Int×Unit) (I38:(Int×Unit)->WP)=>
 za (decide (y39.1<((u37.2.1:Nat):Int))) (zc (0<=y39.1/\y39.1<((u37.2.1:Nat):Int))<|
 zk u37.1 fun(p40:Addr)=>
 zl [.str,.slc,(.int .u32),(.int .u64),(.int .i64)] (p40.add (Int.toNat y39.1*5)) fun(u41:(ByteArray×SLC×Int×Int×Int×Unit))=>
 zi (.cells #[(.string ByteArray.empty),(.slice none 0 0),(.int .u32 (0:Int)),(.int .u64 (0:Int)),(.int .i64 (0:Int))] 42) fun(r42:Nat)=>
 zc ((#[(.string u41.1),(.slice u41.2.1.1 u41.2.1.2.1 u41.2.1.2.2),(.int .u32 u41.2.2.1),(.int .u64 u41.2.2.2.1),(.int .i64 u41.2.2.2.2.1)]:Array Value).size=5)<|
 zr (aD r42) [(.string u41.1),(.slice u41.2.1.1 u41.2.1.2.1 u41.2.1.2.2),(.int .u32 u41.2.2.1),(.int .u64 u41.2.2.2.1),(.int .i64 u41.2.2.2.2.1)]<|
 zF<|
 ldW .slc (aD r34) fun(u43:SLC)=>
 ldW .slc ((aD r42).add 1) fun(u44:SLC)=>
 ze prog 80 [(.slice u44.1 u44.2.1 u44.2.2)] (.one (.one .slc)) fun(u45:SLC)=>
 zu [[((aD r34),(.slice u43.1 u43.2.1 u43.2.2))]]<|
 zc (0<=y39.1/\y39.1<((u43.2.1:Nat):Int))<|
 zk u43.1 fun(p46:Addr)=>
 stW ((p46.add (Int.toNat y39.1*5)).add 1) (.slice u45.1 u45.2.1 u45.2.2)<|I38 ((wrap .i64 (y39.1+(1:Int))),()))<|
 zl [.slc,.slc] (aD r34) fun(u47:(SLC×SLC×Unit))=>
 zc ((#[(.slice u47.1.1 u47.1.2.1 u47.1.2.2),(.slice u47.2.1.1 u47.2.1.2.1 u47.2.1.2.2)]:Array Value).size=2)<|
 zr (aD r2) [(.slice u47.1.1 u47.1.2.1 u47.1.2.2),(.slice u47.2.1.1 u47.2.1.2.1 u47.2.1.2.2)]<|
 zl [.slc,.slc] (aD r2) fun(u48:(SLC×SLC×Unit))=>K (.agg #[(.slice u48.1.1 u48.1.2.1 u48.1.2.2),(.slice u48.2.1.1 u48.2.1.2.1 u48.2.1.2.2)])
theorem zn8 (Av:Option Addr) (Aw Ax:Nat) (Ab:Option Addr) (Ac Ae:Nat) {K:Value->WP} {w:World} (h:S37 Av Aw Ax Ab Ac Ae K w):Calls prog 37 #[(.agg #[(.slice Av Aw Ax),(.slice Ab Ac Ae)])] w (Ret K):=cF an37 false Tryz.func37 h
def an38:Ann:=(AN (AN (AN (AR (AN (AQ AO AP)) (AN (AR (AN (AQ AO AP)) (AR (AN (AQ (AN (AN (AN AO))) AP)) (AN (AR (AN (AQ (AN (AN AO)) AP)) (AN (AN AO)))))))))))
def S38 (a0:Option Addr) (n0 c0:Nat) (x1:Int) (a2:Option Addr) (n2 c2:Nat) (K:Value->WP):WP:=
 zc (0<=x1/\x1<=((n0:Nat):Int))<|
 za (((n2:Nat):Int)==(0:Int)) (K (.slice a0 n0 c0))<|
 za (x1==((n0:Nat):Int)) (zv prog (Builtin.append_ #[28,28] 28 #[(.slice a0 n0 c0),(.slice a2 n2 c2)]) .slc fun(u1:SLC)=>K (.slice u1.1 u1.2.1 u1.2.2))<|
 za (decide ((wrap .i64 (((n0:Nat):Int)+((n2:Nat):Int)))>((c0:Nat):Int))) (zc (0<=x1/\x1<=((c0:Nat):Int))<|
 zv prog (Builtin.append_ #[28,3] 28 #[(.slice (zh a0 0 c0 2) (Int.toNat x1) c0),(.int .i64 (wrap .i64 ((wrap .i64 (((n0:Nat):Int)+((n2:Nat):Int)))-x1)))]) .slc fun(u2:SLC)=>
 zc (0<=x1/\x1<=((u2.2.1:Nat):Int))<|
 zv prog (Builtin.copy_ #[28,28] 3 #[(.slice (zh u2.1 (Int.toNat x1) u2.2.2 2) (u2.2.1-(Int.toNat x1)) (u2.2.2-(Int.toNat x1))),(.slice a2 n2 c2)]) (.int .i64) fun(u3:Int)=>
 zF<|
 zc (0<=(wrap .i64 (x1+((n2:Nat):Int)))/\(wrap .i64 (x1+((n2:Nat):Int)))<=((u2.2.1:Nat):Int))<|
 zc (0<=x1/\x1<=((n0:Nat):Int))<|
 zv prog (Builtin.copy_ #[28,28] 3 #[(.slice (zh u2.1 (Int.toNat (wrap .i64 (x1+((n2:Nat):Int)))) u2.2.2 2) (u2.2.1-(Int.toNat (wrap .i64 (x1+((n2:Nat):Int))))) (u2.2.2-(Int.toNat (wrap .i64 (x1+((n2:Nat):Int)))))),(.slice (zh a0 (Int.toNat x1) c0 2) (n0-(Int.toNat x1)) (c0-(Int.toNat x1)))]) (.int .i64) fun(u4:Int)=>K (.slice u2.1 u2.2.1 u2.2.2))<|
 zc (0<=(wrap .i64 (((n0:Nat):Int)+((n2:Nat):Int)))/\(wrap .i64 (((n0:Nat):Int)+((n2:Nat):Int)))<=((c0:Nat):Int))<|
 zc (0<=(wrap .i64 (x1+((n2:Nat):Int)))/\(wrap .i64 (x1+((n2:Nat):Int)))<=(((Int.toNat (wrap .i64 (((n0:Nat):Int)+((n2:Nat):Int)))):Nat):Int))<|
 zi3 prog (zeJ 81 #[(.slice a2 n2 c2),(.slice (zh (zh a0 0 c0 2) (Int.toNat (wrap .i64 (x1+((n2:Nat):Int)))) c0 2) ((Int.toNat (wrap .i64 (((n0:Nat):Int)+((n2:Nat):Int))))-(Int.toNat (wrap .i64 (x1+((n2:Nat):Int))))) (c0-(Int.toNat (wrap .i64 (x1+((n2:Nat):Int))))))]) (.one (.one .bool)) fun(u5:Bool)=>
 za (!u5) (zF<|
 zc (0<=(wrap .i64 (x1+((n2:Nat):Int)))/\(wrap .i64 (x1+((n2:Nat):Int)))<=(((Int.toNat (wrap .i64 (((n0:Nat):Int)+((n2:Nat):Int)))):Nat):Int))<|
 zc (0<=x1/\x1<=(((Int.toNat (wrap .i64 (((n0:Nat):Int)+((n2:Nat):Int)))):Nat):Int))<|
 zv prog (Builtin.copy_ #[28,28] 3 #[(.slice (zh (zh a0 0 c0 2) (Int.toNat (wrap .i64 (x1+((n2:Nat):Int)))) c0 2) ((Int.toNat (wrap .i64 (((n0:Nat):Int)+((n2:Nat):Int))))-(Int.toNat (wrap .i64 (x1+((n2:Nat):Int))))) (c0-(Int.toNat (wrap .i64 (x1+((n2:Nat):Int)))))),(.slice (zh (zh a0 0 c0 2) (Int.toNat x1) c0 2) ((Int.toNat (wrap .i64 (((n0:Nat):Int)+((n2:Nat):Int))))-(Int.toNat x1)) (c0-(Int.toNat x1)))]) (.int .i64) fun(u6:Int)=>
 zc (0<=x1/\x1<=(((Int.toNat (wrap .i64 (((n0:Nat):Int)+((n2:Nat):Int)))):Nat):Int))<|
 zv prog (Builtin.copy_ #[28,28] 3 #[(.slice (zh (zh a0 0 c0 2) (Int.toNat x1) c0 2) ((Int.toNat (wrap .i64 (((n0:Nat):Int)+((n2:Nat):Int))))-(Int.toNat x1)) (c0-(Int.toNat x1))),(.slice a2 n2 c2)]) (.int .i64) fun(u7:Int)=>K (.slice (zh a0 0 c0 2) (Int.toNat (wrap .i64 (((n0:Nat):Int)+((n2:Nat):Int)))) c0))<|
 zc (0<=((n0:Nat):Int)/\((n0:Nat):Int)<=(((Int.toNat (wrap .i64 (((n0:Nat):Int)+((n2:Nat):Int)))):Nat):Int))<|
 zv prog (Builtin.copy_ #[28,28] 3 #[(.slice (zh (zh a0 0 c0 2) (Int.toNat ((n0:Nat):Int)) c0 2) ((Int.toNat (wrap .i64 (((n0:Nat):Int)+((n2:Nat):Int))))-(Int.toNat ((n0:Nat):Int))) (c0-(Int.toNat ((n0:Nat):Int)))),(.slice a2 n2 c2)]) (.int .i64) fun(u8:Int)=>
 zc (0<=x1/\x1<=(((Int.toNat (wrap .i64 (((n0:Nat):Int)+((n2:Nat):Int)))):Nat):Int))<|
 ze prog 82 [(.slice (zh (zh a0 0 c0 2) (Int.toNat x1) c0 2) ((Int.toNat (wrap .i64 (((n0:Nat):Int)+((n2:Nat):Int))))-(Int.toNat x1)) (c0-(Int.toNat x1))),(.int .i64 ((n2:Nat):Int))] .none fun(u9:Unit)=>K (.slice (zh a0 0 c0 2) (Int.toNat (wrap .i64 (((n0:Nat):Int)+((n2:Nat):Int)))) c0)
theorem zn9 (a0:Option Addr) (n0 c0:Nat) (x1:Int) (a2:Option Addr) (n2 c2:Nat) {K:Value->WP} {w:World} (h:S38 a0 n0 c0 x1 a2 n2 c2 K w):Calls prog 38 #[(.slice a0 n0 c0),(.int .i64 x1),(.slice a2 n2 c2)] w (Ret K):=cF an38 false Tryz.func38 h
def an39:Ann:=(AN AO)
def S39 (x0:Option Addr) (x1:Int) (K:Value->WP):WP:=
 za (decide (x1>=(2:Int))) (zk x0 fun(p1:Addr)=>
 ldW (.int .i64) (((p1.add 1).add 1).add 1) fun(u2:Int)=>
 za (decide ((wrap .u64 x1)<(wrap .u64 u2))) (zk x0 fun(p3:Addr)=>
 ldW .slc ((p3.add 1).add 4) fun(u4:SLC)=>
 ze prog 83 [(.slice u4.1 u4.2.1 u4.2.2),(.int .u32 x1)] (.one (.one .bool)) fun(u5:Bool)=>K (.bool (!u5)))<|K (.bool false))<|K (.bool false)
theorem zoa (x0:Option Addr) (x1:Int) {K:Value->WP} {w:World} (h:S39 x0 x1 K w):Calls prog 39 #[(.pointer x0),(.int .u32 x1)] w (Ret K):=cF an39 false Tryz.func39 h
def an40:Ann:=(AN (AR (AN (AQ AO AP)) AO))
def S40 (x0:Option Addr) (x1:Int) (K:Value->WP):WP:=
 za (Option.isNone x0) (K (.int .i64 (0:Int)))<|
 zk x0 fun(p1:Addr)=>
 ldW .slc (p1.add 2) fun(u2:SLC)=>
 za (decide ((wrap .u64 x1)>=(wrap .u64 ((u2.2.1:Nat):Int)))) (K (.int .i64 (0:Int)))<|
 zk x0 fun(p3:Addr)=>
 ldW .slc (p3.add 2) fun(u4:SLC)=>
 zc (0<=x1/\x1<((u4.2.1:Nat):Int))<|
 zk u4.1 fun(p5:Addr)=>
 ldW (.int .u16) (p5.add (Int.toNat x1*1)) fun(u6:Int)=>K (.int .i64 (wrap .i64 u6))
theorem ziG (x0:Option Addr) (x1:Int) {K:Value->WP} {w:World} (h:S40 x0 x1 K w):Calls prog 40 #[(.pointer x0),(.int .u32 x1)] w (Ret K):=cF an40 false Tryz.func40 h
def an41:Ann:=(AN (AN (AR (AN (AQ AO AP)) (AN AO))))
def S41 (x0:Option Addr) (x1:Int) (K:Value->WP):WP:=
 ze prog 84 [(.pointer x0),(.int .u32 x1)] (.many [(.one .ptr),(.one (.int .i64))]) fun(u1:Option Addr×Int×Unit)=>
 za (u1.2.1 !=(0:Int)) (K (.tuple #[(.int .i64 (0:Int)),(.int .i64 u1.2.1)]))<|
 zk u1.1 fun(p2:Addr)=>
 ldW (.int .u16) p2 fun(u3:Int)=>
 zk u1.1 fun(p4:Addr)=>
 stW p4 (.int .u16 (wrap .u16 (u3-(1:Int))))<|
 zk u1.1 fun(p5:Addr)=>
 ldW (.int .u16) p5 fun(u6:Int)=>K (.tuple #[(.int .i64 (wrap .i64 u6)),(.int .i64 (0:Int))])
theorem zob (x0:Option Addr) (x1:Int) {K:Value->WP} {w:World} (h:S41 x0 x1 K w):Calls prog 41 #[(.pointer x0),(.int .u32 x1)] w (Ret K):=cF an41 false Tryz.func41 h
def an42:Ann:=(AN (.block (.loop [(2,.sh (.one (.int .i64))),(3,.sh (.one (.int .i64)))] [0,1000000] (AR (AN (AQ AP AP)) (AR (.block AP) AP)))))
def S42 (a0:Option Addr) (n0 c0:Nat) (K:Value->WP):WP:=
 zL (Int×Int×Unit) ((0:Int),(wrap .i64 (((n0:Nat):Int)-(1:Int))),()) fun(y2:Int×Int×Unit) (I1:(Int×Int×Unit)->WP)=>
 za (decide (y2.1<y2.2.1)) (zF<|
 zc (0<=y2.2.1/\y2.2.1<((n0:Nat):Int))<|
 zk a0 fun(p3:Addr)=>
 ldW (.int .u32) (p3.add (Int.toNat y2.2.1*1)) fun(u4:Int)=>
 zc (0<=y2.1/\y2.1<((n0:Nat):Int))<|
 zk a0 fun(p5:Addr)=>
 ldW (.int .u32) (p5.add (Int.toNat y2.1*1)) fun(u6:Int)=>
 zc (0<=y2.1/\y2.1<((n0:Nat):Int))<|
 zk a0 fun(p7:Addr)=>
 stW (p7.add (Int.toNat y2.1*1)) (.int .u32 u4)<|
 zc (0<=y2.2.1/\y2.2.1<((n0:Nat):Int))<|
 zk a0 fun(p8:Addr)=>
 stW (p8.add (Int.toNat y2.2.1*1)) (.int .u32 u6)<|I1 ((wrap .i64 (y2.1+(1:Int))),(wrap .i64 (y2.2.1-(1:Int))),()))<|K (.tuple #[])
theorem zoc (a0:Option Addr) (n0 c0:Nat) {K:Value->WP} {w:World} (h:S42 a0 n0 c0 K w):Calls prog 42 #[(.slice a0 n0 c0)] w (Ret K):=cF an42 false Tryz.func42 h
def an43:Ann:=(AN (AR (AN (AQ AO AP)) (AR (AN (AN (AQ AO AP))) (AN (AN (AR (AN (.block (.loop [(30,.sh (.one (.int .u64))),(31,.sh (.one (.int .u64)))] [] (AR AO (.block AP))))) (AR (AN (AQ AO AP)) (AN (AR (AN (AQ AO AP)) (AN (AR (AN (AQ AO AP)) (AN (AR (AN (AQ AO AP)) (AR (AN (.block (.loop [(87,.sh (.one (.int .i64)))] [4,7,8,13,85,86,1000000] (AN (AR (AQ AP AP) (AR (.block (AN (AR (AN (AQ AO AP)) AP))) AP)))))) AO))))))))))))))
def S43 (x0:Option Addr) (x1:Int) (K:Value->WP):WP:=
 zi (.cells #[(.slice none 0 0),(.slice none 0 0)] 30) fun(r1:Nat)=>
 za (x1==(0:Int)) (zc ((#[(.slice none 0 0),(.slice none 0 0)]:Array Value).size=2)<|
 zr (aD r1) [(.slice none 0 0),(.slice none 0 0)]<|
 zX prog []<|
 zl [.slc,.slc] (aD r1) fun(u2:(SLC×SLC×Unit))=>K (.tuple #[(.agg #[(.slice u2.1.1 u2.1.2.1 u2.1.2.2),(.slice u2.2.1.1 u2.2.1.2.1 u2.2.1.2.2)]),(.int .i64 (0:Int))]))<|
 ze prog 85 [(.pointer x0),(.int .u32 x1)] (.one (.one (.int .i64))) fun(u3:Int)=>
 za (u3 !=(0:Int)) (zc ((#[(.slice none 0 0),(.slice none 0 0)]:Array Value).size=2)<|
 zr (aD r1) [(.slice none 0 0),(.slice none 0 0)]<|
 zX prog []<|
 zl [.slc,.slc] (aD r1) fun(u4:(SLC×SLC×Unit))=>K (.tuple #[(.agg #[(.slice u4.1.1 u4.1.2.1 u4.1.2.2),(.slice u4.2.1.1 u4.2.1.2.1 u4.2.1.2.2)]),(.int .i64 u3)]))<|
 zi (.cells #[(.slice none 0 0)] 138) fun(r5:Nat)=>
 zi (.cells #[(.slice none 0 0)] 47) fun(r6:Nat)=>
 ze prog 86 [(.pointer x0),(.int .u32 x1),(.int .u64 (0:Int))] (.one (.one .any)) fun(u7:Value)=>
 ji prog u7 (Int×Int×Unit) (fun(t8:Int×Int×Unit)=>[(.int .u64 t8.1),(.int .u64 t8.2.1)]) (fun(t8:Int×Int×Unit) (B9:WP->WP) (N10:WP) (Q11:Code->WP)=>B9 (zF<|
 ldW .slc (aD r5) fun(u14:SLC)=>
 ldW .slc (aD r6) fun(u15:SLC)=>
 vu (zi (.cells #[(.int .u64 t8.1)] 40) fun(r16:Nat)=>
 zu [[((aD r6),(.slice u15.1 u15.2.1 u15.2.2))],[((aD r5),(.slice u14.1 u14.2.1 u14.2.2))]]<|
 vu (zv prog (Builtin.append_ #[138,138] 138 #[(.slice u14.1 u14.2.1 u14.2.2),(.slice (some (aD r16)) 1 1)]) .slc fun(u17:SLC)=>
 zu [[((aD r6),(.slice u15.1 u15.2.1 u15.2.2))]]<|
 zi (.cells #[(.int .u32 (wrap .u32 t8.2.1))] 39) fun(r18:Nat)=>
 zu [[((aD r6),(.slice u15.1 u15.2.1 u15.2.2))],[((aD r5),(.slice u14.1 u14.2.1 u14.2.2))]]<|
 zv prog (Builtin.append_ #[47,47] 47 #[(.slice u15.1 u15.2.1 u15.2.2),(.slice (some (aD r18)) 1 1)]) .slc fun(u19:SLC)=>
 stW (aD r5) (.slice u17.1 u17.2.1 u17.2.2)<|
 stW (aD r6) (.slice u19.1 u19.2.1 u19.2.2)<|N10)<|
 zi (.cells #[(.int .u32 (wrap .u32 t8.2.1))] 39) fun(r20:Nat)=>
 zu [[((aD r6),(.slice u15.1 u15.2.1 u15.2.2))],[((aD r5),(.slice u14.1 u14.2.1 u14.2.2))]]<|
 zv prog (Builtin.append_ #[138,138] 138 #[(.slice u14.1 u14.2.1 u14.2.2),(.slice (some (aD r16)) 1 1)]) .slc fun(u21:SLC)=>
 zu [[((aD r6),(.slice u15.1 u15.2.1 u15.2.2))]]<|
 zv prog (Builtin.append_ #[47,47] 47 #[(.slice u15.1 u15.2.1 u15.2.2),(.slice (some (aD r20)) 1 1)]) .slc fun(u22:SLC)=>
 stW (aD r5) (.slice u21.1 u21.2.1 u21.2.2)<|
 stW (aD r6) (.slice u22.1 u22.2.1 u22.2.2)<|N10)<|
 zi (.cells #[(.int .u32 (wrap .u32 t8.2.1))] 39) fun(r23:Nat)=>
 zu [[((aD r6),(.slice u15.1 u15.2.1 u15.2.2))],[((aD r5),(.slice u14.1 u14.2.1 u14.2.2))]]<|
 zi (.cells #[(.int .u64 t8.1)] 40) fun(r24:Nat)=>
 zu [[((aD r6),(.slice u15.1 u15.2.1 u15.2.2))],[((aD r5),(.slice u14.1 u14.2.1 u14.2.2))]]<|
 zv prog (Builtin.append_ #[138,138] 138 #[(.slice u14.1 u14.2.1 u14.2.2),(.slice (some (aD r24)) 1 1)]) .slc fun(u25:SLC)=>
 zu [[((aD r6),(.slice u15.1 u15.2.1 u15.2.2))]]<|
 zv prog (Builtin.append_ #[47,47] 47 #[(.slice u15.1 u15.2.1 u15.2.2),(.slice (some (aD r23)) 1 1)]) .slc fun(u26:SLC)=>
 stW (aD r5) (.slice u25.1 u25.2.1 u25.2.2)<|
 stW (aD r6) (.slice u26.1 u26.2.1 u26.2.2)<|N10)) fun(r12:Nat) (p13:Option Code)=>
 jb (ze prog 87 [(.pointer x0),(.int .u32 x1)] (.one (.one .bool)) fun(u27:Bool)=>
 za (!u27) (zc ((#[(.slice none 0 0),(.slice none 0 0)]:Array Value).size=2)<|
 zr (aD r1) [(.slice none 0 0),(.slice none 0 0)]<|
 zX prog (⟨.collected r12,#[]⟩::[])<|
 zl [.slc,.slc] (aD r1) fun(u28:(SLC×SLC×Unit))=>K (.tuple #[(.agg #[(.slice u28.1.1 u28.1.2.1 u28.1.2.2),(.slice u28.2.1.1 u28.2.1.2.1 u28.2.1.2.2)]),(.int .i64 (10:Int))]))<|
 ldW .slc (aD r5) fun(u29:SLC)=>
 za (((u29.2.1:Nat):Int)==(0:Int)) (zc ((#[(.slice none 0 0),(.slice none 0 0)]:Array Value).size=2)<|
 zr (aD r1) [(.slice none 0 0),(.slice none 0 0)]<|
 zX prog (⟨.collected r12,#[]⟩::[])<|
 zl [.slc,.slc] (aD r1) fun(u30:(SLC×SLC×Unit))=>K (.tuple #[(.agg #[(.slice u30.1.1 u30.1.2.1 u30.1.2.2),(.slice u30.2.1.1 u30.2.1.2.1 u30.2.1.2.2)]),(.int .i64 (10:Int))]))<|
 ldW .slc (aD r5) fun(u31:SLC)=>
 zc (0<=(0:Int)/\(0:Int)<((u31.2.1:Nat):Int))<|
 zk u31.1 fun(p32:Addr)=>
 ldW (.int .u64) (p32.add (Int.toNat (0:Int)*1)) fun(u33:Int)=>
 za (u33 !=(0:Int)) (zc ((#[(.slice none 0 0),(.slice none 0 0)]:Array Value).size=2)<|
 zr (aD r1) [(.slice none 0 0),(.slice none 0 0)]<|
 zX prog (⟨.collected r12,#[]⟩::[])<|
 zl [.slc,.slc] (aD r1) fun(u34:(SLC×SLC×Unit))=>K (.tuple #[(.agg #[(.slice u34.1.1 u34.1.2.1 u34.1.2.2),(.slice u34.2.1.1 u34.2.1.2.1 u34.2.1.2.2)]),(.int .i64 (10:Int))]))<|
 ldW .slc (aD r6) fun(u35:SLC)=>
 zc (0<=(0:Int)/\(0:Int)<((u35.2.1:Nat):Int))<|
 zk u35.1 fun(p36:Addr)=>
 ldW (.int .u32) (p36.add (Int.toNat (0:Int)*1)) fun(u37:Int)=>
 ze prog 88 [(.pointer x0),(.int .u32 u37)] (.many [(.one .str),(.one (.int .i64))]) fun(u38:ByteArray×Int×Unit)=>
 za (u38.2.1 !=(0:Int)) (zc ((#[(.slice none 0 0),(.slice none 0 0)]:Array Value).size=2)<|
 zr (aD r1) [(.slice none 0 0),(.slice none 0 0)]<|
 zX prog (⟨.collected r12,#[]⟩::[])<|
 zl [.slc,.slc] (aD r1) fun(u39:(SLC×SLC×Unit))=>K (.tuple #[(.agg #[(.slice u39.1.1 u39.1.2.1 u39.1.2.2),(.slice u39.2.1.1 u39.2.1.2.1 u39.2.1.2.2)]),(.int .i64 u38.2.1)]))<|
 ze prog 89 [(.string u38.1)] (.many [(.agg [.slc,.slc]),(.one (.int .i64))]) fun(u40:(SLC×SLC×Unit)×Int×Unit)=>
 zi (.cells #[(.slice none 0 0),(.slice none 0 0)] 30) fun(r41:Nat)=>
 zc ((#[(.slice u40.1.1.1 u40.1.1.2.1 u40.1.1.2.2),(.slice u40.1.2.1.1 u40.1.2.1.2.1 u40.1.2.1.2.2)]:Array Value).size=2)<|
 zr (aD r41) [(.slice u40.1.1.1 u40.1.1.2.1 u40.1.1.2.2),(.slice u40.1.2.1.1 u40.1.2.1.2.1 u40.1.2.1.2.2)]<|
 za (u40.2.1 !=(0:Int)) (zc ((#[(.slice none 0 0),(.slice none 0 0)]:Array Value).size=2)<|
 zr (aD r1) [(.slice none 0 0),(.slice none 0 0)]<|
 zX prog (⟨.collected r12,#[]⟩::[])<|
 zl [.slc,.slc] (aD r1) fun(u42:(SLC×SLC×Unit))=>K (.tuple #[(.agg #[(.slice u42.1.1 u42.1.2.1 u42.1.2.2),(.slice u42.2.1.1 u42.2.1.2.1 u42.2.1.2.2)]),(.int .i64 (10:Int))]))<|
 ze prog 73 [(.pointer (some (aD r41)))] (.one (.one .slc)) fun(u43:SLC)=>
 ldW .slc (aD r5) fun(u44:SLC)=>
 za (((u43.2.1:Nat):Int) !=(wrap .i64 (((u44.2.1:Nat):Int)-(1:Int)))) (zc ((#[(.slice none 0 0),(.slice none 0 0)]:Array Value).size=2)<|
 zr (aD r1) [(.slice none 0 0),(.slice none 0 0)]<|
 zX prog (⟨.collected r12,#[]⟩::[])<|
 zl [.slc,.slc] (aD r1) fun(u45:(SLC×SLC×Unit))=>K (.tuple #[(.agg #[(.slice u45.1.1 u45.1.2.1 u45.1.2.2),(.slice u45.2.1.1 u45.2.1.2.1 u45.2.1.2.2)]),(.int .i64 (10:Int))]))<|
 zL (Int×Unit) ((0:Int),()) fun(y47:Int×Unit) (I46:(Int×Unit)->WP)=>
 za (decide (y47.1<((u43.2.1:Nat):Int))) (zc (0<=y47.1/\y47.1<((u43.2.1:Nat):Int))<|
 zk u43.1 fun(p48:Addr)=>
 zl [(.int .u64),.ptr] (p48.add (Int.toNat y47.1*2)) fun(u49:(Int×Option Addr×Unit))=>
 zi (.cells #[(.int .u64 (0:Int)),(.pointer none)] 135) fun(r50:Nat)=>
 zc ((#[(.int .u64 u49.1),(.pointer u49.2.1)]:Array Value).size=2)<|
 zr (aD r50) [(.int .u64 u49.1),(.pointer u49.2.1)]<|
 zF<|
 ldW .slc (aD r5) fun(u51:SLC)=>
 zc (0<=(wrap .i64 (y47.1+(1:Int)))/\(wrap .i64 (y47.1+(1:Int)))<((u51.2.1:Nat):Int))<|
 zk u51.1 fun(p52:Addr)=>
 ldW (.int .u64) (p52.add (Int.toNat (wrap .i64 (y47.1+(1:Int)))*1)) fun(u53:Int)=>
 ldW (.int .u64) (aD r50) fun(u54:Int)=>
 za (u53 !=u54) (zc ((#[(.slice none 0 0),(.slice none 0 0)]:Array Value).size=2)<|
 zr (aD r1) [(.slice none 0 0),(.slice none 0 0)]<|
 zX prog (⟨.collected r12,#[]⟩::[])<|
 zl [.slc,.slc] (aD r1) fun(u55:(SLC×SLC×Unit))=>K (.tuple #[(.agg #[(.slice u55.1.1 u55.1.2.1 u55.1.2.2),(.slice u55.2.1.1 u55.2.1.2.1 u55.2.1.2.2)]),(.int .i64 (10:Int))]))<|
 zF<|
 ldW .ptr ((aD r50).add 1) fun(u56:Option Addr)=>
 ldW .slc (aD r6) fun(u57:SLC)=>
 zc (0<=(wrap .i64 (y47.1+(1:Int)))/\(wrap .i64 (y47.1+(1:Int)))<((u57.2.1:Nat):Int))<|
 zk u57.1 fun(p58:Addr)=>
 ldW (.int .u32) (p58.add (Int.toNat (wrap .i64 (y47.1+(1:Int)))*1)) fun(u59:Int)=>
 zk u56 fun(p60:Addr)=>
 stW p60 (.int .u32 u59)<|I46 ((wrap .i64 (y47.1+(1:Int))),()))<|
 zl [.slc,.slc] (aD r41) fun(u61:(SLC×SLC×Unit))=>
 zc ((#[(.slice u61.1.1 u61.1.2.1 u61.1.2.2),(.slice u61.2.1.1 u61.2.1.2.1 u61.2.1.2.2)]:Array Value).size=2)<|
 zr (aD r1) [(.slice u61.1.1 u61.1.2.1 u61.1.2.2),(.slice u61.2.1.1 u61.2.1.2.1 u61.2.1.2.2)]<|
 zX prog (⟨.collected r12,#[]⟩::[])<|
 zl [.slc,.slc] (aD r1) fun(u62:(SLC×SLC×Unit))=>K (.tuple #[(.agg #[(.slice u62.1.1 u62.1.2.1 u62.1.2.2),(.slice u62.2.1.1 u62.2.1.2.1 u62.2.1.2.2)]),(.int .i64 (0:Int))])) (zX prog (⟨.collected r12,#[]⟩::[])<|
 zl [.slc,.slc] (aD r1) fun(u63:(SLC×SLC×Unit))=>K (.tuple #[(.agg #[(.slice u63.1.1 u63.1.2.1 u63.1.2.2),(.slice u63.2.1.1 u63.2.1.2.1 u63.2.1.2.2)]),(.int .i64 (0:Int))])) [] p13
theorem zeV (x0:Option Addr) (x1:Int) {K:Value->WP} {w:World} (h:S43 x0 x1 K w):Calls prog 43 #[(.pointer x0),(.int .u32 x1)] w (Ret K):=cF an43 true Tryz.func43 h
def an44:Ann:=(AN (AR (.block (AN (AQ AO (AN (AQ AO AP))))) (AR (AN (.block (.loop [(18,.sh (.one (.int .i64))),(19,.sh (.agg [(.int .i64),.str]))] [] (AN (.block (AN (AQ AO AP))))))) AO)))
def S44 (x0:Option Addr) (x1:Int) (K:Value->WP):WP:=
 zi (.cells #[(.int .i64 x1)] 3) fun(r1:Nat)=>
 zi (.cells #[(.string ByteArray.empty)] 9) fun(r2:Nat)=>
 zi (.cells #[(.int .i64 (0:Int))] 34) fun(r3:Nat)=>
 za (Option.isNone x0) (stW (aD r2) (.string (ByteArray.mk #[]))<|
 stW (aD r3) (.int .i64 (1:Int))<|
 zX prog []<|
 ldW .str (aD r2) fun(u4:ByteArray)=>
 ldW (.int .i64) (aD r3) fun(u5:Int)=>K (.tuple #[(.string u4),(.int .i64 u5)]))<|
 ldW (.int .i64) (aD r1) fun(u6:Int)=>
 ze prog 90 [(.pointer x0),(.int .i64 u6)] (.one (.one .bool)) fun(u7:Bool)=>
 za (!u7) (stW (aD r2) (.string (ByteArray.mk #[]))<|
 stW (aD r3) (.int .i64 (2:Int))<|
 zX prog []<|
 ldW .str (aD r2) fun(u8:ByteArray)=>
 ldW (.int .i64) (aD r3) fun(u9:Int)=>K (.tuple #[(.string u8),(.int .i64 u9)]))<|
 ze prog 91 [(.pointer x0)] (.one (.one .any)) fun(u10:Value)=>
 ji prog u10 (Int×(Int×ByteArray×Unit)×Unit) (fun(t11:Int×(Int×ByteArray×Unit)×Unit)=>[(.int .i64 t11.1),(.agg #[(.int .i64 t11.2.1.1),(.string t11.2.1.2.1)])]) (fun(t11:Int×(Int×ByteArray×Unit)×Unit) (B12:WP->WP) (N13:WP) (Q14:Code->WP)=>
 zi (.cells #[(.int .i64 (0:Int)),(.string ByteArray.empty)] 165) fun(r17:Nat)=>
 zc ((#[(.int .i64 t11.2.1.1),(.string t11.2.1.2.1)]:Array Value).size=2)<|
 zr (aD r17) [(.int .i64 t11.2.1.1),(.string t11.2.1.2.1)]<|B12 (ldW (.int .i64) (aD r17) fun(u18:Int)=>
 ldW (.int .i64) (aD r1) fun(u19:Int)=>
 za (u18==u19) (ldW .str ((aD r17).add 1) fun(u20:ByteArray)=>
 stW (aD r2) (.string u20)<|
 stW (aD r3) (.int .i64 (0:Int))<|Q14 .ret)<|N13)) fun(r15:Nat) (p16:Option Code)=>
 jb (zF<|
 zk x0 fun(p21:Addr)=>
 ldW .slc (p21.add 2) fun(u22:SLC)=>
 ldW (.int .i64) (aD r1) fun(u23:Int)=>
 zc (0<=u23/\u23<((u22.2.1:Nat):Int))<|
 zk u22.1 fun(p24:Addr)=>
 ldW .str (p24.add (Int.toNat u23*1)) fun(u25:ByteArray)=>
 stW (aD r2) (.string u25)<|
 stW (aD r3) (.int .i64 (0:Int))<|
 zX prog (⟨.collected r15,#[]⟩::[])<|
 ldW .str (aD r2) fun(u26:ByteArray)=>
 ldW (.int .i64) (aD r3) fun(u27:Int)=>K (.tuple #[(.string u26),(.int .i64 u27)])) (zX prog (⟨.collected r15,#[]⟩::[])<|
 ldW .str (aD r2) fun(u28:ByteArray)=>
 ldW (.int .i64) (aD r3) fun(u29:Int)=>K (.tuple #[(.string u28),(.int .i64 u29)])) [] p16
theorem zod (x0:Option Addr) (x1:Int) {K:Value->WP} {w:World} (h:S44 x0 x1 K w):Calls prog 44 #[(.pointer x0),(.int .i64 x1)] w (Ret K):=cF an44 true Tryz.func44 h
def an45:Ann:=(AN (AN (AR (AN (AQ AO AP)) (AN (AN (AR (AN (AQ AO AP)) (AN (AR (AN (.block (.loop [(41,.sh (.one (.int .u64)))] [0,4,7,40,1000000] (AN (AR (AQ AP AP) (AR (.block (AN (AR (AN (AQ AO AP)) AP))) AP)))))) (AN (AN AO))))))))))
def S45 (x0:Option Addr) (x1:ByteArray) (K:Value->WP):WP:=
 zi (.cells #[(.int .u8 (0:Int)),(.slice none 0 0),(.string ByteArray.empty)] 49) fun(r1:Nat)=>
 ze prog 92 [(.string x1)] (.many [(.agg [(.int .u8),(.int .u64),.str]),(.one (.int .i64))]) fun(u2:(Int×Int×ByteArray×Unit)×Int×Unit)=>
 zi (.cells #[(.int .u8 (0:Int)),(.int .u64 (0:Int)),(.string ByteArray.empty)] 128) fun(r3:Nat)=>
 zc ((#[(.int .u8 u2.1.1),(.int .u64 u2.1.2.1),(.string u2.1.2.2.1)]:Array Value).size=3)<|
 zr (aD r3) [(.int .u8 u2.1.1),(.int .u64 u2.1.2.1),(.string u2.1.2.2.1)]<|
 za (u2.2.1 !=(0:Int)) (zl [(.int .u8),.slc,.str] (aD r1) fun(u4:(Int×SLC×ByteArray×Unit))=>
 zc ((#[(.int .u8 u4.1),(.slice u4.2.1.1 u4.2.1.2.1 u4.2.1.2.2),(.string u4.2.2.1)]:Array Value).size=3)<|
 zr (aD r1) [(.int .u8 u4.1),(.slice u4.2.1.1 u4.2.1.2.1 u4.2.1.2.2),(.string u4.2.2.1)]<|
 zl [(.int .u8),.slc,.str] (aD r1) fun(u5:(Int×SLC×ByteArray×Unit))=>K (.tuple #[(.agg #[(.int .u8 u5.1),(.slice u5.2.1.1 u5.2.1.2.1 u5.2.1.2.2),(.string u5.2.2.1)]),(.int .i64 (10:Int))]))<|
 ldW (.int .u8) (aD r3) fun(u6:Int)=>
 za (decide (u6<(3:Int))) (zl [(.int .u8),.slc,.str] (aD r1) fun(u7:(Int×SLC×ByteArray×Unit))=>
 zc ((#[(.int .u8 u7.1),(.slice u7.2.1.1 u7.2.1.2.1 u7.2.1.2.2),(.string u7.2.2.1)]:Array Value).size=3)<|
 zr (aD r1) [(.int .u8 u7.1),(.slice u7.2.1.1 u7.2.1.2.1 u7.2.1.2.2),(.string u7.2.2.1)]<|
 zl [(.int .u8),.slc,.str] (aD r1) fun(u8:(Int×SLC×ByteArray×Unit))=>K (.tuple #[(.agg #[(.int .u8 u8.1),(.slice u8.2.1.1 u8.2.1.2.1 u8.2.1.2.2),(.string u8.2.2.1)]),(.int .i64 (10:Int))]))<|
 ldW .str ((aD r3).add 2) fun(u9:ByteArray)=>
 zv prog (Go.convert 9 119 (.string u9)) .slc fun(u10:SLC)=>
 ze prog 93 [(.slice u10.1 u10.2.1 u10.2.2)] (.one (.one .ptr)) fun(u11:Option Addr)=>
 ze prog 94 [(.pointer u11),(.int .i64 (2:Int))] (.many [(.one (.int .u64)),(.one (.int .i64))]) fun(u12:Int×Int×Unit)=>
 za (u12.2.1 !=(0:Int)) (zl [(.int .u8),.slc,.str] (aD r1) fun(u13:(Int×SLC×ByteArray×Unit))=>
 zc ((#[(.int .u8 u13.1),(.slice u13.2.1.1 u13.2.1.2.1 u13.2.1.2.2),(.string u13.2.2.1)]:Array Value).size=3)<|
 zr (aD r1) [(.int .u8 u13.1),(.slice u13.2.1.1 u13.2.1.2.1 u13.2.1.2.2),(.string u13.2.2.1)]<|
 zl [(.int .u8),.slc,.str] (aD r1) fun(u14:(Int×SLC×ByteArray×Unit))=>K (.tuple #[(.agg #[(.int .u8 u14.1),(.slice u14.2.1.1 u14.2.1.2.1 u14.2.1.2.2),(.string u14.2.2.1)]),(.int .i64 (10:Int))]))<|
 ldW (.int .u8) (aD r3) fun(u15:Int)=>
 stW (aD r1) (.int .u8 u15)<|
 zL (Int×Unit) ((0:Int),()) fun(y17:Int×Unit) (I16:(Int×Unit)->WP)=>
 za (decide (y17.1<u12.1)) (ze prog 94 [(.pointer u11),(.int .i64 (4:Int))] (.many [(.one (.int .u64)),(.one (.int .i64))]) fun(u18:Int×Int×Unit)=>
 za (u18.2.1 !=(0:Int)) (zc ((#[(.int .u8 (0:Int)),(.slice none 0 0),(.string ByteArray.empty)]:Array Value).size=3)<|
 zr (aD r1) [(.int .u8 (0:Int)),(.slice none 0 0),(.string ByteArray.empty)]<|
 zl [(.int .u8),.slc,.str] (aD r1) fun(u19:(Int×SLC×ByteArray×Unit))=>K (.tuple #[(.agg #[(.int .u8 u19.1),(.slice u19.2.1.1 u19.2.1.2.1 u19.2.1.2.2),(.string u19.2.2.1)]),(.int .i64 (10:Int))]))<|
 za (decide (u18.1<(2:Int))) (zc ((#[(.int .u8 (0:Int)),(.slice none 0 0),(.string ByteArray.empty)]:Array Value).size=3)<|
 zr (aD r1) [(.int .u8 (0:Int)),(.slice none 0 0),(.string ByteArray.empty)]<|
 zl [(.int .u8),.slc,.str] (aD r1) fun(u20:(Int×SLC×ByteArray×Unit))=>K (.tuple #[(.agg #[(.int .u8 u20.1),(.slice u20.2.1.1 u20.2.1.2.1 u20.2.1.2.2),(.string u20.2.2.1)]),(.int .i64 (10:Int))]))<|
 zk x0 fun(p21:Addr)=>
 ldW (.int .i64) (((p21.add 1).add 1).add 1) fun(u22:Int)=>
 za (decide (u18.1>=(wrap .u64 u22))) (zc ((#[(.int .u8 (0:Int)),(.slice none 0 0),(.string ByteArray.empty)]:Array Value).size=3)<|
 zr (aD r1) [(.int .u8 (0:Int)),(.slice none 0 0),(.string ByteArray.empty)]<|
 zl [(.int .u8),.slc,.str] (aD r1) fun(u23:(Int×SLC×ByteArray×Unit))=>K (.tuple #[(.agg #[(.int .u8 u23.1),(.slice u23.2.1.1 u23.2.1.2.1 u23.2.1.2.2),(.string u23.2.2.1)]),(.int .i64 (10:Int))]))<|
 ldW .slc ((aD r1).add 1) fun(u24:SLC)=>
 zi (.cells #[(.int .u32 (wrap .u32 u18.1))] 39) fun(r25:Nat)=>
 zv prog (Builtin.append_ #[47,47] 47 #[(.slice u24.1 u24.2.1 u24.2.2),(.slice (some (aD r25)) 1 1)]) .slc fun(u26:SLC)=>
 stW ((aD r1).add 1) (.slice u26.1 u26.2.1 u26.2.2)<|I16 ((wrap .u64 (y17.1+(1:Int))),()))<|
 ze prog 96 [(.pointer u11)] (.one (.one (.int .i64))) fun(u27:Int)=>
 ze prog 95 [(.pointer u11),(.int .i64 u27)] (.many [(.one .slc),(.one (.int .i64))]) fun(u28:SLC×Int×Unit)=>
 zv prog (Go.convert 119 9 (.slice u28.1.1 u28.1.2.1 u28.1.2.2)) .str fun(u29:ByteArray)=>
 stW ((aD r1).add 2) (.string u29)<|
 zl [(.int .u8),.slc,.str] (aD r1) fun(u30:(Int×SLC×ByteArray×Unit))=>
 zc ((#[(.int .u8 u30.1),(.slice u30.2.1.1 u30.2.1.2.1 u30.2.1.2.2),(.string u30.2.2.1)]:Array Value).size=3)<|
 zr (aD r1) [(.int .u8 u30.1),(.slice u30.2.1.1 u30.2.1.2.1 u30.2.1.2.2),(.string u30.2.2.1)]<|
 zl [(.int .u8),.slc,.str] (aD r1) fun(u31:(Int×SLC×ByteArray×Unit))=>K (.tuple #[(.agg #[(.int .u8 u31.1),(.slice u31.2.1.1 u31.2.1.2.1 u31.2.1.2.2),(.string u31.2.2.1)]),(.int .i64 u28.2.1)])
theorem zoe (x0:Option Addr) (x1:ByteArray) {K:Value->WP} {w:World} (h:S45 x0 x1 K w):Calls prog 45 #[(.pointer x0),(.string x1)] w (Ret K):=cF an45 false Tryz.func45 h
def an46:Ann:=(AN (AN (AR (AN (AQ AO AP)) (AN (AN (AN AO))))))
def S46 (a0:Option Addr) (n0 c0:Nat) (x1:Int) (x2:Int) (K:Value->WP):WP:=
 zc (0<=x1/\x1<=x2/\x2<=((n0:Nat):Int)/\((n0:Nat):Int)<=((c0:Nat):Int))<|
 za (x1==x2) (K (.slice a0 n0 c0))<|
 zF<|
 zc (0<=x1/\x1<=((c0:Nat):Int))<|
 zc (0<=x2/\x2<=((n0:Nat):Int))<|
 zv prog (Builtin.append_ #[28,28] 28 #[(.slice (zh a0 0 c0 2) (Int.toNat x1) c0),(.slice (zh a0 (Int.toNat x2) c0 2) (n0-(Int.toNat x2)) (c0-(Int.toNat x2)))]) .slc fun(u1:SLC)=>
 zc (0<=((u1.2.1:Nat):Int)/\((u1.2.1:Nat):Int)<=((n0:Nat):Int)/\((n0:Nat):Int)<=((u1.2.2:Nat):Int))<|
 zv prog (Builtin.clear_ #[28] 0 #[(.slice (zh u1.1 (Int.toNat ((u1.2.1:Nat):Int)) u1.2.2 2) ((Int.toNat ((n0:Nat):Int))-(Int.toNat ((u1.2.1:Nat):Int))) (u1.2.2-(Int.toNat ((u1.2.1:Nat):Int))))]) .any fun(u2:Value)=>K (.slice u1.1 u1.2.1 u1.2.2)
theorem zof (a0:Option Addr) (n0 c0:Nat) (x1:Int) (x2:Int) {K:Value->WP} {w:World} (h:S46 a0 n0 c0 x1 x2 K w):Calls prog 46 #[(.slice a0 n0 c0),(.int .i64 x1),(.int .i64 x2)] w (Ret K):=cF an46 false Tryz.func46 h
def an50:Ann:=(AN (AN (AR (AN (.block (.loop [(5,.sh (.one .slc)),(10,.sh (.one (.int .i64)))] [1,8,9,1000000] (AN (AR (AQ AP AP) (AR (.block AO) AP)))))) AO)))
def S50 (a0:Option Addr) (n0 c0:Nat) (x1:Value) (K:Value->WP):WP:=
 zL (SLC×Int×Unit) ((none,0,0),(0:Int),()) fun(y2:SLC×Int×Unit) (I1:(SLC×Int×Unit)->WP)=>
 za (decide (y2.2.1<((n0:Nat):Int))) (zc (0<=y2.2.1/\y2.2.1<((n0:Nat):Int))<|
 zk a0 fun(p3:Addr)=>
 zl [.str,(.int .u32)] (p3.add (Int.toNat y2.2.1*2)) fun(u4:(ByteArray×Int×Unit))=>
 zi (.cells #[(.string ByteArray.empty),(.int .u32 (0:Int))] 64) fun(r5:Nat)=>
 zc ((#[(.string u4.1),(.int .u32 u4.2.1)]:Array Value).size=2)<|
 zr (aD r5) [(.string u4.1),(.int .u32 u4.2.1)]<|
 zl [.str,(.int .u32)] (aD r5) fun(u6:(ByteArray×Int×Unit))=>
 yG prog x1 [(.agg #[(.string u6.1),(.int .u32 u6.2.1)])] (.one (.one .str)) fun(u7:ByteArray)=>
 zi (.cells #[(.string u7)] 9) fun(r8:Nat)=>
 zv prog (Builtin.append_ #[22,22] 22 #[(.slice y2.1.1 y2.1.2.1 y2.1.2.2),(.slice (some (aD r8)) 1 1)]) .slc fun(u9:SLC)=>I1 ((u9.1,u9.2.1,u9.2.2),(wrap .i64 (y2.2.1+(1:Int))),()))<|K (.slice y2.1.1 y2.1.2.1 y2.1.2.2)
theorem zog (a0:Option Addr) (n0 c0:Nat) (x1:Value) {K:Value->WP} {w:World} (h:S50 a0 n0 c0 x1 K w):Calls prog 50 #[(.slice a0 n0 c0),x1] w (Ret K):=cF an50 false Tryz.func50 h
def an51:Ann:=(AN AO)
def S51 (Aa:ByteArray) (Af:Int) (K:Value->WP):WP:=
 zi (.cells #[(.string Aa),(.int .u32 Af)] 64) fun(r1:Nat)=>
 ldW .str (aD r1) fun(u2:ByteArray)=>K (.string u2)
theorem zoh (Aa:ByteArray) (Af:Int) {K:Value->WP} {w:World} (h:S51 Aa Af K w):Calls prog 51 #[(.agg #[(.string Aa),(.int .u32 Af)])] w (Ret K):=cF an51 false Tryz.func51 h
def an52:Ann:=(AN AO)
def S52 (Aa:ByteArray) (Af:Int) (a1:Addr) (K:Value->WP):WP:=
 zi (.cells #[(.string Aa),(.int .u32 Af)] 64) fun(r1:Nat)=>
 ldW .str (aD r1) fun(u2:ByteArray)=>
 ldW .str a1 fun(u3:ByteArray)=>K (.bool (u2.toList==u3.toList))
theorem zoi (Aa:ByteArray) (Af:Int) (a1:Addr) {K:Value->WP} {w:World} (h:S52 Aa Af a1 K w):Calls prog 52 #[(.agg #[(.string Aa),(.int .u32 Af)]),(.pointer (some a1))] w (Ret K):=cF an52 false Tryz.func52 h
def an53:Ann:=(AN (AR (AN (AQ AO AP)) AO))
def S53 (Aa:Int) (Af:Int) (K:Value->WP):WP:=
 zi (.cells #[(.int .i64 Aa),(.int .i64 Af)] 69) fun(r1:Nat)=>
 ldW (.int .i64) (aD r1) fun(u2:Int)=>
 za (decide (u2<(128:Int))) (K (.int .i64 (2:Int)))<|
 ldW (.int .i64) (aD r1) fun(u3:Int)=>
 za (decide (u3>(4096:Int))) (K (.int .i64 (2:Int)))<|
 ldW (.int .i64) (aD r1) fun(u4:Int)=>
 za ((Int.tmod u4 (64:Int)) !=(0:Int)) (K (.int .i64 (2:Int)))<|
 ldW (.int .i64) ((aD r1).add 1) fun(u5:Int)=>
 za (decide (u5<(8:Int))) (K (.int .i64 (2:Int)))<|
 ldW (.int .i64) ((aD r1).add 1) fun(u6:Int)=>
 za (decide (u6>(4096:Int))) (K (.int .i64 (2:Int)))<|K (.int .i64 (0:Int))
theorem zoj (Aa:Int) (Af:Int) {K:Value->WP} {w:World} (h:S53 Aa Af K w):Calls prog 53 #[(.agg #[(.int .i64 Aa),(.int .i64 Af)])] w (Ret K):=cF an53 false Tryz.func53 h
def an54:Ann:=(AN (.join [] [0,1,1000000] (AN (AQ AP AP)) (AN (.join [] [0,6,1000000] (AN (AQ AP AP)) (AN (AN (AR (.block (.loop [(8,.sh (.one (.int .i64)))] [7,1000000] (AR (AN (AQ AP AP)) (.block AP)))) AO)))))))
def S54 (a0:Option Addr) (n0 c0:Nat) (x1:Int) (K:Value->WP):WP:=
 yF (Unit) (fun(J1:(Unit)->WP)=>
 za (decide (x1<(0:Int))) (zm)<|J1 ()) fun(y2:Unit)=>
 ze prog 98 [(.int .u64 (wrap .u64 ((n0:Nat):Int))),(.int .u64 (wrap .u64 x1))] (.many [(.one (.int .u64)),(.one (.int .u64))]) fun(u3:Int×Int×Unit)=>
 yF (Unit) (fun(J4:(Unit)->WP)=>
 za (decide (u3.1>(0:Int))) (zm)<|
 za (decide (u3.2.1>(9223372036854775807:Int))) (zm)<|J4 ()) fun(y5:Unit)=>
 zv prog (Instr.makeSlice 22 (.int .i64 (wrap .i64 u3.2.1)) (.int .i64 (wrap .i64 u3.2.1))) .slc fun(u6:SLC)=>
 zv prog (Builtin.copy_ #[22,22] 3 #[(.slice u6.1 u6.2.1 u6.2.2),(.slice a0 n0 c0)]) (.int .i64) fun(u7:Int)=>
 zL (Int×Unit) (u7,()) fun(y9:Int×Unit) (I8:(Int×Unit)->WP)=>
 za (decide (y9.1<((u6.2.1:Nat):Int))) (zF<|
 zc (0<=y9.1/\y9.1<=((u6.2.1:Nat):Int))<|
 zc (0<=y9.1/\y9.1<=((u6.2.2:Nat):Int))<|
 zv prog (Builtin.copy_ #[22,22] 3 #[(.slice (zh u6.1 (Int.toNat y9.1) u6.2.2 1) (u6.2.1-(Int.toNat y9.1)) (u6.2.2-(Int.toNat y9.1))),(.slice (zh u6.1 0 u6.2.2 1) (Int.toNat y9.1) u6.2.2)]) (.int .i64) fun(u10:Int)=>I8 ((wrap .i64 (y9.1+u10)),()))<|K (.slice u6.1 u6.2.1 u6.2.2)
theorem zok (a0:Option Addr) (n0 c0:Nat) (x1:Int) {K:Value->WP} {w:World} (h:S54 a0 n0 c0 x1 K w):Calls prog 54 #[(.slice a0 n0 c0),(.int .i64 x1)] w (Ret K):=cF an54 false Tryz.func54 h
def an56:Ann:=(AN (AR (AN (AQ AO AP)) (AN (AN AO))))
def S56 (Aa:Int) (Af:Int) (K:Value->WP):WP:=
 zi (.cells #[(.int .i64 Aa),(.int .i64 Af)] 69) fun(r1:Nat)=>
 zl [(.int .i64),(.int .i64)] (aD r1) fun(u2:(Int×Int×Unit))=>
 ze prog 53 [(.agg #[(.int .i64 u2.1),(.int .i64 u2.2.1)])] (.one (.one (.int .i64))) fun(u3:Int)=>
 za (u3 !=(0:Int)) (K (.tuple #[(.pointer none),(.int .i64 (2:Int))]))<|
 zF<|
 zl [(.int .i64),(.int .i64)] (aD r1) fun(u4:(Int×Int×Unit))=>
 ldW (.int .i64) ((aD r1).add 1) fun(u5:Int)=>
 zv prog (Instr.makeSlice 146 (.int .i64 u5) (.int .i64 u5)) .slc fun(u6:SLC)=>
 zu [[((aD r1).add 0,(.int .i64 u4.1)),((aD r1).add 1,(.int .i64 u4.2.1))]]<|
 zi (.cells #[(.int .i64 u4.1),(.int .i64 u4.2.1),(.slice u6.1 u6.2.1 u6.2.2)] 148) fun(r7:Nat)=>
 zF<|
 zk (some (aD r7)) fun(p8:Addr)=>
 ldW .slc (p8.add 2) fun(u9:SLC)=>
 zk (some (aD r7)) fun(p10:Addr)=>
 ldW .slc (p10.add 2) fun(u11:SLC)=>
 zc (0<=(0:Int)/\(0:Int)<((u9.2.1:Nat):Int))<|
 zk u9.1 fun(p12:Addr)=>
 stW (p12.add (Int.toNat (0:Int)*1)) (.int .u16 (1:Int))<|
 zc (0<=(1:Int)/\(1:Int)<((u11.2.1:Nat):Int))<|
 zk u11.1 fun(p13:Addr)=>
 stW (p13.add (Int.toNat (1:Int)*1)) (.int .u16 (1:Int))<|K (.tuple #[(.pointer (some (aD r7))),(.int .i64 (0:Int))])
theorem zol (Aa:Int) (Af:Int) {K:Value->WP} {w:World} (h:S56 Aa Af K w):Calls prog 56 #[(.agg #[(.int .i64 Aa),(.int .i64 Af)])] w (Ret K):=cF an56 false Tryz.func56 h
def an57:Ann:=(AN (AR (AN (AQ AO AP)) AO))
def S57 (x0:Option Addr) (K:Value->WP):WP:=
 zi (.cells #[(.int .i64 (0:Int)),(.int .i64 (0:Int))] 69) fun(r1:Nat)=>
 za (Option.isNone x0) (zc ((#[(.int .i64 (0:Int)),(.int .i64 (0:Int))]:Array Value).size=2)<|
 zr (aD r1) [(.int .i64 (0:Int)),(.int .i64 (0:Int))]<|
 zl [(.int .i64),(.int .i64)] (aD r1) fun(u2:(Int×Int×Unit))=>K (.agg #[(.int .i64 u2.1),(.int .i64 u2.2.1)]))<|
 zk x0 fun(p3:Addr)=>
 zl [(.int .i64),(.int .i64)] p3 fun(u4:(Int×Int×Unit))=>
 zc ((#[(.int .i64 u4.1),(.int .i64 u4.2.1)]:Array Value).size=2)<|
 zr (aD r1) [(.int .i64 u4.1),(.int .i64 u4.2.1)]<|
 zl [(.int .i64),(.int .i64)] (aD r1) fun(u5:(Int×Int×Unit))=>K (.agg #[(.int .i64 u5.1),(.int .i64 u5.2.1)])
theorem zom (x0:Option Addr) {K:Value->WP} {w:World} (h:S57 x0 K w):Calls prog 57 #[(.pointer x0)] w (Ret K):=cF an57 false Tryz.func57 h
def an58:Ann:=(AN (AR (AN (AQ AO AP)) (AN AO)))
def S58 (Aa:Int) (Af:Int) (K:Value->WP):WP:=
 zi (.cells #[(.int .i64 Aa),(.int .i64 Af)] 69) fun(r1:Nat)=>
 zl [(.int .i64),(.int .i64)] (aD r1) fun(u2:(Int×Int×Unit))=>
 ze prog 53 [(.agg #[(.int .i64 u2.1),(.int .i64 u2.2.1)])] (.one (.one (.int .i64))) fun(u3:Int)=>
 za (u3 !=(0:Int)) (K (.int .i64 (0:Int)))<|
 ldW (.int .i64) (aD r1) fun(u4:Int)=>
 ze prog 104 [(.int .i64 u4)] (.one (.one (.int .i64))) fun(u5:Int)=>
 ldW (.int .i64) ((aD r1).add 1) fun(u6:Int)=>
 zc (u5≠0)<|K (.int .i64 (wrap .i64 (Int.tdiv (wrap .i64 ((wrap .i64 ((wrap .i64 ((2:Int)*u6))+u5))-(1:Int))) u5)))
theorem ziH (Aa:Int) (Af:Int) {K:Value->WP} {w:World} (h:S58 Aa Af K w):Calls prog 58 #[(.agg #[(.int .i64 Aa),(.int .i64 Af)])] w (Ret K):=cF an58 false Tryz.func58 h
def an59:Ann:=(AN (.join [] [0,1,1000000] (.block (AN (AQ AO (AN (AQ AO AP))))) (AR (AN (.block (.loop [(30,.sh (.one (.int .i64)))] [0,1,28,29,1000000] (AN (AR (AQ AP AP) (AR (.block (AN (AN (AQ (AN AO) AP)))) AP)))))) AO)))
def S59 (x0:Option Addr) (x1:Option Addr) (K:Value->WP):WP:=
 yF (Unit) (fun(J1:(Unit)->WP)=>
 za (Option.isNone x0) (K (.tuple #[(.int .u32 (0:Int)),(.int .i64 (1:Int))]))<|
 zF<|
 za (!(Option.isNone x1)) (zk x1 fun(p3:Addr)=>
 zl [(.int .i64),(.int .i64)] p3 fun(u4:(Int×Int×Unit))=>
 zk x0 fun(p5:Addr)=>
 zl [(.int .i64),(.int .i64)] p5 fun(u6:(Int×Int×Unit))=>
 eqW prog (eqS .neq 69 (.tmp 18) (.tmp 22) (.agg #[(.int .i64 u4.1),(.int .i64 u4.2.1)]) (.agg #[(.int .i64 u6.1),(.int .i64 u6.2.1)])) fun(b7:Bool)=>
 za b7 (K (.tuple #[(.int .u32 (0:Int)),(.int .i64 (2:Int))]))<|J1 ())<|J1 ()) fun(y2:Unit)=>
 zk x0 fun(p8:Addr)=>
 ldW .slc (p8.add 2) fun(u9:SLC)=>
 zL (Int×Unit) ((0:Int),()) fun(y11:Int×Unit) (I10:(Int×Unit)->WP)=>
 za (decide (y11.1<((u9.2.1:Nat):Int))) (zc (0<=y11.1/\y11.1<((u9.2.1:Nat):Int))<|
 zk u9.1 fun(p12:Addr)=>
 ldW (.int .u16) (p12.add (Int.toNat y11.1*1)) fun(u13:Int)=>
 za (u13==(0:Int)) (ze prog 40 [(.pointer x1),(.int .u32 (wrap .u32 y11.1))] (.one (.one (.int .i64))) fun(u14:Int)=>
 za (u14==(0:Int)) (zk x0 fun(p15:Addr)=>
 ldW .slc (p15.add 2) fun(u16:SLC)=>
 zc (0<=y11.1/\y11.1<((u16.2.1:Nat):Int))<|
 zk u16.1 fun(p17:Addr)=>
 stW (p17.add (Int.toNat y11.1*1)) (.int .u16 (1:Int))<|K (.tuple #[(.int .u32 (wrap .u32 y11.1)),(.int .i64 (0:Int))]))<|I10 ((wrap .i64 (y11.1+(1:Int))),()))<|I10 ((wrap .i64 (y11.1+(1:Int))),()))<|K (.tuple #[(.int .u32 (0:Int)),(.int .i64 (9:Int))])
theorem zon (x0:Option Addr) (x1:Option Addr) {K:Value->WP} {w:World} (h:S59 x0 x1 K w):Calls prog 59 #[(.pointer x0),(.pointer x1)] w (Ret K):=cF an59 false Tryz.func59 h
def an60:Ann:=(AN (AN (.join [] [1,3,1000000] (AN (AQ AO AP)) (AR (AN (.block (.loop [(40,.sh (.one (.int .i64)))] [1,3,38,39,1000000] (AN (AR (AQ AP AP) (AR (.block (AN (AN (AQ AO AP)))) AP)))))) (AR (AN (AQ AO AP)) AO)))))
def S60 (Aa:Int) (Af:Int) (Aq:Int) (Ay:Int) (AB:Option Addr) (AC AD:Nat) (K:Value->WP):WP:=
 zi (.cells #[(.int .u64 Aa),(.int .i64 Af),(.int .i64 Aq),(.int .u32 Ay),(.slice AB AC AD)] 87) fun(r1:Nat)=>
 yF (Unit) (fun(J2:(Unit)->WP)=>
 zF<|
 zl [(.int .i64),(.int .i64)] ((aD r1).add 1) fun(u4:(Int×Int×Unit))=>
 ze prog 53 [(.agg #[(.int .i64 u4.1),(.int .i64 u4.2.1)])] (.one (.one (.int .i64))) fun(u5:Int)=>
 za (u5 !=(0:Int)) (K (.int .i64 (2:Int)))<|
 ldW (.int .u64) (aD r1) fun(u6:Int)=>
 za (u6==(0:Int)) (K (.int .i64 (2:Int)))<|
 ldW (.int .u32) ((aD r1).add 3) fun(u7:Int)=>
 za (u7 !=(0:Int)) (ldW (.int .u32) ((aD r1).add 3) fun(u8:Int)=>
 yG prog (.func (.func 105) #[] #[(.pointer (some (aD r1)))]) [(.int .u32 u8)] (.one (.one .bool)) fun(u9:Bool)=>
 za (!u9) (K (.int .i64 (2:Int)))<|
 ldW .slc ((aD r1).add 4) fun(u10:SLC)=>
 zl [(.int .i64),(.int .i64)] ((aD r1).add 1) fun(u11:(Int×Int×Unit))=>
 ze prog 58 [(.agg #[(.int .i64 u11.1),(.int .i64 u11.2.1)])] (.one (.one (.int .i64))) fun(u12:Int)=>
 zu [[(((aD r1).add 4),(.slice u10.1 u10.2.1 u10.2.2))]]<|
 za (((u10.2.1:Nat):Int) !=u12) (K (.int .i64 (2:Int)))<|J2 ())<|
 ldW .slc ((aD r1).add 4) fun(u13:SLC)=>
 zl [(.int .i64),(.int .i64)] ((aD r1).add 1) fun(u14:(Int×Int×Unit))=>
 ze prog 58 [(.agg #[(.int .i64 u14.1),(.int .i64 u14.2.1)])] (.one (.one (.int .i64))) fun(u15:Int)=>
 zu [[(((aD r1).add 4),(.slice u13.1 u13.2.1 u13.2.2))]]<|
 za (((u13.2.1:Nat):Int) !=u15) (K (.int .i64 (2:Int)))<|J2 ()) fun(y3:Unit)=>
 ldW .slc ((aD r1).add 4) fun(u16:SLC)=>
 zL (Int×Unit) ((0:Int),()) fun(y18:Int×Unit) (I17:(Int×Unit)->WP)=>
 za (decide (y18.1<((u16.2.1:Nat):Int))) (zc (0<=y18.1/\y18.1<((u16.2.1:Nat):Int))<|
 zk u16.1 fun(p19:Addr)=>
 ldW (.int .u32) (p19.add (Int.toNat y18.1*1)) fun(u20:Int)=>
 yG prog (.func (.func 105) #[] #[(.pointer (some (aD r1)))]) [(.int .u32 u20)] (.one (.one .bool)) fun(u21:Bool)=>
 za (!u21) (K (.int .i64 (2:Int)))<|
 ldW (.int .u32) ((aD r1).add 3) fun(u22:Int)=>
 za (u20==u22) (K (.int .i64 (2:Int)))<|
 ldW .slc ((aD r1).add 4) fun(u23:SLC)=>
 zc (0<=y18.1/\y18.1<=((u23.2.2:Nat):Int))<|
 ze prog 83 [(.slice (zh u23.1 0 u23.2.2 1) (Int.toNat y18.1) u23.2.2),(.int .u32 u20)] (.one (.one .bool)) fun(u24:Bool)=>
 za u24 (K (.int .i64 (2:Int)))<|I17 ((wrap .i64 (y18.1+(1:Int))),()))<|
 zF<|
 ldW .slc ((aD r1).add 4) fun(u25:SLC)=>
 ldW (.int .i64) ((aD r1).add 1) fun(u26:Int)=>
 ze prog 104 [(.int .i64 u26)] (.one (.one (.int .i64))) fun(u27:Int)=>
 zu [[(((aD r1).add 4),(.slice u25.1 u25.2.1 u25.2.2))]]<|
 za (decide ((wrap .i64 ((14:Int)+(wrap .i64 ((4:Int)*((u25.2.1:Nat):Int)))))>u27)) (K (.int .i64 (3:Int)))<|K (.int .i64 (0:Int))
theorem zoo (Aa:Int) (Af:Int) (Aq:Int) (Ay:Int) (AB:Option Addr) (AC AD:Nat) {K:Value->WP} {w:World} (h:S60 Aa Af Aq Ay AB AC AD K w):Calls prog 60 #[(.agg #[(.int .u64 Aa),(.int .i64 Af),(.int .i64 Aq),(.int .u32 Ay),(.slice AB AC AD)])] w (Ret K):=cF an60 false Tryz.func60 h
def an61:Ann:=(AN (AR (.block (AN (AQ AO (AN (AQ AO (AN (AQ AO AP))))))) (AN AO)))
def S61 (x0:Option Addr) (x1:Int) (x2:ByteArray) (K:Value->WP):WP:=
 za (Option.isNone x0) (K (.int .i64 (1:Int)))<|
 ze prog 90 [(.pointer x0),(.int .i64 x1)] (.one (.one .bool)) fun(u1:Bool)=>
 za (!u1) (K (.int .i64 (2:Int)))<|
 zk x0 fun(p2:Addr)=>
 ldW (.int .i64) p2 fun(u3:Int)=>
 za (((x2.size:Nat):Int) !=u3) (K (.int .i64 (2:Int)))<|
 ze prog 106 [(.pointer x0)] (.one (.one .bool)) fun(u4:Bool)=>
 za (!u4) (K (.int .i64 (8:Int)))<|
 zk x0 fun(p5:Addr)=>
 ldW .slc (p5.add 3) fun(u6:SLC)=>
 zi (.cells #[(.int .i64 x1),(.string x2)] 165) fun(r7:Nat)=>
 zv prog (Builtin.append_ #[109,109] 109 #[(.slice u6.1 u6.2.1 u6.2.2),(.slice (some (aD r7)) 1 1)]) .slc fun(u8:SLC)=>
 zk x0 fun(p9:Addr)=>
 stW (p9.add 3) (.slice u8.1 u8.2.1 u8.2.2)<|K (.int .i64 (0:Int))
theorem zop (x0:Option Addr) (x1:Int) (x2:ByteArray) {K:Value->WP} {w:World} (h:S61 x0 x1 x2 K w):Calls prog 61 #[(.pointer x0),(.int .i64 x1),(.string x2)] w (Ret K):=cF an61 false Tryz.func61 h
def an62:Ann:=(AN (AR (AN (.block (.loop [(19,.sh (.one (.int .i64)))] [0,3,6,17,18,1000000] (AN (AR (AQ AP AP) (AR (.block (AN (AN (AN (AQ AO AP))))) AP)))))) (AR (AN (AN (AQ AO AP))) (AN (AR (AN (AQ AO AP)) (AR (AN (AN (AQ AO AP))) AO))))))
def S62 (x0:Option Addr) (x1:Option Addr) (AE:Int) (AF:Int) (AG:Int) (AI:Int) (AJ:Option Addr) (AK AL:Nat) (x3:Int) (K:Value->WP):WP:=
 zi (.cells #[(.int .u64 AE),(.int .i64 AF),(.int .i64 AG),(.int .u32 AI),(.slice AJ AK AL)] 87) fun(r1:Nat)=>
 ze prog 107 [(.pointer x1)] (.one (.one .slc)) fun(u2:SLC)=>
 zL (Int×Unit) ((0:Int),()) fun(y4:Int×Unit) (I3:(Int×Unit)->WP)=>
 za (decide (y4.1<((u2.2.1:Nat):Int))) (zc (0<=y4.1/\y4.1<((u2.2.1:Nat):Int))<|
 zk u2.1 fun(p5:Addr)=>
 ldW .str (p5.add (Int.toNat y4.1*1)) fun(u6:ByteArray)=>
 zF<|
 ldW .slc ((aD r1).add 4) fun(u7:SLC)=>
 zc (0<=y4.1/\y4.1<((u7.2.1:Nat):Int))<|
 zk u7.1 fun(p8:Addr)=>
 ldW (.int .u32) (p8.add (Int.toNat y4.1*1)) fun(u9:Int)=>
 ldW (.int .u64) (aD r1) fun(u10:Int)=>
 ze prog 71 [(.pointer x0),(.int .u32 u9),(.agg #[(.int .u8 (2:Int)),(.int .u64 u10),(.string u6)])] (.one (.one (.int .i64))) fun(u11:Int)=>
 za (u11 !=(0:Int)) (K (.int .i64 u11))<|I3 ((wrap .i64 (y4.1+(1:Int))),()))<|
 ze prog 108 [(.pointer x0)] (.one (.one (.int .i64))) fun(u12:Int)=>
 za (u12 !=(0:Int)) (K (.int .i64 u12))<|
 zl [(.int .u64),(.int .i64),(.int .i64),(.int .u32),.slc] (aD r1) fun(u13:(Int×Int×Int×Int×SLC×Unit))=>
 ze prog 109 [(.agg #[(.int .u64 u13.1),(.int .i64 u13.2.1),(.int .i64 u13.2.2.1),(.int .u32 u13.2.2.2.1),(.slice u13.2.2.2.2.1.1 u13.2.2.2.2.1.2.1 u13.2.2.2.2.1.2.2)])] (.many [(.one .str),(.one (.int .i64))]) fun(u14:ByteArray×Int×Unit)=>
 za (u14.2.1 !=(0:Int)) (K (.int .i64 u14.2.1))<|
 ze prog 61 [(.pointer x0),(.int .i64 x3),(.string u14.1)] (.one (.one (.int .i64))) fun(u15:Int)=>
 za (u15 !=(0:Int)) (K (.int .i64 u15))<|
 ze prog 108 [(.pointer x0)] (.one (.one (.int .i64))) fun(u16:Int)=>K (.int .i64 u16)
theorem zoq (x0:Option Addr) (x1:Option Addr) (AE:Int) (AF:Int) (AG:Int) (AI:Int) (AJ:Option Addr) (AK AL:Nat) (x3:Int) {K:Value->WP} {w:World} (h:S62 x0 x1 AE AF AG AI AJ AK AL x3 K w):Calls prog 62 #[(.pointer x0),(.pointer x1),(.agg #[(.int .u64 AE),(.int .i64 AF),(.int .i64 AG),(.int .u32 AI),(.slice AJ AK AL)]),(.int .i64 x3)] w (Ret K):=cF an62 false Tryz.func62 h
def an63:Ann:=(AN (AR (AN (AQ AO AP)) AO))
def S63 (x0:Option Addr) (K:Value->WP):WP:=
 za (Option.isNone x0) (K (.pointer none))<|
 zF<|
 zk x0 fun(p1:Addr)=>
 zl [(.int .i64),(.int .i64)] p1 fun(u2:(Int×Int×Unit))=>
 zk x0 fun(p3:Addr)=>
 ldW .slc (p3.add 2) fun(u4:SLC)=>
 ze prog 110 [(.slice u4.1 u4.2.1 u4.2.2)] (.one (.one .slc)) fun(u5:SLC)=>
 zu [[(p1.add 0,(.int .i64 u2.1)),(p1.add 1,(.int .i64 u2.2.1))]]<|
 zi (.cells #[(.int .i64 u2.1),(.int .i64 u2.2.1),(.slice u5.1 u5.2.1 u5.2.2)] 148) fun(r6:Nat)=>K (.pointer (some (aD r6)))
theorem zor (x0:Option Addr) {K:Value->WP} {w:World} (h:S63 x0 K w):Calls prog 63 #[(.pointer x0)] w (Ret K):=cF an63 false Tryz.func63 h
def an64:Ann:=(AN (.block (.loop [(3,.sh (.one (.int .u32)))] [0,1,1000000] (AR (AN (AQ AP AP)) (AR (.block (AN (AQ AP AP))) AP)))))
def S64 (x0:Value) (a1:Addr) (K:Value->WP):WP:=
 zL (Int×Unit) ((2:Int),()) fun(y2:Int×Unit) (I1:(Int×Unit)->WP)=>
 ldW .ptr a1 fun(u3:Option Addr)=>
 zk u3 fun(p4:Addr)=>
 ldW (.int .i64) (((p4.add 1).add 1).add 1) fun(u5:Int)=>
 za (decide ((wrap .i64 y2.1)<u5)) (zF<|
 ldW .ptr a1 fun(u6:Option Addr)=>
 zk u6 fun(p7:Addr)=>
 ldW .ptr (p7.add 8) fun(u8:Option Addr)=>
 ldW .ptr a1 fun(u9:Option Addr)=>
 zk u9 fun(p10:Addr)=>
 ldW .ptr (p10.add 7) fun(u11:Option Addr)=>
 ldW .ptr a1 fun(u12:Option Addr)=>
 zk u12 fun(p13:Addr)=>
 ldW .ptr (p13.add 9) fun(u14:Option Addr)=>
 ze prog 40 [(.pointer u8),(.int .u32 y2.1)] (.one (.one (.int .i64))) fun(u15:Int)=>
 zu [[((p13.add 9),(.pointer u14))],[(a1,(.pointer u12))],[((p10.add 7),(.pointer u11))],[(a1,(.pointer u9))]]<|
 ze prog 40 [(.pointer u11),(.int .u32 y2.1)] (.one (.one (.int .i64))) fun(u16:Int)=>
 zu [[((p13.add 9),(.pointer u14))],[(a1,(.pointer u12))]]<|
 ze prog 40 [(.pointer u14),(.int .u32 y2.1)] (.one (.one (.int .i64))) fun(u17:Int)=>
 za ((wrap .i64 ((wrap .i64 (u15+u16))+u17))==(0:Int)) (yG prog x0 [(.int .u32 y2.1)] (.one (.one .bool)) fun(u18:Bool)=>
 za (!u18) (K (.tuple #[]))<|I1 ((wrap .u32 (y2.1+(1:Int))),()))<|I1 ((wrap .u32 (y2.1+(1:Int))),()))<|K (.tuple #[])
theorem zos (x0:Value) (a1:Addr) {K:Value->WP} {w:World} (h:S64 x0 a1 K w):Calls prog 64 #[x0,(.pointer (some a1))] w (Ret K):=cF an64 false Tryz.func64 h
def an65:Ann:=(AN AO)
def S65 (a0:Option Addr) (n0 c0:Nat) (x1:Value) (K:Value->WP):WP:=
 ze prog 111 [(.slice a0 n0 c0),x1] (.one (.one (.int .i64))) fun(u1:Int)=>K (.bool (decide (u1>=(0:Int))))
theorem zot (a0:Option Addr) (n0 c0:Nat) (x1:Value) {K:Value->WP} {w:World} (h:S65 a0 n0 c0 x1 K w):Calls prog 65 #[(.slice a0 n0 c0),x1] w (Ret K):=cF an65 false Tryz.func65 h
def an66:Ann:=(AN AO)
def S66 (x0:Int) (a1:Addr) (K:Value->WP):WP:=
 ldW .ptr a1 fun(u1:Option Addr)=>
 ze prog 39 [(.pointer u1),(.int .u32 x0)] (.one (.one .bool)) fun(u2:Bool)=>K (.bool (!u2))
theorem zou (x0:Int) (a1:Addr) {K:Value->WP} {w:World} (h:S66 x0 a1 K w):Calls prog 66 #[(.int .u32 x0),(.pointer (some a1))] w (Ret K):=cF an66 false Tryz.func66 h
def an67:Ann:=(AN AO)
def S67 (x0:Int) (a1:Addr) (K:Value->WP):WP:=
 ldW .ptr a1 fun(u1:Option Addr)=>
 zk u1 fun(p2:Addr)=>
 ldW .ptr (p2.add 8) fun(u3:Option Addr)=>
 ze prog 40 [(.pointer u3),(.int .u32 x0)] (.one (.one (.int .i64))) fun(u4:Int)=>K (.bool (u4==(0:Int)))
theorem zov (x0:Int) (a1:Addr) {K:Value->WP} {w:World} (h:S67 x0 a1 K w):Calls prog 67 #[(.int .u32 x0),(.pointer (some a1))] w (Ret K):=cF an67 false Tryz.func67 h
def an68:Ann:=(AN (AR (AN (AQ AO AP)) (AN (AR (AN (AQ AO AP)) AO))))
def S68 (x0:Option Addr) (x1:Int) (K:Value->WP):WP:=
 za (Option.isNone x0) (K (.int .i64 (0:Int)))<|
 zk x0 fun(p1:Addr)=>
 ldW (.int .i64) ((p1.add 1).add 1) fun(u2:Int)=>
 ze prog 104 [(.int .i64 u2)] (.one (.one (.int .i64))) fun(u3:Int)=>
 za (decide (x1<(0:Int))) (K (.int .i64 (0:Int)))<|
 za (decide (x1>(wrap .i64 (Int.tdiv (wrap .i64 (u3-(2:Int))) (4:Int))))) (K (.int .i64 (0:Int)))<|K (.int .i64 (wrap .i64 ((wrap .i64 (u3-(2:Int)))-(wrap .i64 ((4:Int)*x1)))))
theorem zow (x0:Option Addr) (x1:Int) {K:Value->WP} {w:World} (h:S68 x0 x1 K w):Calls prog 68 #[(.pointer x0),(.int .i64 x1)] w (Ret K):=cF an68 false Tryz.func68 h
def an69:Ann:=(AN (AN (AN (.block (.loop [] [1,4,1000000] (.block (AN (AR (AN (AQ AO AP)) AP))))))))
def S69 (x0:Option Addr) (K:Value->WP):WP:=
 zi (.cells #[(.pointer x0)] 24) fun(r1:Nat)=>
 zi (.cells #[(.slice none 0 0)] 47) fun(r2:Nat)=>
 zL (Unit) () fun(y4:Unit) (I3:(Unit)->WP)=>
 zF<|
 ldW .ptr (aD r1) fun(u5:Option Addr)=>
 zk u5 fun(p6:Addr)=>
 ldW .ptr (p6.add 8) fun(u7:Option Addr)=>
 ldW .ptr (aD r1) fun(u8:Option Addr)=>
 zk u8 fun(p9:Addr)=>
 ldW .ptr (p9.add 7) fun(u10:Option Addr)=>
 ze prog 59 [(.pointer u7),(.pointer u10)] (.many [(.one (.int .u32)),(.one (.int .i64))]) fun(u11:Int×Int×Unit)=>
 za (u11.2.1 !=(0:Int)) (zX prog (⟨.fn (.func 112) #[(.pointer (some (aD r2))),(.pointer (some (aD r1)))],#[]⟩::[])<|K (.tuple #[(.int .u32 u11.1),(.int .i64 u11.2.1)]))<|
 ldW .ptr (aD r1) fun(u12:Option Addr)=>
 zk u12 fun(p13:Addr)=>
 ldW .ptr (p13.add 9) fun(u14:Option Addr)=>
 ze prog 40 [(.pointer u14),(.int .u32 u11.1)] (.one (.one (.int .i64))) fun(u15:Int)=>
 za (u15==(0:Int)) (zX prog (⟨.fn (.func 112) #[(.pointer (some (aD r2))),(.pointer (some (aD r1)))],#[]⟩::[])<|K (.tuple #[(.int .u32 u11.1),(.int .i64 u11.2.1)]))<|
 ldW .slc (aD r2) fun(u16:SLC)=>
 zi (.cells #[(.int .u32 u11.1)] 39) fun(r17:Nat)=>
 zv prog (Builtin.append_ #[47,47] 47 #[(.slice u16.1 u16.2.1 u16.2.2),(.slice (some (aD r17)) 1 1)]) .slc fun(u18:SLC)=>
 stW (aD r2) (.slice u18.1 u18.2.1 u18.2.2)<|I3 ()
theorem zox (x0:Option Addr) {K:Value->WP} {w:World} (h:S69 x0 K w):Calls prog 69 #[(.pointer x0)] w (Ret K):=cF an69 true Tryz.func69 h
def an70:Ann:=(AN (AR (AN (AQ AO AP)) (AR (AN (.block (.loop [(0,.sh (.one .slc)),(16,.sh (.one (.int .i64)))] [1,15,1000000] (AN (AR (AQ AP AP) (AR (.block AO) AP)))))) AO)))
def S70 (a0:Option Addr) (n0 c0:Nat) (x1:Int) (x2:Int) (K:Value->WP):WP:=
 za (decide (x2<(1:Int))) (K (.slice a0 n0 c0))<|
 za (decide (x2>(8:Int))) (K (.slice a0 n0 c0))<|
 zL (SLC×Int×Unit) ((a0,n0,c0),(0:Int),()) fun(y2:SLC×Int×Unit) (I1:(SLC×Int×Unit)->WP)=>
 za (decide (y2.2.1<x2)) (zc (0<=(wrap .i64 ((8:Int)*y2.2.1)))<|
 zi (.cells #[(.int .u8 (wrap .u8 (ishr .u64 x1 (wrap .i64 ((8:Int)*y2.2.1)))))] 5) fun(r3:Nat)=>
 zv prog (Builtin.append_ #[119,119] 119 #[(.slice y2.1.1 y2.1.2.1 y2.1.2.2),(.slice (some (aD r3)) 1 1)]) .slc fun(u4:SLC)=>I1 ((u4.1,u4.2.1,u4.2.2),(wrap .i64 (y2.2.1+(1:Int))),()))<|K (.slice y2.1.1 y2.1.2.1 y2.1.2.2)
theorem ziI (a0:Option Addr) (n0 c0:Nat) (x1:Int) (x2:Int) {K:Value->WP} {w:World} (h:S70 a0 n0 c0 x1 x2 K w):Calls prog 70 #[(.slice a0 n0 c0),(.int .u64 x1),(.int .i64 x2)] w (Ret K):=cF an70 false Tryz.func70 h
def an71:Ann:=(AN (AN (AR (AN (AQ AO AP)) AO)))
def S71 (x0:Option Addr) (x1:Int) (AE:Int) (AF:Int) (AG:ByteArray) (K:Value->WP):WP:=
 zi (.cells #[(.int .u8 AE),(.int .u64 AF),(.string AG)] 128) fun(r1:Nat)=>
 zF<|
 zl [(.int .u8),(.int .u64),.str] (aD r1) fun(u2:(Int×Int×ByteArray×Unit))=>
 ze prog 57 [(.pointer x0)] (.one (.agg [(.int .i64),(.int .i64)])) fun(u3:(Int×Int×Unit))=>
 zu [[((aD r1).add 0,(.int .u8 u2.1)),((aD r1).add 1,(.int .u64 u2.2.1)),((aD r1).add 2,(.string u2.2.2.1))]]<|
 ze prog 113 [(.int .i64 u3.1),(.agg #[(.int .u8 u2.1),(.int .u64 u2.2.1),(.string u2.2.2.1)])] (.many [(.one .str),(.one (.int .i64))]) fun(u4:ByteArray×Int×Unit)=>
 za (u4.2.1 !=(0:Int)) (K (.int .i64 u4.2.1))<|
 ze prog 61 [(.pointer x0),(.int .i64 (wrap .i64 x1)),(.string u4.1)] (.one (.one (.int .i64))) fun(u5:Int)=>K (.int .i64 u5)
theorem zoy (x0:Option Addr) (x1:Int) (AE:Int) (AF:Int) (AG:ByteArray) {K:Value->WP} {w:World} (h:S71 x0 x1 AE AF AG K w):Calls prog 71 #[(.pointer x0),(.int .u32 x1),(.agg #[(.int .u8 AE),(.int .u64 AF),(.string AG)])] w (Ret K):=cF an71 false Tryz.func71 h
def an73:Ann:=(AN (AR (AN (.block (.loop [(2,.sh (.one .slc)),(10,.sh (.one (.int .i64)))] [0,9,1000000] (AN (AR (AQ AP AP) (AR (.block (AN (AN (AQ AP AP)))) AP)))))) (AR (AN (.block (.loop [(2,.sh (.one .slc)),(42,.sh (.one (.int .i64)))] [0,41,1000000] (AN (AR (AQ AP AP) (AR (.block (AN (AN (AQ AP AP)))) AP)))))) AO)))
def S73 (x0:Option Addr) (K:Value->WP):WP:=
 zk x0 fun(p1:Addr)=>
 ldW .slc p1 fun(u2:SLC)=>
 zL (SLC×Int×Unit) ((none,0,0),(0:Int),()) fun(y4:SLC×Int×Unit) (I3:(SLC×Int×Unit)->WP)=>
 za (decide (y4.2.1<((u2.2.1:Nat):Int))) (zk x0 fun(p5:Addr)=>
 ldW .slc p5 fun(u6:SLC)=>
 zc (0<=y4.2.1/\y4.2.1<((u6.2.1:Nat):Int))<|
 zk u6.1 fun(p7:Addr)=>
 ldW (.int .u32) ((p7.add (Int.toNat y4.2.1*5)).add 2) fun(u8:Int)=>
 za (u8 !=(0:Int)) (zk x0 fun(p9:Addr)=>
 ldW .slc p9 fun(u10:SLC)=>
 zc (0<=y4.2.1/\y4.2.1<((u10.2.1:Nat):Int))<|
 zk u10.1 fun(p11:Addr)=>
 zi (.cells #[(.int .u64 (wrap .u64 (wrap .i64 ((1:Int)+y4.2.1)))),(.pointer (some ((p11.add (Int.toNat y4.2.1*5)).add 2)))] 135) fun(r12:Nat)=>
 zv prog (Builtin.append_ #[130,130] 130 #[(.slice y4.1.1 y4.1.2.1 y4.1.2.2),(.slice (some (aD r12)) 1 1)]) .slc fun(u13:SLC)=>I3 ((u13.1,u13.2.1,u13.2.2),(wrap .i64 (y4.2.1+(1:Int))),()))<|I3 ((y4.1.1,y4.1.2.1,y4.1.2.2),(wrap .i64 (y4.2.1+(1:Int))),()))<|
 zk x0 fun(p14:Addr)=>
 ldW .slc (p14.add 1) fun(u15:SLC)=>
 zL (SLC×Int×Unit) ((y4.1.1,y4.1.2.1,y4.1.2.2),(0:Int),()) fun(y17:SLC×Int×Unit) (I16:(SLC×Int×Unit)->WP)=>
 za (decide (y17.2.1<((u15.2.1:Nat):Int))) (zk x0 fun(p18:Addr)=>
 ldW .slc (p18.add 1) fun(u19:SLC)=>
 zc (0<=y17.2.1/\y17.2.1<((u19.2.1:Nat):Int))<|
 zk u19.1 fun(p20:Addr)=>
 ldW (.int .u32) ((p20.add (Int.toNat y17.2.1*2)).add 1) fun(u21:Int)=>
 za (u21 !=(0:Int)) (zk x0 fun(p22:Addr)=>
 ldW .slc (p22.add 1) fun(u23:SLC)=>
 zc (0<=y17.2.1/\y17.2.1<((u23.2.1:Nat):Int))<|
 zk u23.1 fun(p24:Addr)=>
 zi (.cells #[(.int .u64 (wrap .u64 (wrap .i64 ((100:Int)+y17.2.1)))),(.pointer (some ((p24.add (Int.toNat y17.2.1*2)).add 1)))] 135) fun(r25:Nat)=>
 zv prog (Builtin.append_ #[130,130] 130 #[(.slice y17.1.1 y17.1.2.1 y17.1.2.2),(.slice (some (aD r25)) 1 1)]) .slc fun(u26:SLC)=>I16 ((u26.1,u26.2.1,u26.2.2),(wrap .i64 (y17.2.1+(1:Int))),()))<|I16 ((y17.1.1,y17.1.2.1,y17.1.2.2),(wrap .i64 (y17.2.1+(1:Int))),()))<|K (.slice y17.1.1 y17.1.2.1 y17.1.2.2)
theorem zoz (x0:Option Addr) {K:Value->WP} {w:World} (h:S73 x0 K w):Calls prog 73 #[(.pointer x0)] w (Ret K):=cF an73 false Tryz.func73 h
def an74:Ann:=(AN (AR (.block (AN (AQ AO (AN (AQ AO AP))))) AO))
def S74 (x0:Option Addr) (x1:Int) (K:Value->WP):WP:=
 za (Option.isNone x0) (K (.int .i64 (1:Int)))<|
 ze prog 39 [(.pointer x0),(.int .u32 x1)] (.one (.one .bool)) fun(u1:Bool)=>
 za (!u1) (K (.int .i64 (2:Int)))<|
 zk x0 fun(p2:Addr)=>
 ldW .ptr (p2.add 8) fun(u3:Option Addr)=>
 ze prog 114 [(.pointer u3),(.int .u32 x1)] (.one (.one (.int .i64))) fun(u4:Int)=>K (.int .i64 u4)
theorem zoA (x0:Option Addr) (x1:Int) {K:Value->WP} {w:World} (h:S74 x0 x1 K w):Calls prog 74 #[(.pointer x0),(.int .u32 x1)] w (Ret K):=cF an74 false Tryz.func74 h
def an75:Ann:=(AN (AR (AN (AN (AQ AO AP))) (AN (AR (AN (.block (.loop [(5,.sh (.one .slc)),(25,.sh (.one (.int .i64)))] [1,23,24,1000000] (AN (AR (AQ AP AP) (AR (.block (AN (AN (AR (AN (AQ AO AP)) (AN AO))))) AP)))))) (AN (AR (AN (.block (.loop [(5,.sh (.one .slc)),(67,.sh (.one (.int .i64)))] [65,66,1000000] (AN (AR (AQ AP AP) (AR (.block AO) AP)))))) AO))))))
def S75 (Av:Option Addr) (Aw Ax:Nat) (Ab:Option Addr) (Ac Ae:Nat) (K:Value->WP):WP:=
 zi (.cells #[(.slice Av Aw Ax),(.slice Ab Ac Ae)] 30) fun(r1:Nat)=>
 zl [.slc,.slc] (aD r1) fun(u2:(SLC×SLC×Unit))=>
 ze prog 115 [(.agg #[(.slice u2.1.1 u2.1.2.1 u2.1.2.2),(.slice u2.2.1.1 u2.2.1.2.1 u2.2.1.2.2)])] (.one (.one (.int .i64))) fun(u3:Int)=>
 za (u3 !=(0:Int)) (K (.tuple #[(.string (ByteArray.mk #[])),(.int .i64 u3)]))<|
 ldW .slc (aD r1) fun(u4:SLC)=>
 zi (.cells #[(.int .u8 (wrap .u8 ((u4.2.1:Nat):Int)))] 5) fun(r5:Nat)=>
 ldW .slc (aD r1) fun(u6:SLC)=>
 zL (SLC×Int×Unit) (((some (aD r5)),1,1),(0:Int),()) fun(y8:SLC×Int×Unit) (I7:(SLC×Int×Unit)->WP)=>
 za (decide (y8.2.1<((u6.2.1:Nat):Int))) (zc (0<=y8.2.1/\y8.2.1<((u6.2.1:Nat):Int))<|
 zk u6.1 fun(p9:Addr)=>
 zl [.str,.slc,(.int .u32),(.int .u64),(.int .i64)] (p9.add (Int.toNat y8.2.1*5)) fun(u10:(ByteArray×SLC×Int×Int×Int×Unit))=>
 zi (.cells #[(.string ByteArray.empty),(.slice none 0 0),(.int .u32 (0:Int)),(.int .u64 (0:Int)),(.int .i64 (0:Int))] 42) fun(r11:Nat)=>
 zc ((#[(.string u10.1),(.slice u10.2.1.1 u10.2.1.2.1 u10.2.1.2.2),(.int .u32 u10.2.2.1),(.int .u64 u10.2.2.2.1),(.int .i64 u10.2.2.2.2.1)]:Array Value).size=5)<|
 zr (aD r11) [(.string u10.1),(.slice u10.2.1.1 u10.2.1.2.1 u10.2.1.2.2),(.int .u32 u10.2.2.1),(.int .u64 u10.2.2.2.1),(.int .i64 u10.2.2.2.2.1)]<|
 ldW .slc ((aD r11).add 1) fun(u12:SLC)=>
 ze prog 116 [(.slice u12.1 u12.2.1 u12.2.2)] (.many [(.one .str),(.one (.int .i64))]) fun(u13:ByteArray×Int×Unit)=>
 za (u13.2.1 !=(0:Int)) (K (.tuple #[(.string (ByteArray.mk #[])),(.int .i64 u13.2.1)]))<|
 ldW .str (aD r11) fun(u14:ByteArray)=>
 ze prog 117 [(.slice y8.1.1 y8.1.2.1 y8.1.2.2),(.string u14)] (.one (.one .slc)) fun(u15:SLC)=>
 zv prog (Builtin.append_ #[119,9] 119 #[(.slice u15.1 u15.2.1 u15.2.2),(.string u13.1)]) .slc fun(u16:SLC)=>
 zF<|
 ldW (.int .u64) ((aD r11).add 3) fun(u17:Int)=>
 ldW (.int .i64) ((aD r11).add 4) fun(u18:Int)=>
 ze prog 70 [(.slice u16.1 u16.2.1 u16.2.2),(.int .u64 u17),(.int .i64 (8:Int))] (.one (.one .slc)) fun(u19:SLC)=>
 zu [[(((aD r11).add 4),(.int .i64 u18))]]<|
 ze prog 70 [(.slice u19.1 u19.2.1 u19.2.2),(.int .u64 (wrap .u64 u18)),(.int .i64 (4:Int))] (.one (.one .slc)) fun(u20:SLC)=>
 ldW (.int .u32) ((aD r11).add 2) fun(u21:Int)=>
 ze prog 118 [(.slice u20.1 u20.2.1 u20.2.2),(.int .u32 u21)] (.one (.one .slc)) fun(u22:SLC)=>I7 ((u22.1,u22.2.1,u22.2.2),(wrap .i64 (y8.2.1+(1:Int))),()))<|
 ldW .slc ((aD r1).add 1) fun(u23:SLC)=>
 zi (.cells #[(.int .u8 (wrap .u8 ((u23.2.1:Nat):Int)))] 5) fun(r24:Nat)=>
 zv prog (Builtin.append_ #[119,119] 119 #[(.slice y8.1.1 y8.1.2.1 y8.1.2.2),(.slice (some (aD r24)) 1 1)]) .slc fun(u25:SLC)=>
 ldW .slc ((aD r1).add 1) fun(u26:SLC)=>
 zL (SLC×Int×Unit) ((u25.1,u25.2.1,u25.2.2),(0:Int),()) fun(y28:SLC×Int×Unit) (I27:(SLC×Int×Unit)->WP)=>
 za (decide (y28.2.1<((u26.2.1:Nat):Int))) (zc (0<=y28.2.1/\y28.2.1<((u26.2.1:Nat):Int))<|
 zk u26.1 fun(p29:Addr)=>
 zl [.str,(.int .u32)] (p29.add (Int.toNat y28.2.1*2)) fun(u30:(ByteArray×Int×Unit))=>
 zi (.cells #[(.string ByteArray.empty),(.int .u32 (0:Int))] 64) fun(r31:Nat)=>
 zc ((#[(.string u30.1),(.int .u32 u30.2.1)]:Array Value).size=2)<|
 zr (aD r31) [(.string u30.1),(.int .u32 u30.2.1)]<|
 zF<|
 ldW .str (aD r31) fun(u32:ByteArray)=>
 ldW (.int .u32) ((aD r31).add 1) fun(u33:Int)=>
 ze prog 117 [(.slice y28.1.1 y28.1.2.1 y28.1.2.2),(.string u32)] (.one (.one .slc)) fun(u34:SLC)=>
 zu [[(((aD r31).add 1),(.int .u32 u33))]]<|
 ze prog 118 [(.slice u34.1 u34.2.1 u34.2.2),(.int .u32 u33)] (.one (.one .slc)) fun(u35:SLC)=>I27 ((u35.1,u35.2.1,u35.2.2),(wrap .i64 (y28.2.1+(1:Int))),()))<|
 zv prog (Go.convert 119 9 (.slice y28.1.1 y28.1.2.1 y28.1.2.2)) .str fun(u36:ByteArray)=>K (.tuple #[(.string u36),(.int .i64 (0:Int))])
theorem zoB (Av:Option Addr) (Aw Ax:Nat) (Ab:Option Addr) (Ac Ae:Nat) {K:Value->WP} {w:World} (h:S75 Av Aw Ax Ab Ac Ae K w):Calls prog 75 #[(.agg #[(.slice Av Aw Ax),(.slice Ab Ac Ae)])] w (Ret K):=cF an75 false Tryz.func75 h
def an76:Ann:=(AN (AR (AN (AQ AO AP)) (AR (AN (AQ AO AP)) (AN (AN (AN (AR (AN (.block (.loop [(28,.sh (.one (.int .i64)))] [1,2,5,6,7,27,1000000] (AN (AR (AQ AP AP) (AR (.block (AN (AN (AR (AN (AQ AO AP)) AP)))) AP)))))) AO)))))))
def S76 (x0:Option Addr) (x1:ByteArray) (K:Value->WP):WP:=
 zi (.cells #[(.pointer x0)] 24) fun(r1:Nat)=>
 zi (.cells #[(.int .i64 (0:Int))] 34) fun(r2:Nat)=>
 ldW .ptr (aD r1) fun(u3:Option Addr)=>
 za (Option.isNone u3) (stW (aD r2) (.int .i64 (1:Int))<|
 zX prog []<|
 ldW (.int .i64) (aD r2) fun(u4:Int)=>K (.tuple #[(.int .u32 (0:Int)),(.int .i64 u4)]))<|
 ldW .ptr (aD r1) fun(u5:Option Addr)=>
 ze prog 119 [(.pointer u5)] (.one (.one (.int .i64))) fun(u6:Int)=>
 za (decide (((x1.size:Nat):Int)>u6)) (stW (aD r2) (.int .i64 (3:Int))<|
 zX prog []<|
 ldW (.int .i64) (aD r2) fun(u7:Int)=>K (.tuple #[(.int .u32 (0:Int)),(.int .i64 u7)]))<|
 zi (.cells #[(.slice none 0 0)] 47) fun(r8:Nat)=>
 ldW .ptr (aD r1) fun(u9:Option Addr)=>
 ze prog 68 [(.pointer u9),(.int .i64 (0:Int))] (.one (.one (.int .i64))) fun(u10:Int)=>
 zc (u10≠0)<|
 zL (Int×Unit) ((0:Int),()) fun(y12:Int×Unit) (I11:(Int×Unit)->WP)=>
 za (decide (y12.1<(wrap .i64 (Int.tdiv (wrap .i64 ((wrap .i64 (((x1.size:Nat):Int)+u10))-(1:Int))) u10)))) (zF<|
 ldW .ptr (aD r1) fun(u13:Option Addr)=>
 zc (0<=(wrap .i64 (y12.1*u10))/\(wrap .i64 (y12.1*u10))<=(if (wrap .i64 ((wrap .i64 (y12.1+(1:Int)))*u10))<((x1.size:Nat):Int) then (wrap .i64 ((wrap .i64 (y12.1+(1:Int)))*u10)) else ((x1.size:Nat):Int))/\(if (wrap .i64 ((wrap .i64 (y12.1+(1:Int)))*u10))<((x1.size:Nat):Int) then (wrap .i64 ((wrap .i64 (y12.1+(1:Int)))*u10)) else ((x1.size:Nat):Int))<=((x1.size:Nat):Int))<|
 ze prog 30 [(.pointer u13),(.agg #[(.int .u8 (7:Int)),(.slice none 0 0),(.string (ByteArray.extract x1 (Int.toNat (wrap .i64 (y12.1*u10))) (Int.toNat (if (wrap .i64 ((wrap .i64 (y12.1+(1:Int)))*u10))<((x1.size:Nat):Int) then (wrap .i64 ((wrap .i64 (y12.1+(1:Int)))*u10)) else ((x1.size:Nat):Int)))))])] (.many [(.one (.int .u32)),(.one (.int .i64))]) fun(u14:Int×Int×Unit)=>
 za (u14.2.1 !=(0:Int)) (stW (aD r2) (.int .i64 u14.2.1)<|
 zX prog (⟨.fn (.func 120) #[(.pointer (some (aD r2))),(.pointer (some (aD r8))),(.pointer (some (aD r1)))],#[]⟩::[])<|
 ldW (.int .i64) (aD r2) fun(u15:Int)=>K (.tuple #[(.int .u32 (0:Int)),(.int .i64 u15)]))<|
 ldW .slc (aD r8) fun(u16:SLC)=>
 zi (.cells #[(.int .u32 u14.1)] 39) fun(r17:Nat)=>
 zv prog (Builtin.append_ #[47,47] 47 #[(.slice u16.1 u16.2.1 u16.2.2),(.slice (some (aD r17)) 1 1)]) .slc fun(u18:SLC)=>
 stW (aD r8) (.slice u18.1 u18.2.1 u18.2.2)<|I11 ((wrap .i64 (y12.1+(1:Int))),()))<|
 zF<|
 ldW .ptr (aD r1) fun(u19:Option Addr)=>
 ldW .slc (aD r8) fun(u20:SLC)=>
 ze prog 70 [(.slice none 0 0),(.int .u64 (wrap .u64 ((x1.size:Nat):Int))),(.int .i64 (4:Int))] (.one (.one .slc)) fun(u21:SLC)=>
 zu [[((aD r8),(.slice u20.1 u20.2.1 u20.2.2))],[((aD r1),(.pointer u19))]]<|
 zv prog (Go.convert 119 9 (.slice u21.1 u21.2.1 u21.2.2)) .str fun(u22:ByteArray)=>
 zu [[((aD r8),(.slice u20.1 u20.2.1 u20.2.2))],[((aD r1),(.pointer u19))]]<|
 ze prog 30 [(.pointer u19),(.agg #[(.int .u8 (6:Int)),(.slice u20.1 u20.2.1 u20.2.2),(.string u22)])] (.many [(.one (.int .u32)),(.one (.int .i64))]) fun(u23:Int×Int×Unit)=>
 stW (aD r2) (.int .i64 u23.2.1)<|
 zX prog (⟨.fn (.func 120) #[(.pointer (some (aD r2))),(.pointer (some (aD r8))),(.pointer (some (aD r1)))],#[]⟩::[])<|
 ldW (.int .i64) (aD r2) fun(u24:Int)=>K (.tuple #[(.int .u32 u23.1),(.int .i64 u24)])
theorem zoC (x0:Option Addr) (x1:ByteArray) {K:Value->WP} {w:World} (h:S76 x0 x1 K w):Calls prog 76 #[(.pointer x0),(.string x1)] w (Ret K):=cF an76 true Tryz.func76 h
def an77:Ann:=(AN (AR (AN (AQ AO AP)) (AR (AN (AQ AO AP)) (AN (AR (AN (.block (.loop [(27,.sh (.one (.int .i64)))] [0,1,2,10,25,26,1000000] (AN (AR (AQ AP AP) (.join [] [0,1,2,10,25,26,27,1000000] (.block (AN (.join [] [0,1,2,10,12,25,26,27,1000000] (AN (AQ AO AP)) (AN (AQ AP AP))))) AP)))))) AO)))))
def S77 (x0:Option Addr) (x1:Bool) (a2:Option Addr) (n2 c2:Nat) (a3:Option Addr) (n3 c3:Nat) (K:Value->WP):WP:=
 za (Option.isNone x0) (K (.tuple #[(.int .u32 (0:Int)),(.int .i64 (1:Int))]))<|
 za (((n2:Nat):Int) !=((n3:Nat):Int)) (K (.tuple #[(.int .u32 (0:Int)),(.int .i64 (2:Int))]))<|
 ze prog 121 [(.bool x1)] (.one (.one (.int .u8))) fun(u1:Int)=>
 zi (.cells #[(.int .u8 (0:Int)),(.slice none 0 0),(.slice none 0 0),(.slice none 0 0)] 201) fun(r2:Nat)=>
 zc ((#[(.int .u8 u1),(.slice a2 n2 c2),(.slice a3 n3 c3),(.slice none 0 0)]:Array Value).size=4)<|
 zr (aD r2) [(.int .u8 u1),(.slice a2 n2 c2),(.slice a3 n3 c3),(.slice none 0 0)]<|
 zL (Int×Unit) ((0:Int),()) fun(y4:Int×Unit) (I3:(Int×Unit)->WP)=>
 za (decide (y4.1<((n3:Nat):Int))) (yF (Unit) (fun(J5:(Unit)->WP)=>
 zc (0<=y4.1/\y4.1<((n3:Nat):Int))<|
 zk a3 fun(p7:Addr)=>
 ldW (.int .u64) (p7.add (Int.toNat y4.1*1)) fun(u8:Int)=>
 yF (Unit) (fun(J9:(Unit)->WP)=>
 zF<|
 za (decide (y4.1>(0:Int))) (zc (0<=(wrap .i64 (y4.1-(1:Int)))/\(wrap .i64 (y4.1-(1:Int)))<((n2:Nat):Int))<|
 zk a2 fun(p11:Addr)=>
 ldW (.int .u64) (p11.add (Int.toNat (wrap .i64 (y4.1-(1:Int)))*1)) fun(u12:Int)=>
 zc (0<=y4.1/\y4.1<((n2:Nat):Int))<|
 zk a2 fun(p13:Addr)=>
 ldW (.int .u64) (p13.add (Int.toNat y4.1*1)) fun(u14:Int)=>
 za (decide (u12>=u14)) (K (.tuple #[(.int .u32 (0:Int)),(.int .i64 (2:Int))]))<|
 za x1 (ze prog 122 [(.pointer x0),(.int .u64 u8)] (.one (.one .bool)) fun(u15:Bool)=>
 za (!u15) (K (.tuple #[(.int .u32 (0:Int)),(.int .i64 (2:Int))]))<|J9 ())<|J9 ())<|
 za x1 (ze prog 122 [(.pointer x0),(.int .u64 u8)] (.one (.one .bool)) fun(u16:Bool)=>
 za (!u16) (K (.tuple #[(.int .u32 (0:Int)),(.int .i64 (2:Int))]))<|J9 ())<|J9 ()) fun(y10:Unit)=>
 za x1 (ldW .slc ((aD r2).add 3) fun(u17:SLC)=>
 zi (.cells #[(.int .u32 (wrap .u32 u8))] 39) fun(r18:Nat)=>
 zv prog (Builtin.append_ #[47,47] 47 #[(.slice u17.1 u17.2.1 u17.2.2),(.slice (some (aD r18)) 1 1)]) .slc fun(u19:SLC)=>
 stW ((aD r2).add 3) (.slice u19.1 u19.2.1 u19.2.2)<|J5 ())<|J5 ()) fun(y6:Unit)=>I3 ((wrap .i64 (y4.1+(1:Int))),()))<|
 zl [(.int .u8),.slc,.slc,.slc] (aD r2) fun(u20:(Int×SLC×SLC×SLC×Unit))=>
 ze prog 123 [(.agg #[(.int .u8 u20.1),(.slice u20.2.1.1 u20.2.1.2.1 u20.2.1.2.2),(.slice u20.2.2.1.1 u20.2.2.1.2.1 u20.2.2.1.2.2),(.slice u20.2.2.2.1.1 u20.2.2.2.1.2.1 u20.2.2.2.1.2.2)]),(.pointer x0),(.int .i64 (1:Int))] (.many [(.one (.int .u32)),(.one (.int .i64))]) fun(u21:Int×Int×Unit)=>K (.tuple #[(.int .u32 u21.1),(.int .i64 u21.2.1)])
end V
end Go.Proofs.YtpagephahcnijaaGreat
