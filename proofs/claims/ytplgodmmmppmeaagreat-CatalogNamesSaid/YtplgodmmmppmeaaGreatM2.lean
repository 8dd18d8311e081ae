/- Texts of mine, merged (wip/tool/mergep.py): S_0. -/
import Derived.Test.YtplgodmmmppmeaaGreatM1
import Derived.Test.YtplgodmmmppmeaaGreatChecked
open Go.IntKind (wrap)
open Go.Proofs.Tryz (prog)
open List (mem_cons_self mem_cons_of_mem mem_cons length_cons map_map mem_append mem_append_left drop_drop mem_range mem_of_getElem? getElem_mem map_cons mem_map append_assoc nodup_cons foldl_cons length_nil append_nil length_map length_set eq_nil_of_length_eq_zero range_succ map_congr_left length_append drop_of_length_le take_of_length_le getD_eq_getElem?_getD mem_singleton length_take length_drop take_succ_eq_append_getElem take_add_one not_mem_nil map_append take_left' length_replicate drop_left' flatMap_cons length_range getElem_range flatMap_append length_singleton)
set_option linter.unusedVariables false
set_option linter.unusedSimpArgs false
namespace Go.Proofs.YtplgodmmmppmeaaGreat
/- The shallow forms of the functions,by a program of mine (wip/tool/gen.py). -/
set_option maxRecDepth 100000
namespace V
open Go Go.Proofs
theorem mixed:prog.follows .mixedOrders=true:=by kernel_rfl
abbrev AN (a:Ann):Ann:=.seq .nil a
abbrev AO:Ann:=.seq .nil .nil
abbrev AP:Ann:=.nil
abbrev AQ (a b:Ann):Ann:=.cond a b
abbrev AR (a b:Ann):Ann:=.seq a b
theorem cF {f:FuncId} {fn:Func} (an:Ann) (marks:Bool) {args:List Value} {w:World} {K:Value->WP} {T:Prop} (hf:prog.funcs[f]?=some fn) (h:T) (hz:decide (args.length<=fn.ntmps)=true:=by kernel_rfl) (e:T=uU prog fn an marks args K w:=by kernel_rfl):Calls prog f args.toArray w (Ret K):=cE an marks hf mixed hz e h
def an6:Ann:=(AN (AR (AN (AQ AO AP)) (AN (AN (AR (AN (AQ AO AP)) (AN (AN (AN (AN (AN (AN (AN (AN (AN (AN (AN (AN (AN (AN (AN (AN (AN (AN (AR (AN (AQ AO AP)) (AN (.join [(0,.sh (.one .bool))] [1000000] (.cuts [⟨0,1,0,0,some 161,[4]⟩,⟨1,2,1,0,some 162,[161]⟩,⟨2,4,2,0,some 163,[162]⟩,⟨3,8,4,0,some 164,[3,163]⟩,⟨4,16,12,0,some 165,[164,163]⟩,⟨5,32,20,0,some 166,[163,165]⟩,⟨6,64,36,0,some 167,[166]⟩,⟨7,128,64,0,some 168,[6,167]⟩,⟨8,256,192,0,some 169,[168,167]⟩,⟨9,512,320,0,some 170,[167,169]⟩,⟨10,1024,576,0,some 171,[170]⟩,⟨11,2048,1024,332306998946228968225951765070077952,some 172,[5,171]⟩,⟨12,4096,1024,0,some 173,[171]⟩,⟨13,8192,7168,0,some 174,[172,173,171]⟩,⟨14,16384,9216,0,some 175,[171,174]⟩,⟨15,32768,24576,0,some 176,[175]⟩,⟨16,65536,32768,0,some 177,[8,176]⟩,⟨17,131072,98304,0,some 178,[177,176]⟩,⟨18,262144,163840,0,some 179,[176,178]⟩,⟨19,524288,294912,0,some 180,[179]⟩,⟨20,1048576,524288,0,some 181,[10,180]⟩,⟨21,2097152,1572864,0,some 182,[181,180]⟩,⟨22,4194304,2621440,0,some 183,[180,182]⟩,⟨23,8388608,4718592,0,some 184,[183]⟩,⟨24,16777216,8388608,332306998946228968225951765036531712,some 185,[11,184]⟩,⟨25,33554432,25165824,0,some 186,[185,184]⟩,⟨26,67108864,41943040,0,some 187,[186,184]⟩,⟨27,134217728,75497472,0,some 188,[184,187]⟩,⟨28,268435456,167772160,0,some 189,[188]⟩,⟨29,536870912,268435456,332306998946228968225951763996344320,some 190,[12,189]⟩,⟨30,1073741824,805306368,0,some 191,[190,189]⟩,⟨31,2147483648,1342177280,0,some 192,[191,189]⟩,⟨32,4294967296,2415919104,0,some 193,[189,192]⟩,⟨33,8589934592,5368709120,0,some 194,[193]⟩,⟨34,17179869184,8589934592,0,some 195,[14,194]⟩,⟨35,34359738368,25769803776,0,some 196,[195,194]⟩,⟨36,68719476736,42949672960,0,some 197,[194,196]⟩,⟨37,137438953472,77309411328,0,some 198,[197]⟩,⟨38,274877906944,137438953472,0,some 199,[13,198]⟩,⟨39,549755813888,412316860416,0,some 200,[199,198]⟩,⟨40,1099511627776,687194767360,0,some 201,[198,200]⟩,⟨41,2199023255552,1236950581248,0,some 202,[201]⟩,⟨42,4398046511104,2199023255552,0,some 203,[16,202]⟩,⟨43,8796093022208,6597069766656,0,some 204,[203,202]⟩,⟨44,17592186044416,10995116277760,0,some 205,[202,204]⟩,⟨45,35184372088832,19791209299968,0,some 206,[205]⟩,⟨46,70368744177664,35184372088832,0,some 207,[20,206]⟩,⟨47,140737488355328,105553116266496,0,some 208,[207,206]⟩,⟨48,281474976710656,175921860444160,0,some 209,[206,208]⟩,⟨49,562949953421312,316659348799488,0,some 210,[209]⟩,⟨50,1125899906842624,562949953421312,0,some 211,[22,210]⟩,⟨51,2251799813685248,1688849860263936,0,some 212,[211,210]⟩,⟨52,4503599627370496,2814749767106560,0,some 213,[210,212]⟩,⟨53,9007199254740992,5066549580791808,0,some 214,[213]⟩,⟨54,18014398509481984,9007199254740992,0,some 215,[21,214]⟩,⟨55,36028797018963968,27021597764222976,332306998946228968153894171032158208,some 216,[215,214]⟩,⟨56,72057594037927936,45035996273704960,0,some 217,[216,214]⟩,⟨57,144115188075855872,81064793292668928,0,some 218,[217,214]⟩,⟨58,288230376151711744,153122387330596864,0,some 219,[214,218]⟩,⟨59,576460752303423488,297237575406452736,0,some 220,[219]⟩,⟨60,1152921504606846976,576460752303423488,0,some 221,[27,220]⟩,⟨61,2305843009213693952,1729382256910270464,0,some 222,[221,220]⟩,⟨62,4611686018427387904,2882303761517117440,0,some 223,[220,222]⟩,⟨63,9223372036854775808,5188146770730811392,0,some 224,[223]⟩,⟨64,18446744073709551616,9223372036854775808,0,some 225,[29,224]⟩,⟨65,36893488147419103232,27670116110564327424,0,some 226,[225,224]⟩,⟨66,73786976294838206464,46116860184273879040,0,some 227,[224,226]⟩,⟨67,147573952589676412928,83010348331692982272,0,some 228,[227]⟩,⟨68,295147905179352825856,147573952589676412928,0,some 229,[28,228]⟩,⟨69,590295810358705651712,442721857769029238784,332306998946218342901365308368355328,some 230,[229,228]⟩,⟨70,1180591620717411303424,737869762948382064640,0,some 231,[230,228]⟩,⟨71,2361183241434822606848,1328165573307087716352,0,some 232,[231,228]⟩,⟨72,4722366482869645213696,2508757194024499019776,332306998946210078760020286489231360,some 233,[232,228]⟩,⟨73,9444732965739290427392,147573952589676412928,0,some 234,[23,228]⟩,⟨74,18889465931478580854784,14314673401198612054016,0,some 235,[233,234,228]⟩,⟨75,37778931862957161709568,19037039884068257267712,0,some 236,[228,235]⟩,⟨76,75557863725914323419136,37926505815546838122496,0,some 237,[236]⟩,⟨77,151115727451828646838272,75557863725914323419136,0,some 238,[30,237]⟩,⟨78,302231454903657293676544,226673591177742970257408,0,some 239,[238,237]⟩,⟨79,604462909807314587353088,377789318629571617095680,0,some 240,[237,239]⟩,⟨80,1208925819614629174706176,680020773533228910772224,0,some 241,[240]⟩,⟨81,2417851639229258349412352,1208925819614629174706176,0,some 242,[2,241]⟩,⟨82,4835703278458516698824704,1208925819614629174706176,0,some 243,[23,241]⟩,⟨83,9671406556917033397649408,8462480737302404222943232,0,some 244,[242,243,241]⟩,⟨84,19342813113834066795298816,10880332376531662572355584,0,some 245,[244,241]⟩,⟨85,38685626227668133590597632,20551738933448695970004992,0,some 246,[241,245]⟩,⟨86,77371252455336267181195264,48357032784585166988247040,0,some 247,[246]⟩,⟨87,154742504910672534362390528,77371252455336267181195264,0,some 248,[2,247]⟩,⟨88,309485009821345068724781056,232113757366008801543585792,0,some 249,[248,247]⟩,⟨89,618970019642690137449562112,77371252455336267181195264,0,some 250,[25,247]⟩,⟨90,1237940039285380274899124224,696341272098026404630757376,0,some 251,[250,247]⟩,⟨91,2475880078570760549798248448,1624796301562061610805100544,0,some 252,[249,251,247]⟩,⟨92,4951760157141521099596496896,2553251331026096816979443712,0,some 253,[247,252]⟩,⟨93,9903520314283042199192993792,5261245166962866168321277952,0,some 254,[253]⟩,⟨94,19807040628566084398385987584,9903520314283042199192993792,0,some 255,[11,254]⟩,⟨95,39614081257132168796771975168,29710560942849126597578981376,332306919718066453961614171526135808,some 256,[255,254]⟩,⟨96,79228162514264337593543950336,49517601571415210995964968960,0,some 257,[256,254]⟩,⟨97,158456325028528675187087900672,89131682828547379792736944128,0,some 258,[257,254]⟩,⟨98,316912650057057350374175801344,168359845342811717386280894464,332306365120928854111251016718483456,some 259,[258,254]⟩,⟨99,633825300114114700748351602688,326816170371340392573368795136,0,some 260,[259,254]⟩,⟨100,1267650600228229401496703205376,643728820428397742947544596480,0,some 261,[260,254]⟩,⟨101,2535301200456458802993406410752,1277554120542512443695896199168,332301928343828055308345778257264640,some 262,[261,254]⟩,⟨102,5070602400912917605986812821504,2545204720770741845192599404544,0,some 263,[262,254]⟩,⟨103,10141204801825835211973625643008,5080505921227200648186005815296,0,some 264,[254,263]⟩,⟨104,20282409603651670423947251286016,10151108322140118254172818636800,0,some 265,[264]⟩,⟨105,40564819207303340847894502572032,20282409603651670423947251286016,0,some 266,[2,265]⟩,⟨106,81129638414606681695789005144064,20282409603651670423947251286016,0,some 267,[23,265]⟩,⟨107,162259276829213363391578010288128,101412048018258352119736256430080,0,some 268,[267,265]⟩,⟨108,324518553658426726783156020576256,223106505640168374663419764146176,0,some 269,[266,268,265]⟩,⟨109,649037107316853453566312041152512,344800963262078397207103271862272,0,some 270,[269,265]⟩,⟨110,1298074214633706907132624082305024,669319516920505123990259292438528,0,some 271,[265,270]⟩,⟨111,2596148429267413814265248164610048,1622592768292133633915780102881280,0,some 272,[271]⟩,⟨112,5192296858534827628530496329220096,2596148429267413814265248164610048,0,some 273,[2,272]⟩,⟨113,10384593717069655257060992658440192,2596148429267413814265248164610048,0,some 274,[272]⟩,⟨114,20769187434139310514121985316880384,18173039004871896699856737152270336,0,some 275,[273,274,272]⟩,⟨115,41538374868278621028243970633760768,23365335863406724328387233481490432,0,some 276,[275,272]⟩,⟨116,83076749736557242056487941267521536,44134523297546034842509218798370816,0,some 277,[272,276]⟩,⟨117,166153499473114484112975882535043072,166153499473114484112975882535043071,0,some 0,[277]⟩] [⟨65535,[(176,.sh (.one .bool))],[0,2,8,10,11,12,13,14,16,20,21,22,23,25,27,28,29,30,1000000]⟩,⟨536870911,[(189,.sh (.one .bool))],[0,2,11,12,13,14,16,20,21,22,23,25,27,28,29,30,1000000]⟩,⟨4398046511103,[(202,.sh (.one .bool))],[0,2,11,16,20,21,22,23,25,27,28,29,30,1000000]⟩,⟨18014398509481983,[(214,.sh (.one .bool))],[0,2,11,21,23,25,27,28,29,30,1000000]⟩,⟨295147905179352825855,[(228,.sh (.one .bool))],[0,2,11,23,25,28,30,1000000]⟩,⟨2417851639229258349412351,[(241,.sh (.one .bool))],[0,2,11,23,25,1000000]⟩,⟨19807040628566084398385987583,[(254,.sh (.one .bool))],[0,2,11,23,1000000]⟩,⟨5192296858534827628530496329220095,[(272,.sh (.one .bool))],[0,2,1000000]⟩]) AP))))))))))))))))))))))))))
def S6  (K:Value->WP):WP:=
 ze prog 9 [] (.one (.one .bool)) fun(u1:Bool)=>
 za (!u1) (K (.bool false))<|
 ze prog 22 [] (.many [(.one .ptr),(.one .ptr)]) fun(u2:Option Addr×Option Addr×Unit)=>
 ze prog 23 [(.int .u32 (0:Int)),(.int .u32 (7:Int))] (.one (.agg [.slc,.slc])) fun(u3:(SLC×SLC×Unit))=>
 ze prog 11 [(.agg #[(.slice u3.1.1 u3.1.2.1 u3.1.2.2),(.slice u3.2.1.1 u3.2.1.2.1 u3.2.1.2.2)])] (.many [(.one .str),(.one (.int .i64))]) fun(u4:ByteArray×Int×Unit)=>
 za (((u4.1.size:Nat):Int)==(0:Int)) (K (.bool false))<|
 ze prog 12 [(.string u4.1)] (.many [(.agg [.slc,.slc]),(.one (.int .i64))]) fun(u5:(SLC×SLC×Unit)×Int×Unit)=>
 zh (.cells #[(.slice none 0 0),(.slice none 0 0)] 25) fun(r6:Nat)=>
 zc ((#[(.slice u5.1.1.1 u5.1.1.2.1 u5.1.1.2.2),(.slice u5.1.2.1.1 u5.1.2.1.2.1 u5.1.2.1.2.2)]:Array Value).size=2)<|
 zt (aD r6) [(.slice u5.1.1.1 u5.1.1.2.1 u5.1.1.2.2),(.slice u5.1.2.1.1 u5.1.2.1.2.1 u5.1.2.1.2.2)]<|
 zc (((u4.1.size+(ByteArray.mk #[120]).size:Nat):Int)<=IntKind.i64.max)<|
 ze prog 12 [(.string (u4.1++(ByteArray.mk #[120])))] (.many [(.agg [.slc,.slc]),(.one (.int .i64))]) fun(u7:(SLC×SLC×Unit)×Int×Unit)=>
 zh (.cells #[(.slice none 0 0),(.slice none 0 0)] 25) fun(r8:Nat)=>
 zc ((#[(.slice u7.1.1.1 u7.1.1.2.1 u7.1.1.2.2),(.slice u7.1.2.1.1 u7.1.2.1.2.1 u7.1.2.1.2.2)]:Array Value).size=2)<|
 zt (aD r8) [(.slice u7.1.1.1 u7.1.1.2.1 u7.1.1.2.2),(.slice u7.1.2.1.1 u7.1.2.1.2.1 u7.1.2.1.2.2)]<|
 zc (0<=(wrap .i64 (((u4.1.size:Nat):Int)-(1:Int)))/\(wrap .i64 (((u4.1.size:Nat):Int)-(1:Int)))<=((u4.1.size:Nat):Int))<|
 zc ((((ByteArray.extract u4.1 0 (Int.toNat (wrap .i64 (((u4.1.size:Nat):Int)-(1:Int))))).size+(ByteArray.mk #[2]).size:Nat):Int)<=IntKind.i64.max)<|
 ze prog 12 [(.string ((ByteArray.extract u4.1 0 (Int.toNat (wrap .i64 (((u4.1.size:Nat):Int)-(1:Int)))))++(ByteArray.mk #[2])))] (.many [(.agg [.slc,.slc]),(.one (.int .i64))]) fun(u9:(SLC×SLC×Unit)×Int×Unit)=>
 zh (.cells #[(.slice none 0 0),(.slice none 0 0)] 25) fun(r10:Nat)=>
 zc ((#[(.slice u9.1.1.1 u9.1.1.2.1 u9.1.1.2.2),(.slice u9.1.2.1.1 u9.1.2.1.2.1 u9.1.2.1.2.2)]:Array Value).size=2)<|
 zt (aD r10) [(.slice u9.1.1.1 u9.1.1.2.1 u9.1.1.2.2),(.slice u9.1.2.1.1 u9.1.2.1.2.1 u9.1.2.1.2.2)]<|
 ze prog 23 [(.int .u32 (0:Int)),(.int .u32 (0:Int))] (.one (.agg [.slc,.slc])) fun(u11:(SLC×SLC×Unit))=>
 zh (.cells #[(.slice none 0 0),(.slice none 0 0)] 25) fun(r12:Nat)=>
 zc ((#[(.slice u11.1.1 u11.1.2.1 u11.1.2.2),(.slice u11.2.1.1 u11.2.1.2.1 u11.2.1.2.2)]:Array Value).size=2)<|
 zt (aD r12) [(.slice u11.1.1 u11.1.2.1 u11.1.2.2),(.slice u11.2.1.1 u11.2.1.2.1 u11.2.1.2.2)]<|
 zA<|
 ldW .slc (aD r12) fun(u13:SLC)=>
 ldW .slc (aD r12) fun(u14:SLC)=>
 zc (0<=(0:Int)/\(0:Int)<((u14.2.1:Nat):Int))<|
 zi u14.1 fun(p15:Addr)=>
 zk [.str,.slc,(.int .u32),(.int .u64),(.int .i64)] (p15.add (Int.toNat (0:Int)*5)) fun(u16:(ByteArray×SLC×Int×Int×Int×Unit))=>
 zh (.cells #[(.string u16.1),(.slice u16.2.1.1 u16.2.1.2.1 u16.2.1.2.2),(.int .u32 u16.2.2.1),(.int .u64 u16.2.2.2.1),(.int .i64 u16.2.2.2.2.1)] 44) fun(r17:Nat)=>
 zq [[((aD r12),(.slice u13.1 u13.2.1 u13.2.2))]]<|
 zw prog (Builtin.append_ #[22,22] 22 #[(.slice u13.1 u13.2.1 u13.2.2),(.slice (some (aD r17)) 1 1)]) .slc fun(u18:SLC)=>
 stW (aD r12) (.slice u18.1 u18.2.1 u18.2.2)<|
 ze prog 23 [(.int .u32 (9:Int)),(.int .u32 (0:Int))] (.one (.agg [.slc,.slc])) fun(u19:(SLC×SLC×Unit))=>
 zh (.cells #[(.slice none 0 0),(.slice none 0 0)] 25) fun(r20:Nat)=>
 zc ((#[(.slice u19.1.1 u19.1.2.1 u19.1.2.2),(.slice u19.2.1.1 u19.2.1.2.1 u19.2.1.2.2)]:Array Value).size=2)<|
 zt (aD r20) [(.slice u19.1.1 u19.1.2.1 u19.1.2.2),(.slice u19.2.1.1 u19.2.1.2.1 u19.2.1.2.2)]<|
 ldW .slc (aD r20) fun(u21:SLC)=>
 zc (0<=(0:Int)/\(0:Int)<((u21.2.1:Nat):Int))<|
 zi u21.1 fun(p22:Addr)=>
 stW ((p22.add (Int.toNat (0:Int)*5)).add 4) (.int .i64 (0:Int))<|
 zk [.slc,.slc] (aD r12) fun(u23:(SLC×SLC×Unit))=>
 ze prog 17 [(.agg #[(.slice u23.1.1 u23.1.2.1 u23.1.2.2),(.slice u23.2.1.1 u23.2.1.2.1 u23.2.1.2.2)]),(.string (ByteArray.mk #[116]))] (.many [(.one (.int .i64)),(.one (.int .i64))]) fun(u24:Int×Int×Unit)=>
 zk [.slc,.slc] (aD r12) fun(u25:(SLC×SLC×Unit))=>
 ze prog 17 [(.agg #[(.slice u25.1.1 u25.1.2.1 u25.1.2.2),(.slice u25.2.1.1 u25.2.1.2.1 u25.2.1.2.2)]),(.string (ByteArray.mk #[117]))] (.many [(.one (.int .i64)),(.one (.int .i64))]) fun(u26:Int×Int×Unit)=>
 ze prog 24 [(.pointer u2.2.1),(.agg #[(.int .u8 (4:Int)),(.slice none 0 0),(.string (ByteArray.mk #[48,49,50,51,52,53,54,55,48,49,50,51,52,53,54,55]))])] (.many [(.one (.int .u32)),(.one (.int .i64))]) fun(u27:Int×Int×Unit)=>
 ze prog 25 [(.pointer u2.2.1),(.int .u32 u27.1)] (.many [(.agg [.slc,.slc]),(.one (.int .i64))]) fun(u28:(SLC×SLC×Unit)×Int×Unit)=>
 zh (.cells #[(.slice none 0 0),(.slice none 0 0)] 25) fun(r29:Nat)=>
 zc ((#[(.slice u28.1.1.1 u28.1.1.2.1 u28.1.1.2.2),(.slice u28.1.2.1.1 u28.1.2.1.2.1 u28.1.2.1.2.2)]:Array Value).size=2)<|
 zt (aD r29) [(.slice u28.1.1.1 u28.1.1.2.1 u28.1.1.2.2),(.slice u28.1.2.1.1 u28.1.2.1.2.1 u28.1.2.1.2.2)]<|
 ze prog 25 [(.pointer u2.2.1),(.int .u32 (0:Int))] (.many [(.agg [.slc,.slc]),(.one (.int .i64))]) fun(u30:(SLC×SLC×Unit)×Int×Unit)=>
 zh (.cells #[(.slice none 0 0),(.slice none 0 0)] 25) fun(r31:Nat)=>
 zc ((#[(.slice u30.1.1.1 u30.1.1.2.1 u30.1.1.2.2),(.slice u30.1.2.1.1 u30.1.2.1.2.1 u30.1.2.1.2.2)]:Array Value).size=2)<|
 zt (aD r31) [(.slice u30.1.1.1 u30.1.1.2.1 u30.1.1.2.2),(.slice u30.1.2.1.1 u30.1.2.1.2.1 u30.1.2.1.2.2)]<|
 ze prog 24 [(.pointer u2.2.1),(.agg #[(.int .u8 (7:Int)),(.slice none 0 0),(.string (ByteArray.mk #[120]))])] (.many [(.one (.int .u32)),(.one (.int .i64))]) fun(u32:Int×Int×Unit)=>
 ze prog 26 [(.pointer u2.2.1)] (.one (.one (.int .i64))) fun(u33:Int)=>
 ze prog 23 [(.int .u32 u32.1),(.int .u32 (0:Int))] (.one (.agg [.slc,.slc])) fun(u34:(SLC×SLC×Unit))=>
 ze prog 27 [(.pointer u2.2.1),(.agg #[(.slice u34.1.1 u34.1.2.1 u34.1.2.2),(.slice u34.2.1.1 u34.2.1.2.1 u34.2.1.2.2)])] (.many [(.one (.int .u32)),(.one (.int .i64))]) fun(u35:Int×Int×Unit)=>
 ze prog 25 [(.pointer u2.2.1),(.int .u32 u35.1)] (.many [(.agg [.slc,.slc]),(.one (.int .i64))]) fun(u36:(SLC×SLC×Unit)×Int×Unit)=>
 zh (.cells #[(.slice none 0 0),(.slice none 0 0)] 25) fun(r37:Nat)=>
 zc ((#[(.slice u36.1.1.1 u36.1.1.2.1 u36.1.1.2.2),(.slice u36.1.2.1.1 u36.1.2.1.2.1 u36.1.2.1.2.2)]:Array Value).size=2)<|
 zt (aD r37) [(.slice u36.1.1.1 u36.1.1.2.1 u36.1.1.2.2),(.slice u36.1.2.1.1 u36.1.2.1.2.1 u36.1.2.1.2.2)]<|
 ze prog 28 [(.pointer u2.2.1),(.int .u32 u35.1)] (.one (.one (.int .i64))) fun(u38:Int)=>
 zk [.slc,.slc] (aD r12) fun(u39:(SLC×SLC×Unit))=>
 ze prog 21 [(.agg #[(.slice u39.1.1 u39.1.2.1 u39.1.2.2),(.slice u39.2.1.1 u39.2.1.2.1 u39.2.1.2.2)])] (.one (.agg [.slc,.slc])) fun(u40:(SLC×SLC×Unit))=>
 zh (.cells #[(.slice none 0 0),(.slice none 0 0)] 25) fun(r41:Nat)=>
 zc ((#[(.slice u40.1.1 u40.1.2.1 u40.1.2.2),(.slice u40.2.1.1 u40.2.1.2.1 u40.2.1.2.2)]:Array Value).size=2)<|
 zt (aD r41) [(.slice u40.1.1 u40.1.2.1 u40.1.2.2),(.slice u40.2.1.1 u40.2.1.2.1 u40.2.1.2.2)]<|
 ldW .slc (aD r41) fun(u42:SLC)=>
 za (((u42.2.1:Nat):Int)==(0:Int)) (K (.bool false))<|
 ldW .slc (aD r41) fun(u43:SLC)=>
 zc (0<=(0:Int)/\(0:Int)<((u43.2.1:Nat):Int))<|
 zi u43.1 fun(p44:Addr)=>
 ldW .slc ((p44.add (Int.toNat (0:Int)*5)).add 1) fun(u45:SLC)=>
 za (((u45.2.1:Nat):Int)==(0:Int)) (K (.bool false))<|
 ldW .slc (aD r37) fun(u46:SLC)=>
 za (((u46.2.1:Nat):Int)==(0:Int)) (K (.bool false))<|
 ldW .slc (aD r41) fun(u47:SLC)=>
 zc (0<=(0:Int)/\(0:Int)<((u47.2.1:Nat):Int))<|
 zi u47.1 fun(p48:Addr)=>
 ldW .slc ((p48.add (Int.toNat (0:Int)*5)).add 1) fun(u49:SLC)=>
 zc (0<=(0:Int)/\(0:Int)<((u49.2.1:Nat):Int))<|
 zi u49.1 fun(p50:Addr)=>
 stW (p50.add (Int.toNat (0:Int)*3)) (.string (ByteArray.mk #[122]))<|
 yC (Bool×Unit) (fun(J51:(Bool×Unit)->WP)=>
 zA<|
 yC (Bool×Unit) (fun(J53:(Bool×Unit)->WP)=>
 za (u4.2.1==(0:Int)) (za (u4.1.toList==(ByteArray.mk #[1,1,116,2,3,1,107,129,1,118,5,0,0,0,0,0,0,0,0,0,0,0,0,1,1,115,1]).toList) (za (u5.2.1==(0:Int)) (zk [.slc,.slc] (aD r6) fun(u55:(SLC×SLC×Unit))=>
 ze prog 23 [(.int .u32 (0:Int)),(.int .u32 (1:Int))] (.one (.agg [.slc,.slc])) fun(u56:(SLC×SLC×Unit))=>
 zq [[((aD r6).add 0,(.slice u55.1.1 u55.1.2.1 u55.1.2.2)),((aD r6).add 1,(.slice u55.2.1.1 u55.2.1.2.1 u55.2.1.2.2))]]<|
 ze prog 13 [(.agg #[(.slice u55.1.1 u55.1.2.1 u55.1.2.2),(.slice u55.2.1.1 u55.2.1.2.1 u55.2.1.2.2)]),(.agg #[(.slice u56.1.1 u56.1.2.1 u56.1.2.2),(.slice u56.2.1.1 u56.2.1.2.1 u56.2.1.2.2)])] (.one (.one .bool)) fun(u57:Bool)=>
 za u57 (J53 (true,()))<|J53 (false,()))<|J53 (false,()))<|J53 (false,()))<|J53 (false,())) fun(y54:Bool×Unit)=>
 yC (Bool×Unit) (fun(J58:(Bool×Unit)->WP)=>
 za y54.1 (za (u7.2.1==(240:Int)) (za (u9.2.1==(240:Int)) (zk [.slc,.slc] (aD r12) fun(u60:(SLC×SLC×Unit))=>
 ze prog 19 [(.agg #[(.slice u60.1.1 u60.1.2.1 u60.1.2.2),(.slice u60.2.1.1 u60.2.1.2.1 u60.2.1.2.2)])] (.one (.one (.int .i64))) fun(u61:Int)=>
 za (u61==(240:Int)) (J58 (true,()))<|J58 (false,()))<|J58 (false,()))<|J58 (false,()))<|J58 (false,())) fun(y59:Bool×Unit)=>
 yC (Bool×Unit) (fun(J62:(Bool×Unit)->WP)=>
 za y59.1 (zk [.slc,.slc] (aD r20) fun(u64:(SLC×SLC×Unit))=>
 ze prog 19 [(.agg #[(.slice u64.1.1 u64.1.2.1 u64.1.2.2),(.slice u64.2.1.1 u64.2.1.2.1 u64.2.1.2.2)])] (.one (.one (.int .i64))) fun(u65:Int)=>
 za (u65==(240:Int)) (za (u24.2.1==(0:Int)) (za (u24.1==(0:Int)) (J62 (true,()))<|J62 (false,()))<|J62 (false,()))<|J62 (false,()))<|J62 (false,())) fun(y63:Bool×Unit)=>
 yC (Bool×Unit) (fun(J66:(Bool×Unit)->WP)=>
 za y63.1 (za (u26.2.1==(210:Int)) (za (u28.2.1==(10:Int)) (za (u30.2.1==(0:Int)) (J66 (true,()))<|J66 (false,()))<|J66 (false,()))<|J66 (false,()))<|J66 (false,())) fun(y67:Bool×Unit)=>
 yC (Bool×Unit) (fun(J68:(Bool×Unit)->WP)=>
 za y67.1 (ldW .slc (aD r31) fun(u70:SLC)=>
 za (((u70.2.1:Nat):Int)==(0:Int)) (za (u35.2.1==(0:Int)) (za (u36.2.1==(0:Int)) (J68 (true,()))<|J68 (false,()))<|J68 (false,()))<|J68 (false,()))<|J68 (false,())) fun(y69:Bool×Unit)=>
 yC (Bool×Unit) (fun(J71:(Bool×Unit)->WP)=>
 za y69.1 (ldW .slc (aD r37) fun(u73:SLC)=>
 zc (0<=(0:Int)/\(0:Int)<((u73.2.1:Nat):Int))<|
 zi u73.1 fun(p74:Addr)=>
 ldW (.int .u32) ((p74.add (Int.toNat (0:Int)*5)).add 2) fun(u75:Int)=>
 za (u75==u32.1) (za (u38==(0:Int)) (J71 (true,()))<|J71 (false,()))<|J71 (false,()))<|J71 (false,())) fun(y72:Bool×Unit)=>
 yC (Bool×Unit) (fun(J76:(Bool×Unit)->WP)=>
 za y72.1 (ze prog 29 [(.pointer u2.2.1),(.int .u32 u32.1)] (.one (.one (.int .i64))) fun(u78:Int)=>
 za (u78==(0:Int)) (ze prog 26 [(.pointer u2.2.1)] (.one (.one (.int .i64))) fun(u79:Int)=>
 za (u79==(wrap .i64 (u33+(1:Int)))) (J76 (true,()))<|J76 (false,()))<|J76 (false,()))<|J76 (false,())) fun(y77:Bool×Unit)=>
 yC (Bool×Unit) (fun(J80:(Bool×Unit)->WP)=>
 za y77.1 (ldW .slc (aD r12) fun(u82:SLC)=>
 zc (0<=(0:Int)/\(0:Int)<((u82.2.1:Nat):Int))<|
 zi u82.1 fun(p83:Addr)=>
 ldW .slc ((p83.add (Int.toNat (0:Int)*5)).add 1) fun(u84:SLC)=>
 zc (0<=(0:Int)/\(0:Int)<((u84.2.1:Nat):Int))<|
 zi u84.1 fun(p85:Addr)=>
 ldW .str (p85.add (Int.toNat (0:Int)*3)) fun(u86:ByteArray)=>
 za (u86.toList==(ByteArray.mk #[107]).toList) (ze prog 23 [(.int .u32 u32.1),(.int .u32 (0:Int))] (.one (.agg [.slc,.slc])) fun(u87:(SLC×SLC×Unit))=>
 ze prog 30 [(.pointer u2.2.1),(.agg #[(.slice u87.1.1 u87.1.2.1 u87.1.2.2),(.slice u87.2.1.1 u87.2.1.2.1 u87.2.1.2.2)])] (.one (.one (.int .i64))) fun(u88:Int)=>
 za (u88==(8:Int)) (J80 (true,()))<|J80 (false,()))<|J80 (false,()))<|J80 (false,())) fun(y81:Bool×Unit)=>
 za y81.1 (ze prog 23 [(.int .u32 (0:Int)),(.int .u32 (0:Int))] (.one (.agg [.slc,.slc])) fun(u89:(SLC×SLC×Unit))=>
 ze prog 30 [(.pointer u2.2.1),(.agg #[(.slice u89.1.1 u89.1.2.1 u89.1.2.2),(.slice u89.2.1.1 u89.2.1.2.1 u89.2.1.2.2)])] (.one (.one (.int .i64))) fun(u90:Int)=>J51 ((u90==(0:Int)),()))<|J51 (false,())) fun(y52:Bool×Unit)=>K (.bool y52.1)
theorem zoV  {K:Value->WP} {w:World} (h:S6  K w):Calls prog 6 #[] w (Ret K):=cF an6 false Tryz.func6 h
def an9:Ann:=(AN (AN (AR (AN (AQ AO AP)) (AN (AN (AN AO))))))
def S9  (K:Value->WP):WP:=
 ze prog 22 [] (.many [(.one .ptr),(.one .ptr)]) fun(u1:Option Addr×Option Addr×Unit)=>
 za (Option.isNone u1.2.1) (K (.bool false))<|
 ze prog 27 [(.pointer u1.2.1),(.agg #[(.slice none 0 0),(.slice none 0 0)])] (.many [(.one (.int .u32)),(.one (.int .i64))]) fun(u2:Int×Int×Unit)=>
 ze prog 23 [(.int .u32 (0:Int)),(.int .u32 (0:Int))] (.one (.agg [.slc,.slc])) fun(u3:(SLC×SLC×Unit))=>
 ze prog 27 [(.pointer u1.2.1),(.agg #[(.slice u3.1.1 u3.1.2.1 u3.1.2.2),(.slice u3.2.1.1 u3.2.1.2.1 u3.2.1.2.2)])] (.many [(.one (.int .u32)),(.one (.int .i64))]) fun(u4:Int×Int×Unit)=>
 ze prog 25 [(.pointer u1.2.1),(.int .u32 u4.1)] (.many [(.agg [.slc,.slc]),(.one (.int .i64))]) fun(u5:(SLC×SLC×Unit)×Int×Unit)=>
 zh (.cells #[(.slice none 0 0),(.slice none 0 0)] 25) fun(r6:Nat)=>
 zc ((#[(.slice u5.1.1.1 u5.1.1.2.1 u5.1.1.2.2),(.slice u5.1.2.1.1 u5.1.2.1.2.1 u5.1.2.1.2.2)]:Array Value).size=2)<|
 zt (aD r6) [(.slice u5.1.1.1 u5.1.1.2.1 u5.1.1.2.2),(.slice u5.1.2.1.1 u5.1.2.1.2.1 u5.1.2.1.2.2)]<|
 zA<|
 za (u2.2.1==(0:Int)) (za (u2.1==(0:Int)) (za (u4.2.1==(0:Int)) (za (u4.1 !=(0:Int)) (za (u5.2.1==(0:Int)) (zk [.slc,.slc] (aD r6) fun(u7:(SLC×SLC×Unit))=>
 ze prog 23 [(.int .u32 (0:Int)),(.int .u32 (0:Int))] (.one (.agg [.slc,.slc])) fun(u8:(SLC×SLC×Unit))=>
 zq [[((aD r6).add 0,(.slice u7.1.1 u7.1.2.1 u7.1.2.2)),((aD r6).add 1,(.slice u7.2.1.1 u7.2.1.2.1 u7.2.1.2.2))]]<|
 ze prog 13 [(.agg #[(.slice u7.1.1 u7.1.2.1 u7.1.2.2),(.slice u7.2.1.1 u7.2.1.2.1 u7.2.1.2.2)]),(.agg #[(.slice u8.1.1 u8.1.2.1 u8.1.2.2),(.slice u8.2.1.1 u8.2.1.2.1 u8.2.1.2.2)])] (.one (.one .bool)) fun(u9:Bool)=>K (.bool u9))<|K (.bool false))<|K (.bool false))<|K (.bool false))<|K (.bool false))<|K (.bool false)
theorem zoW  {K:Value->WP} {w:World} (h:S9  K w):Calls prog 9 #[] w (Ret K):=cF an9 false Tryz.func9 h
def an11:Ann:=(AN (AR (AN (AN (AQ AO AP))) (AN (AR (AN (.block (.loop [(5,.sh (.one .slc)),(25,.sh (.one (.int .i64)))] [1,23,24,1000000] (AN (AR (AQ AP AP) (AR (.block (AN (AN (AR (AN (AQ AO AP)) (AN AO))))) AP)))))) (AN (AR (AN (.block (.loop [(5,.sh (.one .slc)),(67,.sh (.one (.int .i64)))] [65,66,1000000] (AN (AR (AQ AP AP) (AR (.block AO) AP)))))) AO))))))
def S11 (An:Option Addr) (Ao Aq:Nat) (Ab:Option Addr) (Ac Ae:Nat) (K:Value->WP):WP:=
 zh (.cells #[(.slice An Ao Aq),(.slice Ab Ac Ae)] 25) fun(r1:Nat)=>
 zk [.slc,.slc] (aD r1) fun(u2:(SLC×SLC×Unit))=>
 ze prog 19 [(.agg #[(.slice u2.1.1 u2.1.2.1 u2.1.2.2),(.slice u2.2.1.1 u2.2.1.2.1 u2.2.1.2.2)])] (.one (.one (.int .i64))) fun(u3:Int)=>
 za (u3 !=(0:Int)) (K (.tuple #[(.string (ByteArray.mk #[])),(.int .i64 u3)]))<|
 ldW .slc (aD r1) fun(u4:SLC)=>
 zh (.cells #[(.int .u8 (wrap .u8 ((u4.2.1:Nat):Int)))] 5) fun(r5:Nat)=>
 ldW .slc (aD r1) fun(u6:SLC)=>
 zH (SLC×Int×Unit) (((some (aD r5)),1,1),(0:Int),()) fun(y8:SLC×Int×Unit) (I7:(SLC×Int×Unit)->WP)=>
 za (decide (y8.2.1<((u6.2.1:Nat):Int))) (zc (0<=y8.2.1/\y8.2.1<((u6.2.1:Nat):Int))<|
 zi u6.1 fun(p9:Addr)=>
 zk [.str,.slc,(.int .u32),(.int .u64),(.int .i64)] (p9.add (Int.toNat y8.2.1*5)) fun(u10:(ByteArray×SLC×Int×Int×Int×Unit))=>
 zh (.cells #[(.string ByteArray.empty),(.slice none 0 0),(.int .u32 (0:Int)),(.int .u64 (0:Int)),(.int .i64 (0:Int))] 44) fun(r11:Nat)=>
 zc ((#[(.string u10.1),(.slice u10.2.1.1 u10.2.1.2.1 u10.2.1.2.2),(.int .u32 u10.2.2.1),(.int .u64 u10.2.2.2.1),(.int .i64 u10.2.2.2.2.1)]:Array Value).size=5)<|
 zt (aD r11) [(.string u10.1),(.slice u10.2.1.1 u10.2.1.2.1 u10.2.1.2.2),(.int .u32 u10.2.2.1),(.int .u64 u10.2.2.2.1),(.int .i64 u10.2.2.2.2.1)]<|
 ldW .slc ((aD r11).add 1) fun(u12:SLC)=>
 ze prog 40 [(.slice u12.1 u12.2.1 u12.2.2)] (.many [(.one .str),(.one (.int .i64))]) fun(u13:ByteArray×Int×Unit)=>
 za (u13.2.1 !=(0:Int)) (K (.tuple #[(.string (ByteArray.mk #[])),(.int .i64 u13.2.1)]))<|
 ldW .str (aD r11) fun(u14:ByteArray)=>
 ze prog 41 [(.slice y8.1.1 y8.1.2.1 y8.1.2.2),(.string u14)] (.one (.one .slc)) fun(u15:SLC)=>
 zw prog (Builtin.append_ #[85,9] 85 #[(.slice u15.1 u15.2.1 u15.2.2),(.string u13.1)]) .slc fun(u16:SLC)=>
 zA<|
 ldW (.int .u64) ((aD r11).add 3) fun(u17:Int)=>
 ldW (.int .i64) ((aD r11).add 4) fun(u18:Int)=>
 ze prog 42 [(.slice u16.1 u16.2.1 u16.2.2),(.int .u64 u17),(.int .i64 (8:Int))] (.one (.one .slc)) fun(u19:SLC)=>
 zq [[(((aD r11).add 4),(.int .i64 u18))]]<|
 ze prog 42 [(.slice u19.1 u19.2.1 u19.2.2),(.int .u64 (wrap .u64 u18)),(.int .i64 (4:Int))] (.one (.one .slc)) fun(u20:SLC)=>
 ldW (.int .u32) ((aD r11).add 2) fun(u21:Int)=>
 ze prog 43 [(.slice u20.1 u20.2.1 u20.2.2),(.int .u32 u21)] (.one (.one .slc)) fun(u22:SLC)=>I7 ((u22.1,u22.2.1,u22.2.2),(wrap .i64 (y8.2.1+(1:Int))),()))<|
 ldW .slc ((aD r1).add 1) fun(u23:SLC)=>
 zh (.cells #[(.int .u8 (wrap .u8 ((u23.2.1:Nat):Int)))] 5) fun(r24:Nat)=>
 zw prog (Builtin.append_ #[85,85] 85 #[(.slice y8.1.1 y8.1.2.1 y8.1.2.2),(.slice (some (aD r24)) 1 1)]) .slc fun(u25:SLC)=>
 ldW .slc ((aD r1).add 1) fun(u26:SLC)=>
 zH (SLC×Int×Unit) ((u25.1,u25.2.1,u25.2.2),(0:Int),()) fun(y28:SLC×Int×Unit) (I27:(SLC×Int×Unit)->WP)=>
 za (decide (y28.2.1<((u26.2.1:Nat):Int))) (zc (0<=y28.2.1/\y28.2.1<((u26.2.1:Nat):Int))<|
 zi u26.1 fun(p29:Addr)=>
 zk [.str,(.int .u32)] (p29.add (Int.toNat y28.2.1*2)) fun(u30:(ByteArray×Int×Unit))=>
 zh (.cells #[(.string ByteArray.empty),(.int .u32 (0:Int))] 46) fun(r31:Nat)=>
 zc ((#[(.string u30.1),(.int .u32 u30.2.1)]:Array Value).size=2)<|
 zt (aD r31) [(.string u30.1),(.int .u32 u30.2.1)]<|
 zA<|
 ldW .str (aD r31) fun(u32:ByteArray)=>
 ldW (.int .u32) ((aD r31).add 1) fun(u33:Int)=>
 ze prog 41 [(.slice y28.1.1 y28.1.2.1 y28.1.2.2),(.string u32)] (.one (.one .slc)) fun(u34:SLC)=>
 zq [[(((aD r31).add 1),(.int .u32 u33))]]<|
 ze prog 43 [(.slice u34.1 u34.2.1 u34.2.2),(.int .u32 u33)] (.one (.one .slc)) fun(u35:SLC)=>I27 ((u35.1,u35.2.1,u35.2.2),(wrap .i64 (y28.2.1+(1:Int))),()))<|
 zw prog (Go.convert 85 9 (.slice y28.1.1 y28.1.2.1 y28.1.2.2)) .str fun(u36:ByteArray)=>K (.tuple #[(.string u36),(.int .i64 (0:Int))])
theorem znq (An:Option Addr) (Ao Aq:Nat) (Ab:Option Addr) (Ac Ae:Nat) {K:Value->WP} {w:World} (h:S11 An Ao Aq Ab Ac Ae K w):Calls prog 11 #[(.agg #[(.slice An Ao Aq),(.slice Ab Ac Ae)])] w (Ret K):=cF an11 false Tryz.func11 h
def an12:Ann:=(AN (AN (.join [] [2,4,1000000] (AN (.block (.loop [(5,.sh (.one (.int .u64)))] [2,4,1000000] (AR (AN (AQ AP AP)) (AR (.block AP) AP))))) (.join [] [2,4,1000000] (AN (.block (.loop [(6,.sh (.one (.int .u64)))] [2,4,1000000] (AR (AN (AQ AP AP)) (AR (.block AP) AP))))) (AR (AN (AQ AO AP)) AO)))))
def S12 (x0:ByteArray) (K:Value->WP):WP:=
 zh (.cells #[(.slice none 0 0),(.slice none 0 0)] 25) fun(r1:Nat)=>
 zh (.cells #[(.string x0),(.int .i64 (0:Int))] 92) fun(r2:Nat)=>
 yC (Unit) (fun(J3:(Unit)->WP)=>
 ze prog 44 [(.pointer (some (aD r2))),(.int .i64 (1:Int))] (.one (.one (.int .u64))) fun(u5:Int)=>
 zH (Int×Unit) (u5,()) fun(y7:Int×Unit) (I6:(Int×Unit)->WP)=>
 za (decide (y7.1>(0:Int))) (zi (some (aD r2)) fun(p8:Addr)=>
 ldW (.int .i64) (p8.add 1) fun(u9:Int)=>
 za (u9==(0:Int)) (zA<|
 ldW .slc (aD r1) fun(u10:SLC)=>
 ze prog 45 [(.pointer (some (aD r2)))] (.one (.one .str)) fun(u11:ByteArray)=>
 zq [[((aD r1),(.slice u10.1 u10.2.1 u10.2.2))]]<|
 ze prog 46 [(.pointer (some (aD r2)))] (.one (.one .slc)) fun(u12:SLC)=>
 zq [[((aD r1),(.slice u10.1 u10.2.1 u10.2.2))]]<|
 ze prog 44 [(.pointer (some (aD r2))),(.int .i64 (8:Int))] (.one (.one (.int .u64))) fun(u13:Int)=>
 zq [[((aD r1),(.slice u10.1 u10.2.1 u10.2.2))]]<|
 ze prog 44 [(.pointer (some (aD r2))),(.int .i64 (4:Int))] (.one (.one (.int .u64))) fun(u14:Int)=>
 zq [[((aD r1),(.slice u10.1 u10.2.1 u10.2.2))]]<|
 ze prog 47 [(.pointer (some (aD r2)))] (.one (.one (.int .u32))) fun(u15:Int)=>
 zq [[((aD r1),(.slice u10.1 u10.2.1 u10.2.2))]]<|
 zh (.cells #[(.string u11),(.slice u12.1 u12.2.1 u12.2.2),(.int .u32 u15),(.int .u64 u13),(.int .i64 (wrap .i64 u14))] 44) fun(r16:Nat)=>
 zq [[((aD r1),(.slice u10.1 u10.2.1 u10.2.2))]]<|
 zw prog (Builtin.append_ #[22,22] 22 #[(.slice u10.1 u10.2.1 u10.2.2),(.slice (some (aD r16)) 1 1)]) .slc fun(u17:SLC)=>
 stW (aD r1) (.slice u17.1 u17.2.1 u17.2.2)<|I6 ((wrap .u64 (y7.1-(1:Int))),()))<|J3 ())<|J3 ()) fun(y4:Unit)=>
 yC (Unit) (fun(J18:(Unit)->WP)=>
 ze prog 44 [(.pointer (some (aD r2))),(.int .i64 (1:Int))] (.one (.one (.int .u64))) fun(u20:Int)=>
 zH (Int×Unit) (u20,()) fun(y22:Int×Unit) (I21:(Int×Unit)->WP)=>
 za (decide (y22.1>(0:Int))) (zi (some (aD r2)) fun(p23:Addr)=>
 ldW (.int .i64) (p23.add 1) fun(u24:Int)=>
 za (u24==(0:Int)) (zA<|
 ldW .slc ((aD r1).add 1) fun(u25:SLC)=>
 ze prog 45 [(.pointer (some (aD r2)))] (.one (.one .str)) fun(u26:ByteArray)=>
 zq [[(((aD r1).add 1),(.slice u25.1 u25.2.1 u25.2.2))]]<|
 ze prog 47 [(.pointer (some (aD r2)))] (.one (.one (.int .u32))) fun(u27:Int)=>
 zq [[(((aD r1).add 1),(.slice u25.1 u25.2.1 u25.2.2))]]<|
 zh (.cells #[(.string u26),(.int .u32 u27)] 46) fun(r28:Nat)=>
 zq [[(((aD r1).add 1),(.slice u25.1 u25.2.1 u25.2.2))]]<|
 zw prog (Builtin.append_ #[23,23] 23 #[(.slice u25.1 u25.2.1 u25.2.2),(.slice (some (aD r28)) 1 1)]) .slc fun(u29:SLC)=>
 stW ((aD r1).add 1) (.slice u29.1 u29.2.1 u29.2.2)<|I21 ((wrap .u64 (y22.1-(1:Int))),()))<|J18 ())<|J18 ()) fun(y19:Unit)=>
 zi (some (aD r2)) fun(p30:Addr)=>
 ldW (.int .i64) (p30.add 1) fun(u31:Int)=>
 za (u31 !=(0:Int)) (zc ((#[(.slice none 0 0),(.slice none 0 0)]:Array Value).size=2)<|
 zt (aD r1) [(.slice none 0 0),(.slice none 0 0)]<|
 zk [.slc,.slc] (aD r1) fun(u32:(SLC×SLC×Unit))=>K (.tuple #[(.agg #[(.slice u32.1.1 u32.1.2.1 u32.1.2.2),(.slice u32.2.1.1 u32.2.1.2.1 u32.2.1.2.2)]),(.int .i64 (240:Int))]))<|
 zi (some (aD r2)) fun(p33:Addr)=>
 ldW .str p33 fun(u34:ByteArray)=>
 za (!(u34.toList==(ByteArray.mk #[]).toList)) (zc ((#[(.slice none 0 0),(.slice none 0 0)]:Array Value).size=2)<|
 zt (aD r1) [(.slice none 0 0),(.slice none 0 0)]<|
 zk [.slc,.slc] (aD r1) fun(u35:(SLC×SLC×Unit))=>K (.tuple #[(.agg #[(.slice u35.1.1 u35.1.2.1 u35.1.2.2),(.slice u35.2.1.1 u35.2.1.2.1 u35.2.1.2.2)]),(.int .i64 (240:Int))]))<|
 zk [.slc,.slc] (aD r1) fun(u36:(SLC×SLC×Unit))=>
 ze prog 19 [(.agg #[(.slice u36.1.1 u36.1.2.1 u36.1.2.2),(.slice u36.2.1.1 u36.2.1.2.1 u36.2.1.2.2)])] (.one (.one (.int .i64))) fun(u37:Int)=>
 za (u37 !=(0:Int)) (zc ((#[(.slice none 0 0),(.slice none 0 0)]:Array Value).size=2)<|
 zt (aD r1) [(.slice none 0 0),(.slice none 0 0)]<|
 zk [.slc,.slc] (aD r1) fun(u38:(SLC×SLC×Unit))=>K (.tuple #[(.agg #[(.slice u38.1.1 u38.1.2.1 u38.1.2.2),(.slice u38.2.1.1 u38.2.1.2.1 u38.2.1.2.2)]),(.int .i64 (240:Int))]))<|
 zk [.slc,.slc] (aD r1) fun(u39:(SLC×SLC×Unit))=>
 zc ((#[(.slice u39.1.1 u39.1.2.1 u39.1.2.2),(.slice u39.2.1.1 u39.2.1.2.1 u39.2.1.2.2)]:Array Value).size=2)<|
 zt (aD r1) [(.slice u39.1.1 u39.1.2.1 u39.1.2.2),(.slice u39.2.1.1 u39.2.1.2.1 u39.2.1.2.2)]<|
 zk [.slc,.slc] (aD r1) fun(u40:(SLC×SLC×Unit))=>K (.tuple #[(.agg #[(.slice u40.1.1 u40.1.2.1 u40.1.2.2),(.slice u40.2.1.1 u40.2.1.2.1 u40.2.1.2.2)]),(.int .i64 (0:Int))])
theorem znr (x0:ByteArray) {K:Value->WP} {w:World} (h:S12 x0 K w):Calls prog 12 #[(.string x0)] w (Ret K):=cF an12 false Tryz.func12 h
def an13:Ann:=(AN (AR (AN (AQ AO AP)) (AR (AN (.block (.loop [(5,.sh (.one (.int .i64)))] [2,3,1000000] (AR (AN (AQ AP AP)) (AR (.block (AN (AR (AN (AQ AO AP)) (AN (.block (.loop [(8,.sh (.one (.int .i64)))] [2,3,5,6,7,1000000] (AR (AN (AQ AP AP)) (AR (.block (AN (AQ AO AP))) AP)))))))) AP))))) (AR (AN (.block (.loop [(9,.sh (.one (.int .i64)))] [2,3,1000000] (AR (AN (AQ AP AP)) (AR (.block (AN (AQ AO AP))) AP))))) AO))))
def S13 (An:Option Addr) (Ao Aq:Nat) (Ab:Option Addr) (Ac Ae:Nat) (Aw:Option Addr) (Ax Ay:Nat) (As:Option Addr) (Au Av:Nat) (K:Value->WP):WP:=
 zh (.cells #[(.slice An Ao Aq),(.slice Ab Ac Ae)] 25) fun(r1:Nat)=>
 zh (.cells #[(.slice Aw Ax Ay),(.slice As Au Av)] 25) fun(r2:Nat)=>
 ldW .slc (aD r1) fun(u3:SLC)=>
 ldW .slc (aD r2) fun(u4:SLC)=>
 za (((u3.2.1:Nat):Int) !=((u4.2.1:Nat):Int)) (K (.bool false))<|
 ldW .slc ((aD r1).add 1) fun(u5:SLC)=>
 ldW .slc ((aD r2).add 1) fun(u6:SLC)=>
 za (((u5.2.1:Nat):Int) !=((u6.2.1:Nat):Int)) (K (.bool false))<|
 zH (Int×Unit) ((0:Int),()) fun(y8:Int×Unit) (I7:(Int×Unit)->WP)=>
 ldW .slc (aD r1) fun(u9:SLC)=>
 za (decide (y8.1<((u9.2.1:Nat):Int))) (zA<|
 ldW .slc (aD r1) fun(u10:SLC)=>
 zc (0<=y8.1/\y8.1<((u10.2.1:Nat):Int))<|
 zi u10.1 fun(p11:Addr)=>
 zk [.str,.slc,(.int .u32),(.int .u64),(.int .i64)] (p11.add (Int.toNat y8.1*5)) fun(u12:(ByteArray×SLC×Int×Int×Int×Unit))=>
 ldW .slc (aD r2) fun(u13:SLC)=>
 zc (0<=y8.1/\y8.1<((u13.2.1:Nat):Int))<|
 zi u13.1 fun(p14:Addr)=>
 zk [.str,.slc,(.int .u32),(.int .u64),(.int .i64)] (p14.add (Int.toNat y8.1*5)) fun(u15:(ByteArray×SLC×Int×Int×Int×Unit))=>
 kO (zh (.cells #[(.string ByteArray.empty),(.slice none 0 0),(.int .u32 (0:Int)),(.int .u64 (0:Int)),(.int .i64 (0:Int))] 44) fun(r16:Nat)=>
 zq [[((p14.add (Int.toNat y8.1*5)).add 0,(.string u15.1)),((p14.add (Int.toNat y8.1*5)).add 1,(.slice u15.2.1.1 u15.2.1.2.1 u15.2.1.2.2)),((p14.add (Int.toNat y8.1*5)).add 2,(.int .u32 u15.2.2.1)),((p14.add (Int.toNat y8.1*5)).add 3,(.int .u64 u15.2.2.2.1)),((p14.add (Int.toNat y8.1*5)).add 4,(.int .i64 u15.2.2.2.2.1))],[((aD r2),(.slice u13.1 u13.2.1 u13.2.2))],[((p11.add (Int.toNat y8.1*5)).add 0,(.string u12.1)),((p11.add (Int.toNat y8.1*5)).add 1,(.slice u12.2.1.1 u12.2.1.2.1 u12.2.1.2.2)),((p11.add (Int.toNat y8.1*5)).add 2,(.int .u32 u12.2.2.1)),((p11.add (Int.toNat y8.1*5)).add 3,(.int .u64 u12.2.2.2.1)),((p11.add (Int.toNat y8.1*5)).add 4,(.int .i64 u12.2.2.2.2.1))],[((aD r1),(.slice u10.1 u10.2.1 u10.2.2))]]<|
 zh (.cells #[(.string ByteArray.empty),(.slice none 0 0),(.int .u32 (0:Int)),(.int .u64 (0:Int)),(.int .i64 (0:Int))] 44) fun(r17:Nat)=>
 zq [[((p14.add (Int.toNat y8.1*5)).add 0,(.string u15.1)),((p14.add (Int.toNat y8.1*5)).add 1,(.slice u15.2.1.1 u15.2.1.2.1 u15.2.1.2.2)),((p14.add (Int.toNat y8.1*5)).add 2,(.int .u32 u15.2.2.1)),((p14.add (Int.toNat y8.1*5)).add 3,(.int .u64 u15.2.2.2.1)),((p14.add (Int.toNat y8.1*5)).add 4,(.int .i64 u15.2.2.2.2.1))],[((aD r2),(.slice u13.1 u13.2.1 u13.2.2))],[((p11.add (Int.toNat y8.1*5)).add 0,(.string u12.1)),((p11.add (Int.toNat y8.1*5)).add 1,(.slice u12.2.1.1 u12.2.1.2.1 u12.2.1.2.2)),((p11.add (Int.toNat y8.1*5)).add 2,(.int .u32 u12.2.2.1)),((p11.add (Int.toNat y8.1*5)).add 3,(.int .u64 u12.2.2.2.1)),((p11.add (Int.toNat y8.1*5)).add 4,(.int .i64 u12.2.2.2.2.1))],[((aD r1),(.slice u10.1 u10.2.1 u10.2.2))]]<|
 zc ((#[(.string u12.1),(.slice u12.2.1.1 u12.2.1.2.1 u12.2.1.2.2),(.int .u32 u12.2.2.1),(.int .u64 u12.2.2.2.1),(.int .i64 u12.2.2.2.2.1)]:Array Value).size=5)<|
 zt (aD r16) [(.string u12.1),(.slice u12.2.1.1 u12.2.1.2.1 u12.2.1.2.2),(.int .u32 u12.2.2.1),(.int .u64 u12.2.2.2.1),(.int .i64 u12.2.2.2.2.1)]<|
 zq [[((p14.add (Int.toNat y8.1*5)).add 0,(.string u15.1)),((p14.add (Int.toNat y8.1*5)).add 1,(.slice u15.2.1.1 u15.2.1.2.1 u15.2.1.2.2)),((p14.add (Int.toNat y8.1*5)).add 2,(.int .u32 u15.2.2.1)),((p14.add (Int.toNat y8.1*5)).add 3,(.int .u64 u15.2.2.2.1)),((p14.add (Int.toNat y8.1*5)).add 4,(.int .i64 u15.2.2.2.2.1))],[((aD r2),(.slice u13.1 u13.2.1 u13.2.2))]]<|
 zc ((#[(.string u15.1),(.slice u15.2.1.1 u15.2.1.2.1 u15.2.1.2.2),(.int .u32 u15.2.2.1),(.int .u64 u15.2.2.2.1),(.int .i64 u15.2.2.2.2.1)]:Array Value).size=5)<|
 zt (aD r17) [(.string u15.1),(.slice u15.2.1.1 u15.2.1.2.1 u15.2.1.2.2),(.int .u32 u15.2.2.1),(.int .u64 u15.2.2.2.1),(.int .i64 u15.2.2.2.2.1)]<|
 ldW .str (aD r16) fun(u18:ByteArray)=>
 ldW .str (aD r17) fun(u19:ByteArray)=>
 za (!(u18.toList==u19.toList)) (K (.bool false))<|
 ldW (.int .u32) ((aD r16).add 2) fun(u20:Int)=>
 ldW (.int .u32) ((aD r17).add 2) fun(u21:Int)=>
 za (u20 !=u21) (K (.bool false))<|
 ldW (.int .u64) ((aD r16).add 3) fun(u22:Int)=>
 ldW (.int .u64) ((aD r17).add 3) fun(u23:Int)=>
 za (u22 !=u23) (K (.bool false))<|
 ldW (.int .i64) ((aD r16).add 4) fun(u24:Int)=>
 ldW (.int .i64) ((aD r17).add 4) fun(u25:Int)=>
 za (u24 !=u25) (K (.bool false))<|
 ldW .slc ((aD r16).add 1) fun(u26:SLC)=>
 ldW .slc ((aD r17).add 1) fun(u27:SLC)=>
 za (((u26.2.1:Nat):Int) !=((u27.2.1:Nat):Int)) (K (.bool false))<|
 zH (Int×Unit) ((0:Int),()) fun(y29:Int×Unit) (I28:(Int×Unit)->WP)=>
 ldW .slc ((aD r16).add 1) fun(u30:SLC)=>
 za (decide (y29.1<((u30.2.1:Nat):Int))) (zA<|
 ldW .slc ((aD r16).add 1) fun(u31:SLC)=>
 zc (0<=y29.1/\y29.1<((u31.2.1:Nat):Int))<|
 zi u31.1 fun(p32:Addr)=>
 zk [.str,(.int .i64),.bool] (p32.add (Int.toNat y29.1*3)) fun(u33:(ByteArray×Int×Bool×Unit))=>
 ldW .slc ((aD r17).add 1) fun(u34:SLC)=>
 zc (0<=y29.1/\y29.1<((u34.2.1:Nat):Int))<|
 zi u34.1 fun(p35:Addr)=>
 zk [.str,(.int .i64),.bool] (p35.add (Int.toNat y29.1*3)) fun(u36:(ByteArray×Int×Bool×Unit))=>
 eqW prog (eqS .neq 62 (.tmp 89) (.tmp 94) (.agg #[(.string u33.1),(.int .i64 u33.2.1),(.bool u33.2.2.1)]) (.agg #[(.string u36.1),(.int .i64 u36.2.1),(.bool u36.2.2.1)])) fun(b37:Bool)=>
 za b37 (K (.bool false))<|I28 ((wrap .i64 (y29.1+(1:Int))),()))<|I7 ((wrap .i64 (y8.1+(1:Int))),()))<|
 zh (.cells #[(.string ByteArray.empty),(.slice none 0 0),(.int .u32 (0:Int)),(.int .u64 (0:Int)),(.int .i64 (0:Int))] 44) fun(r38:Nat)=>
 zq [[((p14.add (Int.toNat y8.1*5)).add 0,(.string u15.1)),((p14.add (Int.toNat y8.1*5)).add 1,(.slice u15.2.1.1 u15.2.1.2.1 u15.2.1.2.2)),((p14.add (Int.toNat y8.1*5)).add 2,(.int .u32 u15.2.2.1)),((p14.add (Int.toNat y8.1*5)).add 3,(.int .u64 u15.2.2.2.1)),((p14.add (Int.toNat y8.1*5)).add 4,(.int .i64 u15.2.2.2.2.1))],[((aD r2),(.slice u13.1 u13.2.1 u13.2.2))],[((p11.add (Int.toNat y8.1*5)).add 0,(.string u12.1)),((p11.add (Int.toNat y8.1*5)).add 1,(.slice u12.2.1.1 u12.2.1.2.1 u12.2.1.2.2)),((p11.add (Int.toNat y8.1*5)).add 2,(.int .u32 u12.2.2.1)),((p11.add (Int.toNat y8.1*5)).add 3,(.int .u64 u12.2.2.2.1)),((p11.add (Int.toNat y8.1*5)).add 4,(.int .i64 u12.2.2.2.2.1))],[((aD r1),(.slice u10.1 u10.2.1 u10.2.2))]]<|
 zh (.cells #[(.string ByteArray.empty),(.slice none 0 0),(.int .u32 (0:Int)),(.int .u64 (0:Int)),(.int .i64 (0:Int))] 44) fun(r39:Nat)=>
 zq [[((p14.add (Int.toNat y8.1*5)).add 0,(.string u15.1)),((p14.add (Int.toNat y8.1*5)).add 1,(.slice u15.2.1.1 u15.2.1.2.1 u15.2.1.2.2)),((p14.add (Int.toNat y8.1*5)).add 2,(.int .u32 u15.2.2.1)),((p14.add (Int.toNat y8.1*5)).add 3,(.int .u64 u15.2.2.2.1)),((p14.add (Int.toNat y8.1*5)).add 4,(.int .i64 u15.2.2.2.2.1))],[((aD r2),(.slice u13.1 u13.2.1 u13.2.2))],[((p11.add (Int.toNat y8.1*5)).add 0,(.string u12.1)),((p11.add (Int.toNat y8.1*5)).add 1,(.slice u12.2.1.1 u12.2.1.2.1 u12.2.1.2.2)),((p11.add (Int.toNat y8.1*5)).add 2,(.int .u32 u12.2.2.1)),((p11.add (Int.toNat y8.1*5)).add 3,(.int .u64 u12.2.2.2.1)),((p11.add (Int.toNat y8.1*5)).add 4,(.int .i64 u12.2.2.2.2.1))],[((aD r1),(.slice u10.1 u10.2.1 u10.2.2))]]<|
 zc ((#[(.string u12.1),(.slice u12.2.1.1 u12.2.1.2.1 u12.2.1.2.2),(.int .u32 u12.2.2.1),(.int .u64 u12.2.2.2.1),(.int .i64 u12.2.2.2.2.1)]:Array Value).size=5)<|
 zt (aD r39) [(.string u12.1),(.slice u12.2.1.1 u12.2.1.2.1 u12.2.1.2.2),(.int .u32 u12.2.2.1),(.int .u64 u12.2.2.2.1),(.int .i64 u12.2.2.2.2.1)]<|
 zq [[((p14.add (Int.toNat y8.1*5)).add 0,(.string u15.1)),((p14.add (Int.toNat y8.1*5)).add 1,(.slice u15.2.1.1 u15.2.1.2.1 u15.2.1.2.2)),((p14.add (Int.toNat y8.1*5)).add 2,(.int .u32 u15.2.2.1)),((p14.add (Int.toNat y8.1*5)).add 3,(.int .u64 u15.2.2.2.1)),((p14.add (Int.toNat y8.1*5)).add 4,(.int .i64 u15.2.2.2.2.1))],[((aD r2),(.slice u13.1 u13.2.1 u13.2.2))]]<|
 zc ((#[(.string u15.1),(.slice u15.2.1.1 u15.2.1.2.1 u15.2.1.2.2),(.int .u32 u15.2.2.1),(.int .u64 u15.2.2.2.1),(.int .i64 u15.2.2.2.2.1)]:Array Value).size=5)<|
 zt (aD r38) [(.string u15.1),(.slice u15.2.1.1 u15.2.1.2.1 u15.2.1.2.2),(.int .u32 u15.2.2.1),(.int .u64 u15.2.2.2.1),(.int .i64 u15.2.2.2.2.1)]<|
 ldW .str (aD r39) fun(u40:ByteArray)=>
 ldW .str (aD r38) fun(u41:ByteArray)=>
 za (!(u40.toList==u41.toList)) (K (.bool false))<|
 ldW (.int .u32) ((aD r39).add 2) fun(u42:Int)=>
 ldW (.int .u32) ((aD r38).add 2) fun(u43:Int)=>
 za (u42 !=u43) (K (.bool false))<|
 ldW (.int .u64) ((aD r39).add 3) fun(u44:Int)=>
 ldW (.int .u64) ((aD r38).add 3) fun(u45:Int)=>
 za (u44 !=u45) (K (.bool false))<|
 ldW (.int .i64) ((aD r39).add 4) fun(u46:Int)=>
 ldW (.int .i64) ((aD r38).add 4) fun(u47:Int)=>
 za (u46 !=u47) (K (.bool false))<|
 ldW .slc ((aD r39).add 1) fun(u48:SLC)=>
 ldW .slc ((aD r38).add 1) fun(u49:SLC)=>
 za (((u48.2.1:Nat):Int) !=((u49.2.1:Nat):Int)) (K (.bool false))<|
 zH (Int×Unit) ((0:Int),()) fun(y51:Int×Unit) (I50:(Int×Unit)->WP)=>
 ldW .slc ((aD r39).add 1) fun(u52:SLC)=>
 za (decide (y51.1<((u52.2.1:Nat):Int))) (zA<|
 ldW .slc ((aD r39).add 1) fun(u53:SLC)=>
 zc (0<=y51.1/\y51.1<((u53.2.1:Nat):Int))<|
 zi u53.1 fun(p54:Addr)=>
 zk [.str,(.int .i64),.bool] (p54.add (Int.toNat y51.1*3)) fun(u55:(ByteArray×Int×Bool×Unit))=>
 ldW .slc ((aD r38).add 1) fun(u56:SLC)=>
 zc (0<=y51.1/\y51.1<((u56.2.1:Nat):Int))<|
 zi u56.1 fun(p57:Addr)=>
 zk [.str,(.int .i64),.bool] (p57.add (Int.toNat y51.1*3)) fun(u58:(ByteArray×Int×Bool×Unit))=>
 eqW prog (eqS .neq 62 (.tmp 89) (.tmp 94) (.agg #[(.string u55.1),(.int .i64 u55.2.1),(.bool u55.2.2.1)]) (.agg #[(.string u58.1),(.int .i64 u58.2.1),(.bool u58.2.2.1)])) fun(b59:Bool)=>
 za b59 (K (.bool false))<|I50 ((wrap .i64 (y51.1+(1:Int))),()))<|I7 ((wrap .i64 (y8.1+(1:Int))),()))<|
 zH (Int×Unit) ((0:Int),()) fun(y61:Int×Unit) (I60:(Int×Unit)->WP)=>
 ldW .slc ((aD r1).add 1) fun(u62:SLC)=>
 za (decide (y61.1<((u62.2.1:Nat):Int))) (zA<|
 ldW .slc ((aD r1).add 1) fun(u63:SLC)=>
 zc (0<=y61.1/\y61.1<((u63.2.1:Nat):Int))<|
 zi u63.1 fun(p64:Addr)=>
 zk [.str,(.int .u32)] (p64.add (Int.toNat y61.1*2)) fun(u65:(ByteArray×Int×Unit))=>
 ldW .slc ((aD r2).add 1) fun(u66:SLC)=>
 zc (0<=y61.1/\y61.1<((u66.2.1:Nat):Int))<|
 zi u66.1 fun(p67:Addr)=>
 zk [.str,(.int .u32)] (p67.add (Int.toNat y61.1*2)) fun(u68:(ByteArray×Int×Unit))=>
 eqW prog (eqS .neq 46 (.tmp 107) (.tmp 112) (.agg #[(.string u65.1),(.int .u32 u65.2.1)]) (.agg #[(.string u68.1),(.int .u32 u68.2.1)])) fun(b69:Bool)=>
 za b69 (K (.bool false))<|I60 ((wrap .i64 (y61.1+(1:Int))),()))<|K (.bool true)
theorem zns (An:Option Addr) (Ao Aq:Nat) (Ab:Option Addr) (Ac Ae:Nat) (Aw:Option Addr) (Ax Ay:Nat) (As:Option Addr) (Au Av:Nat) {K:Value->WP} {w:World} (h:S13 An Ao Aq Ab Ac Ae Aw Ax Ay As Au Av K w):Calls prog 13 #[(.agg #[(.slice An Ao Aq),(.slice Ab Ac Ae)]),(.agg #[(.slice Aw Ax Ay),(.slice As Au Av)])] w (Ret K):=cF an13 false Tryz.func13 h
def an17:Ann:=(AN (AN (AR (AN (AQ AO AP)) AO)))
def S17 (An:Option Addr) (Ao Aq:Nat) (Ab:Option Addr) (Ac Ae:Nat) (x1:ByteArray) (K:Value->WP):WP:=
 zh (.cells #[(.slice An Ao Aq),(.slice Ab Ac Ae)] 25) fun(r1:Nat)=>
 zh (.cells #[(.string x1)] 9) fun(r2:Nat)=>
 ldW .slc (aD r1) fun(u3:SLC)=>
 ze prog 55 [(.slice u3.1 u3.2.1 u3.2.2),(.func (.func 56) #[] #[(.pointer (some (aD r2)))])] (.one (.one (.int .i64))) fun(u4:Int)=>
 za (decide (u4<(0:Int))) (K (.tuple #[(.int .i64 (0:Int)),(.int .i64 (210:Int))]))<|K (.tuple #[(.int .i64 u4),(.int .i64 (0:Int))])
theorem znt (An:Option Addr) (Ao Aq:Nat) (Ab:Option Addr) (Ac Ae:Nat) (x1:ByteArray) {K:Value->WP} {w:World} (h:S17 An Ao Aq Ab Ac Ae x1 K w):Calls prog 17 #[(.agg #[(.slice An Ao Aq),(.slice Ab Ac Ae)]),(.string x1)] w (Ret K):=cF an17 false Tryz.func17 h
def an19:Ann:=(AN (.join [(3,.sh (.one .bool))] [1,1000000] AP (AR (AN (AQ AO AP)) AO)))
def S19 (An:Option Addr) (Ao Aq:Nat) (Ab:Option Addr) (Ac Ae:Nat) (K:Value->WP):WP:=
 zh (.cells #[(.slice An Ao Aq),(.slice Ab Ac Ae)] 25) fun(r1:Nat)=>
 yC (Bool×Unit) (fun(J2:(Bool×Unit)->WP)=>
 ldW .slc (aD r1) fun(u4:SLC)=>
 za (decide (((u4.2.1:Nat):Int)>(16:Int))) (J2 (true,()))<|
 ldW .slc ((aD r1).add 1) fun(u5:SLC)=>J2 ((decide (((u5.2.1:Nat):Int)>(16:Int))),())) fun(y3:Bool×Unit)=>
 za y3.1 (K (.int .i64 (240:Int)))<|
 ldW .slc (aD r1) fun(u6:SLC)=>
 ze prog 57 [(.slice u6.1 u6.2.1 u6.2.2),(.func (.func 58) #[] #[])] (.one (.one .bool)) fun(u7:Bool)=>
 za (!u7) (K (.int .i64 (240:Int)))<|
 ldW .slc ((aD r1).add 1) fun(u8:SLC)=>
 ze prog 59 [(.slice u8.1 u8.2.1 u8.2.2),(.func (.func 60) #[] #[])] (.one (.one .bool)) fun(u9:Bool)=>
 za (!u9) (K (.int .i64 (240:Int)))<|
 ldW .slc (aD r1) fun(u10:SLC)=>
 ze prog 61 [(.slice u10.1 u10.2.1 u10.2.2),(.func (.func 62) #[] #[])] (.one (.one .bool)) fun(u11:Bool)=>
 za u11 (K (.int .i64 (240:Int)))<|K (.int .i64 (0:Int))
theorem znu (An:Option Addr) (Ao Aq:Nat) (Ab:Option Addr) (Ac Ae:Nat) {K:Value->WP} {w:World} (h:S19 An Ao Aq Ab Ac Ae K w):Calls prog 19 #[(.agg #[(.slice An Ao Aq),(.slice Ab Ac Ae)])] w (Ret K):=cF an19 false Tryz.func19 h
def an21:Ann:=(AN (AN (AR (AN (.block (.loop [(16,.sh (.one (.int .i64)))] [2,3,14,15,1000000] (AN (AR (AQ AP AP) (AR (.block AO) AP)))))) AO)))
def S21 (An:Option Addr) (Ao Aq:Nat) (Ab:Option Addr) (Ac Ae:Nat) (K:Value->WP):WP:=
 zh (.cells #[(.slice An Ao Aq),(.slice Ab Ac Ae)] 25) fun(r1:Nat)=>
 zh (.cells #[(.slice none 0 0),(.slice none 0 0)] 25) fun(r2:Nat)=>
 zA<|
 ldW .slc (aD r1) fun(u3:SLC)=>
 ldW .slc ((aD r1).add 1) fun(u4:SLC)=>
 kO (ze prog 65 [(.slice u3.1 u3.2.1 u3.2.2)] (.one (.one .slc)) fun(u5:SLC)=>
 zq [[(((aD r1).add 1),(.slice u4.1 u4.2.1 u4.2.2))]]<|
 kO (ze prog 66 [(.slice u4.1 u4.2.1 u4.2.2)] (.one (.one .slc)) fun(u6:SLC)=>
 zh (.cells #[(.slice none 0 0),(.slice none 0 0)] 25) fun(r7:Nat)=>
 zq [[(((aD r1).add 1),(.slice u4.1 u4.2.1 u4.2.2))],[((aD r1),(.slice u3.1 u3.2.1 u3.2.2))]]<|
 zc ((#[(.slice u5.1 u5.2.1 u5.2.2),(.slice u6.1 u6.2.1 u6.2.2)]:Array Value).size=2)<|
 zt (aD r7) [(.slice u5.1 u5.2.1 u5.2.2),(.slice u6.1 u6.2.1 u6.2.2)]<|
 ldW .slc (aD r7) fun(u8:SLC)=>
 zH (Int×Unit) ((0:Int),()) fun(y10:Int×Unit) (I9:(Int×Unit)->WP)=>
 za (decide (y10.1<((u8.2.1:Nat):Int))) (zc (0<=y10.1/\y10.1<((u8.2.1:Nat):Int))<|
 zi u8.1 fun(p11:Addr)=>
 zk [.str,.slc,(.int .u32),(.int .u64),(.int .i64)] (p11.add (Int.toNat y10.1*5)) fun(u12:(ByteArray×SLC×Int×Int×Int×Unit))=>
 zh (.cells #[(.string ByteArray.empty),(.slice none 0 0),(.int .u32 (0:Int)),(.int .u64 (0:Int)),(.int .i64 (0:Int))] 44) fun(r13:Nat)=>
 zc ((#[(.string u12.1),(.slice u12.2.1.1 u12.2.1.2.1 u12.2.1.2.2),(.int .u32 u12.2.2.1),(.int .u64 u12.2.2.2.1),(.int .i64 u12.2.2.2.2.1)]:Array Value).size=5)<|
 zt (aD r13) [(.string u12.1),(.slice u12.2.1.1 u12.2.1.2.1 u12.2.1.2.2),(.int .u32 u12.2.2.1),(.int .u64 u12.2.2.2.1),(.int .i64 u12.2.2.2.2.1)]<|
 zA<|
 ldW .slc (aD r7) fun(u14:SLC)=>
 ldW .slc ((aD r13).add 1) fun(u15:SLC)=>
 ze prog 67 [(.slice u15.1 u15.2.1 u15.2.2)] (.one (.one .slc)) fun(u16:SLC)=>
 zq [[((aD r7),(.slice u14.1 u14.2.1 u14.2.2))]]<|
 zc (0<=y10.1/\y10.1<((u14.2.1:Nat):Int))<|
 zi u14.1 fun(p17:Addr)=>
 stW ((p17.add (Int.toNat y10.1*5)).add 1) (.slice u16.1 u16.2.1 u16.2.2)<|I9 ((wrap .i64 (y10.1+(1:Int))),()))<|
 zk [.slc,.slc] (aD r7) fun(u18:(SLC×SLC×Unit))=>
 zc ((#[(.slice u18.1.1 u18.1.2.1 u18.1.2.2),(.slice u18.2.1.1 u18.2.1.2.1 u18.2.1.2.2)]:Array Value).size=2)<|
 zt (aD r2) [(.slice u18.1.1 u18.1.2.1 u18.1.2.2),(.slice u18.2.1.1 u18.2.1.2.1 u18.2.1.2.2)]<|
 zk [.slc,.slc] (aD r2) fun(u19:(SLC×SLC×Unit))=>K (.agg #[(.slice u19.1.1 u19.1.2.1 u19.1.2.2),(.slice u19.2.1.1 u19.2.1.2.1 u19.2.1.2.2)]))<|
 zh (.cells #[(.slice none 0 0),(.slice none 0 0)] 25) fun(r20:Nat)=>
 zq [[(((aD r1).add 1),(.slice u4.1 u4.2.1 u4.2.2))],[((aD r1),(.slice u3.1 u3.2.1 u3.2.2))]]<|
 ze prog 66 [(.slice u4.1 u4.2.1 u4.2.2)] (.one (.one .slc)) fun(u21:SLC)=>
 zc ((#[(.slice u5.1 u5.2.1 u5.2.2),(.slice u21.1 u21.2.1 u21.2.2)]:Array Value).size=2)<|
 zt (aD r20) [(.slice u5.1 u5.2.1 u5.2.2),(.slice u21.1 u21.2.1 u21.2.2)]<|
 ldW .slc (aD r20) fun(u22:SLC)=>
 zH (Int×Unit) ((0:Int),()) fun(y24:Int×Unit) (I23:(Int×Unit)->WP)=>
 za (decide (y24.1<((u22.2.1:Nat):Int))) (zc (0<=y24.1/\y24.1<((u22.2.1:Nat):Int))<|
 zi u22.1 fun(p25:Addr)=>
 zk [.str,.slc,(.int .u32),(.int .u64),(.int .i64)] (p25.add (Int.toNat y24.1*5)) fun(u26:(ByteArray×SLC×Int×Int×Int×Unit))=>
 zh (.cells #[(.string ByteArray.empty),(.slice none 0 0),(.int .u32 (0:Int)),(.int .u64 (0:Int)),(.int .i64 (0:Int))] 44) fun(r27:Nat)=>
 zc ((#[(.string u26.1),(.slice u26.2.1.1 u26.2.1.2.1 u26.2.1.2.2),(.int .u32 u26.2.2.1),(.int .u64 u26.2.2.2.1),(.int .i64 u26.2.2.2.2.1)]:Array Value).size=5)<|
 zt (aD r27) [(.string u26.1),(.slice u26.2.1.1 u26.2.1.2.1 u26.2.1.2.2),(.int .u32 u26.2.2.1),(.int .u64 u26.2.2.2.1),(.int .i64 u26.2.2.2.2.1)]<|
 zA<|
 ldW .slc (aD r20) fun(u28:SLC)=>
 ldW .slc ((aD r27).add 1) fun(u29:SLC)=>
 ze prog 67 [(.slice u29.1 u29.2.1 u29.2.2)] (.one (.one .slc)) fun(u30:SLC)=>
 zq [[((aD r20),(.slice u28.1 u28.2.1 u28.2.2))]]<|
 zc (0<=y24.1/\y24.1<((u28.2.1:Nat):Int))<|
 zi u28.1 fun(p31:Addr)=>
 stW ((p31.add (Int.toNat y24.1*5)).add 1) (.slice u30.1 u30.2.1 u30.2.2)<|I23 ((wrap .i64 (y24.1+(1:Int))),()))<|
 zk [.slc,.slc] (aD r20) fun(u32:(SLC×SLC×Unit))=>
 zc ((#[(.slice u32.1.1 u32.1.2.1 u32.1.2.2),(.slice u32.2.1.1 u32.2.1.2.1 u32.2.1.2.2)]:Array Value).size=2)<|
 zt (aD r2) [(.slice u32.1.1 u32.1.2.1 u32.1.2.2),(.slice u32.2.1.1 u32.2.1.2.1 u32.2.1.2.2)]<|
 zk [.slc,.slc] (aD r2) fun(u33:(SLC×SLC×Unit))=>K (.agg #[(.slice u33.1.1 u33.1.2.1 u33.1.2.2),(.slice u33.2.1.1 u33.2.1.2.1 u33.2.1.2.2)]))<|
 zh (.cells #[(.slice none 0 0),(.slice none 0 0)] 25) fun(r34:Nat)=>
 zq [[(((aD r1).add 1),(.slice u4.1 u4.2.1 u4.2.2))],[((aD r1),(.slice u3.1 u3.2.1 u3.2.2))]]<|
 ze prog 65 [(.slice u3.1 u3.2.1 u3.2.2)] (.one (.one .slc)) fun(u35:SLC)=>
 zq [[(((aD r1).add 1),(.slice u4.1 u4.2.1 u4.2.2))]]<|
 ze prog 66 [(.slice u4.1 u4.2.1 u4.2.2)] (.one (.one .slc)) fun(u36:SLC)=>
 zc ((#[(.slice u35.1 u35.2.1 u35.2.2),(.slice u36.1 u36.2.1 u36.2.2)]:Array Value).size=2)<|
 zt (aD r34) [(.slice u35.1 u35.2.1 u35.2.2),(.slice u36.1 u36.2.1 u36.2.2)]<|
 ldW .slc (aD r34) fun(u37:SLC)=>
 zH (Int×Unit) ((0:Int),()) fun(y39:Int×Unit) (I38:(Int×Unit)->WP)=>
 za (decide (y39.1<((u37.2.1:Nat):Int))) (zc (0<=y39.1/\y39.1<((u37.2.1:Nat):Int))<|
 zi u37.1 fun(p40:Addr)=>
 zk [.str,.slc,(.int .u32),(.int .u64),(.int .i64)] (p40.add (Int.toNat y39.1*5)) fun(u41:(ByteArray×SLC×Int×Int×Int×Unit))=>
 zh (.cells #[(.string ByteArray.empty),(.slice none 0 0),(.int .u32 (0:Int)),(.int .u64 (0:Int)),(.int .i64 (0:Int))] 44) fun(r42:Nat)=>
 zc ((#[(.string u41.1),(.slice u41.2.1.1 u41.2.1.2.1 u41.2.1.2.2),(.int .u32 u41.2.2.1),(.int .u64 u41.2.2.2.1),(.int .i64 u41.2.2.2.2.1)]:Array Value).size=5)<|
 zt (aD r42) [(.string u41.1),(.slice u41.2.1.1 u41.2.1.2.1 u41.2.1.2.2),(.int .u32 u41.2.2.1),(.int .u64 u41.2.2.2.1),(.int .i64 u41.2.2.2.2.1)]<|
 zA<|
 ldW .slc (aD r34) fun(u43:SLC)=>
 ldW .slc ((aD r42).add 1) fun(u44:SLC)=>
 ze prog 67 [(.slice u44.1 u44.2.1 u44.2.2)] (.one (.one .slc)) fun(u45:SLC)=>
 zq [[((aD r34),(.slice u43.1 u43.2.1 u43.2.2))]]<|
 zc (0<=y39.1/\y39.1<((u43.2.1:Nat):Int))<|
 zi u43.1 fun(p46:Addr)=>
 stW ((p46.add (Int.toNat y39.1*5)).add 1) (.slice u45.1 u45.2.1 u45.2.2)<|I38 ((wrap .i64 (y39.1+(1:Int))),()))<|
 zk [.slc,.slc] (aD r34) fun(u47:(SLC×SLC×Unit))=>
 zc ((#[(.slice u47.1.1 u47.1.2.1 u47.1.2.2),(.slice u47.2.1.1 u47.2.1.2.1 u47.2.1.2.2)]:Array Value).size=2)<|
 zt (aD r2) [(.slice u47.1.1 u47.1.2.1 u47.1.2.2),(.slice u47.2.1.1 u47.2.1.2.1 u47.2.1.2.2)]<|
 zk [.slc,.slc] (aD r2) fun(u48:(SLC×SLC×Unit))=>K (.agg #[(.slice u48.1.1 u48.1.2.1 u48.1.2.2),(.slice u48.2.1.1 u48.2.1.2.1 u48.2.1.2.2)])
theorem znv (An:Option Addr) (Ao Aq:Nat) (Ab:Option Addr) (Ac Ae:Nat) {K:Value->WP} {w:World} (h:S21 An Ao Aq Ab Ac Ae K w):Calls prog 21 #[(.agg #[(.slice An Ao Aq),(.slice Ab Ac Ae)])] w (Ret K):=cF an21 false Tryz.func21 h
def an22:Ann:=(AN (AN (AN (AR (AN (AQ AO AP)) AO))))
def S22  (K:Value->WP):WP:=
 ze prog 68 [(.agg #[(.int .i64 (256:Int)),(.int .i64 (256:Int))])] (.many [(.one .ptr),(.one (.int .i64))]) fun(u1:Option Addr×Int×Unit)=>
 ze prog 69 [(.pointer u1.1)] (.many [(.one .ptr),(.one (.int .i64))]) fun(u2:Option Addr×Int×Unit)=>
 za (u2.2.1 !=(0:Int)) (K (.tuple #[(.pointer none),(.pointer none)]))<|K (.tuple #[(.pointer u1.1),(.pointer u2.1)])
theorem znw  {K:Value->WP} {w:World} (h:S22  K w):Calls prog 22 #[] w (Ret K):=cF an22 false Tryz.func22 h
def an23:Ann:=(AN (AN (AR (AN (AQ AP AP)) AO)))
def S23 (x0:Int) (x1:Int) (K:Value->WP):WP:=
 zh (.cells #[(.slice none 0 0),(.slice none 0 0)] 25) fun(r1:Nat)=>
 za (x0 !=(0:Int)) (ze prog 70 [] (.one (.one .slc)) fun(u2:SLC)=>
 zh (.cells #[(.string (ByteArray.mk #[116])),(.slice u2.1 u2.2.1 u2.2.2),(.int .u32 x0),(.int .u64 (5:Int)),(.int .i64 (3:Int))] 44) fun(r3:Nat)=>
 zh (.cells #[(.string (ByteArray.mk #[115])),(.int .u32 x1)] 46) fun(r4:Nat)=>
 zc ((#[(.slice (some (aD r3)) 1 1),(.slice (some (aD r4)) 1 1)]:Array Value).size=2)<|
 zt (aD r1) [(.slice (some (aD r3)) 1 1),(.slice (some (aD r4)) 1 1)]<|
 zk [.slc,.slc] (aD r1) fun(u5:(SLC×SLC×Unit))=>K (.agg #[(.slice u5.1.1 u5.1.2.1 u5.1.2.2),(.slice u5.2.1.1 u5.2.1.2.1 u5.2.1.2.2)]))<|
 ze prog 70 [] (.one (.one .slc)) fun(u6:SLC)=>
 zh (.cells #[(.string (ByteArray.mk #[116])),(.slice u6.1 u6.2.1 u6.2.2),(.int .u32 x0),(.int .u64 (5:Int)),(.int .i64 (0:Int))] 44) fun(r7:Nat)=>
 zh (.cells #[(.string (ByteArray.mk #[115])),(.int .u32 x1)] 46) fun(r8:Nat)=>
 zc ((#[(.slice (some (aD r7)) 1 1),(.slice (some (aD r8)) 1 1)]:Array Value).size=2)<|
 zt (aD r1) [(.slice (some (aD r7)) 1 1),(.slice (some (aD r8)) 1 1)]<|
 zk [.slc,.slc] (aD r1) fun(u9:(SLC×SLC×Unit))=>K (.agg #[(.slice u9.1.1 u9.1.2.1 u9.1.2.2),(.slice u9.2.1.1 u9.2.1.2.1 u9.2.1.2.2)])
theorem znx (x0:Int) (x1:Int) {K:Value->WP} {w:World} (h:S23 x0 x1 K w):Calls prog 23 #[(.int .u32 x0),(.int .u32 x1)] w (Ret K):=cF an23 false Tryz.func23 h
def an24:Ann:=(AN (AR (.block (AN (AQ AO (.join [(15,.sh (.one .bool))] [2,3,1000000] AP (AQ AO (AN (AQ AO (.join [(36,.sh (.one .bool))] [2,3,1000000] AP (AQ AO (AN (AQ AO AP))))))))))) (AN (AR (AN (AQ AO AP)) (AN (AR (AN (.block (.loop [(8,.sh (.one .slc)),(81,.sh (.one (.int .i64)))] [2,3,6,79,80,1000000] (AN (AR (AQ AP AP) (AR (.block AO) AP)))))) (AR (AN (AN (AQ AO AP))) AO)))))))
def S24 (x0:Option Addr) (AA:Int) (As:Option Addr) (Au Av:Nat) (AB:ByteArray) (K:Value->WP):WP:=
 zh (.cells #[(.pointer x0)] 48) fun(r1:Nat)=>
 zh (.cells #[(.int .u8 AA),(.slice As Au Av),(.string AB)] 56) fun(r2:Nat)=>
 ldW .ptr (aD r1) fun(u3:Option Addr)=>
 za (Option.isNone u3) (K (.tuple #[(.int .u32 (0:Int)),(.int .i64 (1:Int))]))<|
 yC (Bool×Unit) (fun(J4:(Bool×Unit)->WP)=>
 ldW (.int .u8) (aD r2) fun(u6:Int)=>
 za (decide (u6<(3:Int))) (J4 (true,()))<|
 ldW .slc ((aD r2).add 1) fun(u7:SLC)=>
 za (decide (((u7.2.1:Nat):Int)>(65535:Int))) (J4 (true,()))<|
 ldW .slc ((aD r2).add 1) fun(u8:SLC)=>
 ze prog 71 [(.slice u8.1 u8.2.1 u8.2.2),(.func (.func 72) #[] #[(.pointer (some (aD r1)))])] (.one (.one .bool)) fun(u9:Bool)=>J4 (u9,())) fun(y5:Bool×Unit)=>
 za y5.1 (K (.tuple #[(.int .u32 (0:Int)),(.int .i64 (2:Int))]))<|
 ldW .slc ((aD r2).add 1) fun(u10:SLC)=>
 ze prog 71 [(.slice u10.1 u10.2.1 u10.2.2),(.func (.func 74) #[] #[(.pointer (some (aD r1)))])] (.one (.one .bool)) fun(u11:Bool)=>
 za u11 (K (.tuple #[(.int .u32 (0:Int)),(.int .i64 (8:Int))]))<|
 yC (Bool×Unit) (fun(J12:(Bool×Unit)->WP)=>
 zA<|
 ldW .slc ((aD r2).add 1) fun(u14:SLC)=>
 ldW .ptr (aD r1) fun(u15:Option Addr)=>
 ze prog 76 [(.pointer u15),(.int .i64 (0:Int))] (.one (.one (.int .i64))) fun(u16:Int)=>
 zq [[(((aD r2).add 1),(.slice u14.1 u14.2.1 u14.2.2))]]<|
 za (decide (((u14.2.1:Nat):Int)>(wrap .i64 (Int.tdiv u16 (4:Int))))) (J12 (true,()))<|
 ldW .str ((aD r2).add 2) fun(u17:ByteArray)=>
 ldW .ptr (aD r1) fun(u18:Option Addr)=>
 ldW .slc ((aD r2).add 1) fun(u19:SLC)=>
 ze prog 76 [(.pointer u18),(.int .i64 ((u19.2.1:Nat):Int))] (.one (.one (.int .i64))) fun(u20:Int)=>
 zq [[(((aD r2).add 2),(.string u17))]]<|J12 ((decide (((u17.size:Nat):Int)>u20)),())) fun(y13:Bool×Unit)=>
 za y13.1 (K (.tuple #[(.int .u32 (0:Int)),(.int .i64 (3:Int))]))<|
 zA<|
 ldW .ptr (aD r1) fun(u21:Option Addr)=>
 ldW .ptr (aD r1) fun(u22:Option Addr)=>
 zi u22 fun(p23:Addr)=>
 ldW .slc ((p23.add 1).add 4) fun(u24:SLC)=>
 ze prog 26 [(.pointer u21)] (.one (.one (.int .i64))) fun(u25:Int)=>
 zq [[(((p23.add 1).add 4),(.slice u24.1 u24.2.1 u24.2.2))],[((aD r1),(.pointer u22))]]<|
 za (decide (u25<=((u24.2.1:Nat):Int))) (K (.tuple #[(.int .u32 (0:Int)),(.int .i64 (9:Int))]))<|
 ldW .ptr (aD r1) fun(u26:Option Addr)=>
 ze prog 77 [(.pointer u26)] (.many [(.one (.int .u32)),(.one (.int .i64))]) fun(u27:Int×Int×Unit)=>
 za (u27.2.1 !=(0:Int)) (K (.tuple #[(.int .u32 (0:Int)),(.int .i64 u27.2.1)]))<|
 ldW .slc ((aD r2).add 1) fun(u28:SLC)=>
 ze prog 42 [(.slice none 0 0),(.int .u64 (wrap .u64 ((u28.2.1:Nat):Int))),(.int .i64 (2:Int))] (.one (.one .slc)) fun(u29:SLC)=>
 ldW .slc ((aD r2).add 1) fun(u30:SLC)=>
 zH (SLC×Int×Unit) ((u29.1,u29.2.1,u29.2.2),(0:Int),()) fun(y32:SLC×Int×Unit) (I31:(SLC×Int×Unit)->WP)=>
 za (decide (y32.2.1<((u30.2.1:Nat):Int))) (zc (0<=y32.2.1/\y32.2.1<((u30.2.1:Nat):Int))<|
 zi u30.1 fun(p33:Addr)=>
 ldW (.int .u32) (p33.add (Int.toNat y32.2.1*1)) fun(u34:Int)=>
 ze prog 42 [(.slice y32.1.1 y32.1.2.1 y32.1.2.2),(.int .u64 (wrap .u64 u34)),(.int .i64 (4:Int))] (.one (.one .slc)) fun(u35:SLC)=>I31 ((u35.1,u35.2.1,u35.2.2),(wrap .i64 (y32.2.1+(1:Int))),()))<|
 zA<|
 ldW .ptr (aD r1) fun(u36:Option Addr)=>
 zi u36 fun(p37:Addr)=>
 ldW .ptr p37 fun(u38:Option Addr)=>
 ldW (.int .u8) (aD r2) fun(u39:Int)=>
 ldW .ptr (aD r1) fun(u40:Option Addr)=>
 zi u40 fun(p41:Addr)=>
 ldW (.int .u64) (p41.add 1) fun(u42:Int)=>
 ldW .str ((aD r2).add 2) fun(u43:ByteArray)=>
 zw prog (Go.convert 85 9 (.slice y32.1.1 y32.1.2.1 y32.1.2.2)) .str fun(u44:ByteArray)=>
 zq [[(((aD r2).add 2),(.string u43))],[((p41.add 1),(.int .u64 u42))],[((aD r1),(.pointer u40))],[((aD r2),(.int .u8 u39))],[(p37,(.pointer u38))],[((aD r1),(.pointer u36))]]<|
 zc (((u44.size+u43.size:Nat):Int)<=IntKind.i64.max)<|
 ze prog 78 [(.pointer u38),(.int .u32 u27.1),(.agg #[(.int .u8 u39),(.int .u64 (wrap .u64 (u42+(1:Int)))),(.string (u44++u43))])] (.one (.one (.int .i64))) fun(u45:Int)=>
 za (u45 !=(0:Int)) (K (.tuple #[(.int .u32 (0:Int)),(.int .i64 u45)]))<|K (.tuple #[(.int .u32 u27.1),(.int .i64 (0:Int))])
theorem zny (x0:Option Addr) (AA:Int) (As:Option Addr) (Au Av:Nat) (AB:ByteArray) {K:Value->WP} {w:World} (h:S24 x0 AA As Au Av AB K w):Calls prog 24 #[(.pointer x0),(.agg #[(.int .u8 AA),(.slice As Au Av),(.string AB)])] w (Ret K):=cF an24 false Tryz.func24 h
def an25:Ann:=(AN (AR (AN (AQ AO AP)) (AR (AN (AN (AQ AO AP))) (AN (AN (AR (AN (.block (.loop [(30,.sh (.one (.int .u64))),(31,.sh (.one (.int .u64)))] [] (AR AO (.block AP))))) (AR (AN (AQ AO AP)) (AN (AR (AN (AQ AO AP)) (AN (AR (AN (AQ AO AP)) (AN (AR (AN (AQ AO AP)) (AR (AN (.block (.loop [(87,.sh (.one (.int .i64)))] [4,7,8,13,85,86,1000000] (AN (AR (AQ AP AP) (AR (.block (AN (AR (AN (AQ AO AP)) AP))) AP)))))) AO))))))))))))))
def S25 (x0:Option Addr) (x1:Int) (K:Value->WP):WP:=
 zh (.cells #[(.slice none 0 0),(.slice none 0 0)] 25) fun(r1:Nat)=>
 za (x1==(0:Int)) (zc ((#[(.slice none 0 0),(.slice none 0 0)]:Array Value).size=2)<|
 zt (aD r1) [(.slice none 0 0),(.slice none 0 0)]<|
 zR prog []<|
 zk [.slc,.slc] (aD r1) fun(u2:(SLC×SLC×Unit))=>K (.tuple #[(.agg #[(.slice u2.1.1 u2.1.2.1 u2.1.2.2),(.slice u2.2.1.1 u2.2.1.2.1 u2.2.1.2.2)]),(.int .i64 (0:Int))]))<|
 ze prog 79 [(.pointer x0),(.int .u32 x1)] (.one (.one (.int .i64))) fun(u3:Int)=>
 za (u3 !=(0:Int)) (zc ((#[(.slice none 0 0),(.slice none 0 0)]:Array Value).size=2)<|
 zt (aD r1) [(.slice none 0 0),(.slice none 0 0)]<|
 zR prog []<|
 zk [.slc,.slc] (aD r1) fun(u4:(SLC×SLC×Unit))=>K (.tuple #[(.agg #[(.slice u4.1.1 u4.1.2.1 u4.1.2.2),(.slice u4.2.1.1 u4.2.1.2.1 u4.2.1.2.2)]),(.int .i64 u3)]))<|
 zh (.cells #[(.slice none 0 0)] 129) fun(r5:Nat)=>
 zh (.cells #[(.slice none 0 0)] 54) fun(r6:Nat)=>
 ze prog 80 [(.pointer x0),(.int .u32 x1),(.int .u64 (0:Int))] (.one (.one .any)) fun(u7:Value)=>
 jm prog u7 (Int×Int×Unit) (fun(t8:Int×Int×Unit)=>[(.int .u64 t8.1),(.int .u64 t8.2.1)]) (fun(t8:Int×Int×Unit) (B9:WP->WP) (N10:WP) (Q11:Code->WP)=>B9 (zA<|
 ldW .slc (aD r5) fun(u14:SLC)=>
 ldW .slc (aD r6) fun(u15:SLC)=>
 kO (zh (.cells #[(.int .u64 t8.1)] 42) fun(r16:Nat)=>
 zq [[((aD r6),(.slice u15.1 u15.2.1 u15.2.2))],[((aD r5),(.slice u14.1 u14.2.1 u14.2.2))]]<|
 kO (zw prog (Builtin.append_ #[129,129] 129 #[(.slice u14.1 u14.2.1 u14.2.2),(.slice (some (aD r16)) 1 1)]) .slc fun(u17:SLC)=>
 zq [[((aD r6),(.slice u15.1 u15.2.1 u15.2.2))]]<|
 zh (.cells #[(.int .u32 (wrap .u32 t8.2.1))] 41) fun(r18:Nat)=>
 zq [[((aD r6),(.slice u15.1 u15.2.1 u15.2.2))],[((aD r5),(.slice u14.1 u14.2.1 u14.2.2))]]<|
 zw prog (Builtin.append_ #[54,54] 54 #[(.slice u15.1 u15.2.1 u15.2.2),(.slice (some (aD r18)) 1 1)]) .slc fun(u19:SLC)=>
 stW (aD r5) (.slice u17.1 u17.2.1 u17.2.2)<|
 stW (aD r6) (.slice u19.1 u19.2.1 u19.2.2)<|N10)<|
 zh (.cells #[(.int .u32 (wrap .u32 t8.2.1))] 41) fun(r20:Nat)=>
 zq [[((aD r6),(.slice u15.1 u15.2.1 u15.2.2))],[((aD r5),(.slice u14.1 u14.2.1 u14.2.2))]]<|
 zw prog (Builtin.append_ #[129,129] 129 #[(.slice u14.1 u14.2.1 u14.2.2),(.slice (some (aD r16)) 1 1)]) .slc fun(u21:SLC)=>
 zq [[((aD r6),(.slice u15.1 u15.2.1 u15.2.2))]]<|
 zw prog (Builtin.append_ #[54,54] 54 #[(.slice u15.1 u15.2.1 u15.2.2),(.slice (some (aD r20)) 1 1)]) .slc fun(u22:SLC)=>
 stW (aD r5) (.slice u21.1 u21.2.1 u21.2.2)<|
 stW (aD r6) (.slice u22.1 u22.2.1 u22.2.2)<|N10)<|
 zh (.cells #[(.int .u32 (wrap .u32 t8.2.1))] 41) fun(r23:Nat)=>
 zq [[((aD r6),(.slice u15.1 u15.2.1 u15.2.2))],[((aD r5),(.slice u14.1 u14.2.1 u14.2.2))]]<|
 zh (.cells #[(.int .u64 t8.1)] 42) fun(r24:Nat)=>
 zq [[((aD r6),(.slice u15.1 u15.2.1 u15.2.2))],[((aD r5),(.slice u14.1 u14.2.1 u14.2.2))]]<|
 zw prog (Builtin.append_ #[129,129] 129 #[(.slice u14.1 u14.2.1 u14.2.2),(.slice (some (aD r24)) 1 1)]) .slc fun(u25:SLC)=>
 zq [[((aD r6),(.slice u15.1 u15.2.1 u15.2.2))]]<|
 zw prog (Builtin.append_ #[54,54] 54 #[(.slice u15.1 u15.2.1 u15.2.2),(.slice (some (aD r23)) 1 1)]) .slc fun(u26:SLC)=>
 stW (aD r5) (.slice u25.1 u25.2.1 u25.2.2)<|
 stW (aD r6) (.slice u26.1 u26.2.1 u26.2.2)<|N10)) fun(r12:Nat) (p13:Option Code)=>
 qT (ze prog 81 [(.pointer x0),(.int .u32 x1)] (.one (.one .bool)) fun(u27:Bool)=>
 za (!u27) (zc ((#[(.slice none 0 0),(.slice none 0 0)]:Array Value).size=2)<|
 zt (aD r1) [(.slice none 0 0),(.slice none 0 0)]<|
 zR prog (⟨.collected r12,#[]⟩::[])<|
 zk [.slc,.slc] (aD r1) fun(u28:(SLC×SLC×Unit))=>K (.tuple #[(.agg #[(.slice u28.1.1 u28.1.2.1 u28.1.2.2),(.slice u28.2.1.1 u28.2.1.2.1 u28.2.1.2.2)]),(.int .i64 (10:Int))]))<|
 ldW .slc (aD r5) fun(u29:SLC)=>
 za (((u29.2.1:Nat):Int)==(0:Int)) (zc ((#[(.slice none 0 0),(.slice none 0 0)]:Array Value).size=2)<|
 zt (aD r1) [(.slice none 0 0),(.slice none 0 0)]<|
 zR prog (⟨.collected r12,#[]⟩::[])<|
 zk [.slc,.slc] (aD r1) fun(u30:(SLC×SLC×Unit))=>K (.tuple #[(.agg #[(.slice u30.1.1 u30.1.2.1 u30.1.2.2),(.slice u30.2.1.1 u30.2.1.2.1 u30.2.1.2.2)]),(.int .i64 (10:Int))]))<|
 ldW .slc (aD r5) fun(u31:SLC)=>
 zc (0<=(0:Int)/\(0:Int)<((u31.2.1:Nat):Int))<|
 zi u31.1 fun(p32:Addr)=>
 ldW (.int .u64) (p32.add (Int.toNat (0:Int)*1)) fun(u33:Int)=>
 za (u33 !=(0:Int)) (zc ((#[(.slice none 0 0),(.slice none 0 0)]:Array Value).size=2)<|
 zt (aD r1) [(.slice none 0 0),(.slice none 0 0)]<|
 zR prog (⟨.collected r12,#[]⟩::[])<|
 zk [.slc,.slc] (aD r1) fun(u34:(SLC×SLC×Unit))=>K (.tuple #[(.agg #[(.slice u34.1.1 u34.1.2.1 u34.1.2.2),(.slice u34.2.1.1 u34.2.1.2.1 u34.2.1.2.2)]),(.int .i64 (10:Int))]))<|
 ldW .slc (aD r6) fun(u35:SLC)=>
 zc (0<=(0:Int)/\(0:Int)<((u35.2.1:Nat):Int))<|
 zi u35.1 fun(p36:Addr)=>
 ldW (.int .u32) (p36.add (Int.toNat (0:Int)*1)) fun(u37:Int)=>
 ze prog 82 [(.pointer x0),(.int .u32 u37)] (.many [(.one .str),(.one (.int .i64))]) fun(u38:ByteArray×Int×Unit)=>
 za (u38.2.1 !=(0:Int)) (zc ((#[(.slice none 0 0),(.slice none 0 0)]:Array Value).size=2)<|
 zt (aD r1) [(.slice none 0 0),(.slice none 0 0)]<|
 zR prog (⟨.collected r12,#[]⟩::[])<|
 zk [.slc,.slc] (aD r1) fun(u39:(SLC×SLC×Unit))=>K (.tuple #[(.agg #[(.slice u39.1.1 u39.1.2.1 u39.1.2.2),(.slice u39.2.1.1 u39.2.1.2.1 u39.2.1.2.2)]),(.int .i64 u38.2.1)]))<|
 ze prog 12 [(.string u38.1)] (.many [(.agg [.slc,.slc]),(.one (.int .i64))]) fun(u40:(SLC×SLC×Unit)×Int×Unit)=>
 zh (.cells #[(.slice none 0 0),(.slice none 0 0)] 25) fun(r41:Nat)=>
 zc ((#[(.slice u40.1.1.1 u40.1.1.2.1 u40.1.1.2.2),(.slice u40.1.2.1.1 u40.1.2.1.2.1 u40.1.2.1.2.2)]:Array Value).size=2)<|
 zt (aD r41) [(.slice u40.1.1.1 u40.1.1.2.1 u40.1.1.2.2),(.slice u40.1.2.1.1 u40.1.2.1.2.1 u40.1.2.1.2.2)]<|
 za (u40.2.1 !=(0:Int)) (zc ((#[(.slice none 0 0),(.slice none 0 0)]:Array Value).size=2)<|
 zt (aD r1) [(.slice none 0 0),(.slice none 0 0)]<|
 zR prog (⟨.collected r12,#[]⟩::[])<|
 zk [.slc,.slc] (aD r1) fun(u42:(SLC×SLC×Unit))=>K (.tuple #[(.agg #[(.slice u42.1.1 u42.1.2.1 u42.1.2.2),(.slice u42.2.1.1 u42.2.1.2.1 u42.2.1.2.2)]),(.int .i64 (10:Int))]))<|
 ze prog 83 [(.pointer (some (aD r41)))] (.one (.one .slc)) fun(u43:SLC)=>
 ldW .slc (aD r5) fun(u44:SLC)=>
 za (((u43.2.1:Nat):Int) !=(wrap .i64 (((u44.2.1:Nat):Int)-(1:Int)))) (zc ((#[(.slice none 0 0),(.slice none 0 0)]:Array Value).size=2)<|
 zt (aD r1) [(.slice none 0 0),(.slice none 0 0)]<|
 zR prog (⟨.collected r12,#[]⟩::[])<|
 zk [.slc,.slc] (aD r1) fun(u45:(SLC×SLC×Unit))=>K (.tuple #[(.agg #[(.slice u45.1.1 u45.1.2.1 u45.1.2.2),(.slice u45.2.1.1 u45.2.1.2.1 u45.2.1.2.2)]),(.int .i64 (10:Int))]))<|
 zH (Int×Unit) ((0:Int),()) fun(y47:Int×Unit) (I46:(Int×Unit)->WP)=>
 za (decide (y47.1<((u43.2.1:Nat):Int))) (zc (0<=y47.1/\y47.1<((u43.2.1:Nat):Int))<|
 zi u43.1 fun(p48:Addr)=>
 zk [(.int .u64),.ptr] (p48.add (Int.toNat y47.1*2)) fun(u49:(Int×Option Addr×Unit))=>
 zh (.cells #[(.int .u64 (0:Int)),(.pointer none)] 140) fun(r50:Nat)=>
 zc ((#[(.int .u64 u49.1),(.pointer u49.2.1)]:Array Value).size=2)<|
 zt (aD r50) [(.int .u64 u49.1),(.pointer u49.2.1)]<|
 zA<|
 ldW .slc (aD r5) fun(u51:SLC)=>
 zc (0<=(wrap .i64 (y47.1+(1:Int)))/\(wrap .i64 (y47.1+(1:Int)))<((u51.2.1:Nat):Int))<|
 zi u51.1 fun(p52:Addr)=>
 ldW (.int .u64) (p52.add (Int.toNat (wrap .i64 (y47.1+(1:Int)))*1)) fun(u53:Int)=>
 ldW (.int .u64) (aD r50) fun(u54:Int)=>
 za (u53 !=u54) (zc ((#[(.slice none 0 0),(.slice none 0 0)]:Array Value).size=2)<|
 zt (aD r1) [(.slice none 0 0),(.slice none 0 0)]<|
 zR prog (⟨.collected r12,#[]⟩::[])<|
 zk [.slc,.slc] (aD r1) fun(u55:(SLC×SLC×Unit))=>K (.tuple #[(.agg #[(.slice u55.1.1 u55.1.2.1 u55.1.2.2),(.slice u55.2.1.1 u55.2.1.2.1 u55.2.1.2.2)]),(.int .i64 (10:Int))]))<|
 zA<|
 ldW .ptr ((aD r50).add 1) fun(u56:Option Addr)=>
 ldW .slc (aD r6) fun(u57:SLC)=>
 zc (0<=(wrap .i64 (y47.1+(1:Int)))/\(wrap .i64 (y47.1+(1:Int)))<((u57.2.1:Nat):Int))<|
 zi u57.1 fun(p58:Addr)=>
 ldW (.int .u32) (p58.add (Int.toNat (wrap .i64 (y47.1+(1:Int)))*1)) fun(u59:Int)=>
 zi u56 fun(p60:Addr)=>
 stW p60 (.int .u32 u59)<|I46 ((wrap .i64 (y47.1+(1:Int))),()))<|
 zk [.slc,.slc] (aD r41) fun(u61:(SLC×SLC×Unit))=>
 zc ((#[(.slice u61.1.1 u61.1.2.1 u61.1.2.2),(.slice u61.2.1.1 u61.2.1.2.1 u61.2.1.2.2)]:Array Value).size=2)<|
 zt (aD r1) [(.slice u61.1.1 u61.1.2.1 u61.1.2.2),(.slice u61.2.1.1 u61.2.1.2.1 u61.2.1.2.2)]<|
 zR prog (⟨.collected r12,#[]⟩::[])<|
 zk [.slc,.slc] (aD r1) fun(u62:(SLC×SLC×Unit))=>K (.tuple #[(.agg #[(.slice u62.1.1 u62.1.2.1 u62.1.2.2),(.slice u62.2.1.1 u62.2.1.2.1 u62.2.1.2.2)]),(.int .i64 (0:Int))])) (zR prog (⟨.collected r12,#[]⟩::[])<|
 zk [.slc,.slc] (aD r1) fun(u63:(SLC×SLC×Unit))=>K (.tuple #[(.agg #[(.slice u63.1.1 u63.1.2.1 u63.1.2.2),(.slice u63.2.1.1 u63.2.1.2.1 u63.2.1.2.2)]),(.int .i64 (0:Int))])) [] p13
theorem zeO (x0:Option Addr) (x1:Int) {K:Value->WP} {w:World} (h:S25 x0 x1 K w):Calls prog 25 #[(.pointer x0),(.int .u32 x1)] w (Ret K):=cF an25 true Tryz.func25 h
def an26:Ann:=(AN (AR (AN (AQ AO AP)) (AR (AN (.block (.loop [(7,.sh (.one (.int .u32)))] [] (AN (.block AP))))) AO)))
def S26 (x0:Option Addr) (K:Value->WP):WP:=
 zh (.cells #[(.int .i64 (0:Int))] 3) fun(r1:Nat)=>
 za (Option.isNone x0) (stW (aD r1) (.int .i64 (0:Int))<|
 zR prog []<|
 ldW (.int .i64) (aD r1) fun(u2:Int)=>K (.int .i64 u2))<|
 ze prog 84 [(.pointer x0)] (.one (.one .any)) fun(u3:Value)=>
 jm prog u3 (Int×Unit) (fun(t4:Int×Unit)=>[(.int .u32 t4.1)]) (fun(t4:Int×Unit) (B5:WP->WP) (N6:WP) (Q7:Code->WP)=>B5 (ldW (.int .i64) (aD r1) fun(u10:Int)=>
 stW (aD r1) (.int .i64 (wrap .i64 (u10+(1:Int))))<|N6)) fun(r8:Nat) (p9:Option Code)=>
 qT (ldW (.int .i64) (aD r1) fun(u11:Int)=>
 stW (aD r1) (.int .i64 u11)<|
 zR prog (⟨.collected r8,#[]⟩::[])<|
 ldW (.int .i64) (aD r1) fun(u12:Int)=>K (.int .i64 u12)) (zR prog (⟨.collected r8,#[]⟩::[])<|
 ldW (.int .i64) (aD r1) fun(u13:Int)=>K (.int .i64 u13)) [] p9
theorem znz (x0:Option Addr) {K:Value->WP} {w:World} (h:S26 x0 K w):Calls prog 26 #[(.pointer x0)] w (Ret K):=cF an26 true Tryz.func26 h
def an27:Ann:=(AN (AN (AR (AN (AQ AO AP)) (AR (AN (AQ AO AP)) (AN (AR (AN (AQ AO AP)) (AN (AR (AN (.block (.loop [(9,.sh (.one .slc)),(10,.sh (.one .slc)),(44,.sh (.one (.int .i64)))] [0,42,43,1000000] (AN (AR (AQ AP AP) (AR (.block AO) AP)))))) AO))))))))
def S27 (x0:Option Addr) (Aw:Option Addr) (Ax Ay:Nat) (As:Option Addr) (Au Av:Nat) (K:Value->WP):WP:=
 zh (.cells #[(.slice Aw Ax Ay),(.slice As Au Av)] 25) fun(r1:Nat)=>
 zk [.slc,.slc] (aD r1) fun(u2:(SLC×SLC×Unit))=>
 ze prog 11 [(.agg #[(.slice u2.1.1 u2.1.2.1 u2.1.2.2),(.slice u2.2.1.1 u2.2.1.2.1 u2.2.1.2.2)])] (.many [(.one .str),(.one (.int .i64))]) fun(u3:ByteArray×Int×Unit)=>
 za (u3.2.1 !=(0:Int)) (K (.tuple #[(.int .u32 (0:Int)),(.int .i64 u3.2.1)]))<|
 ldW .slc (aD r1) fun(u4:SLC)=>
 ldW .slc ((aD r1).add 1) fun(u5:SLC)=>
 za ((wrap .i64 (((u4.2.1:Nat):Int)+((u5.2.1:Nat):Int)))==(0:Int)) (K (.tuple #[(.int .u32 (0:Int)),(.int .i64 (0:Int))]))<|
 ze prog 85 [(.pointer x0),(.string u3.1)] (.many [(.one (.int .u32)),(.one (.int .i64))]) fun(u6:Int×Int×Unit)=>
 za (u6.2.1 !=(0:Int)) (K (.tuple #[(.int .u32 (0:Int)),(.int .i64 u6.2.1)]))<|
 zh (.cells #[(.int .u64 (0:Int))] 42) fun(r7:Nat)=>
 zh (.cells #[(.int .u64 (wrap .u64 u6.1))] 42) fun(r8:Nat)=>
 ze prog 83 [(.pointer (some (aD r1)))] (.one (.one .slc)) fun(u9:SLC)=>
 zH (SLC×SLC×Int×Unit) (((some (aD r7)),1,1),((some (aD r8)),1,1),(0:Int),()) fun(y11:SLC×SLC×Int×Unit) (I10:(SLC×SLC×Int×Unit)->WP)=>
 za (decide (y11.2.2.1<((u9.2.1:Nat):Int))) (zc (0<=y11.2.2.1/\y11.2.2.1<((u9.2.1:Nat):Int))<|
 zi u9.1 fun(p12:Addr)=>
 zk [(.int .u64),.ptr] (p12.add (Int.toNat y11.2.2.1*2)) fun(u13:(Int×Option Addr×Unit))=>
 zh (.cells #[(.int .u64 (0:Int)),(.pointer none)] 140) fun(r14:Nat)=>
 zc ((#[(.int .u64 u13.1),(.pointer u13.2.1)]:Array Value).size=2)<|
 zt (aD r14) [(.int .u64 u13.1),(.pointer u13.2.1)]<|
 zA<|
 ldW (.int .u64) (aD r14) fun(u15:Int)=>
 ldW .ptr ((aD r14).add 1) fun(u16:Option Addr)=>
 zi u16 fun(p17:Addr)=>
 ldW (.int .u32) p17 fun(u18:Int)=>
 kO (zh (.cells #[(.int .u64 u15)] 42) fun(r19:Nat)=>
 zq [[(p17,(.int .u32 u18))],[(((aD r14).add 1),(.pointer u16))]]<|
 kO (zw prog (Builtin.append_ #[129,129] 129 #[(.slice y11.1.1 y11.1.2.1 y11.1.2.2),(.slice (some (aD r19)) 1 1)]) .slc fun(u20:SLC)=>
 zq [[(p17,(.int .u32 u18))],[(((aD r14).add 1),(.pointer u16))]]<|
 zh (.cells #[(.int .u64 (wrap .u64 u18))] 42) fun(r21:Nat)=>
 zq [[((aD r14),(.int .u64 u15))]]<|
 zw prog (Builtin.append_ #[129,129] 129 #[(.slice y11.2.1.1 y11.2.1.2.1 y11.2.1.2.2),(.slice (some (aD r21)) 1 1)]) .slc fun(u22:SLC)=>I10 ((u20.1,u20.2.1,u20.2.2),(u22.1,u22.2.1,u22.2.2),(wrap .i64 (y11.2.2.1+(1:Int))),()))<|
 zh (.cells #[(.int .u64 (wrap .u64 u18))] 42) fun(r23:Nat)=>
 zq [[((aD r14),(.int .u64 u15))]]<|
 zw prog (Builtin.append_ #[129,129] 129 #[(.slice y11.1.1 y11.1.2.1 y11.1.2.2),(.slice (some (aD r19)) 1 1)]) .slc fun(u24:SLC)=>
 zq [[(p17,(.int .u32 u18))],[(((aD r14).add 1),(.pointer u16))]]<|
 zw prog (Builtin.append_ #[129,129] 129 #[(.slice y11.2.1.1 y11.2.1.2.1 y11.2.1.2.2),(.slice (some (aD r23)) 1 1)]) .slc fun(u25:SLC)=>I10 ((u24.1,u24.2.1,u24.2.2),(u25.1,u25.2.1,u25.2.2),(wrap .i64 (y11.2.2.1+(1:Int))),()))<|
 zh (.cells #[(.int .u64 (wrap .u64 u18))] 42) fun(r26:Nat)=>
 zq [[((aD r14),(.int .u64 u15))]]<|
 zh (.cells #[(.int .u64 u15)] 42) fun(r27:Nat)=>
 zq [[(p17,(.int .u32 u18))],[(((aD r14).add 1),(.pointer u16))]]<|
 zw prog (Builtin.append_ #[129,129] 129 #[(.slice y11.1.1 y11.1.2.1 y11.1.2.2),(.slice (some (aD r27)) 1 1)]) .slc fun(u28:SLC)=>
 zq [[(p17,(.int .u32 u18))],[(((aD r14).add 1),(.pointer u16))]]<|
 zw prog (Builtin.append_ #[129,129] 129 #[(.slice y11.2.1.1 y11.2.1.2.1 y11.2.1.2.2),(.slice (some (aD r26)) 1 1)]) .slc fun(u29:SLC)=>I10 ((u28.1,u28.2.1,u28.2.2),(u29.1,u29.2.1,u29.2.2),(wrap .i64 (y11.2.2.1+(1:Int))),()))<|
 ze prog 86 [(.pointer x0),(.bool true),(.slice y11.1.1 y11.1.2.1 y11.1.2.2),(.slice y11.2.1.1 y11.2.1.2.1 y11.2.1.2.2)] (.many [(.one (.int .u32)),(.one (.int .i64))]) fun(u30:Int×Int×Unit)=>K (.tuple #[(.int .u32 u30.1),(.int .i64 u30.2.1)])
theorem znA (x0:Option Addr) (Aw:Option Addr) (Ax Ay:Nat) (As:Option Addr) (Au Av:Nat) {K:Value->WP} {w:World} (h:S27 x0 Aw Ax Ay As Au Av K w):Calls prog 27 #[(.pointer x0),(.agg #[(.slice Aw Ax Ay),(.slice As Au Av)])] w (Ret K):=cF an27 false Tryz.func27 h
def an28:Ann:=(AN (AR (.block (AN (AQ AO (AN (AQ AO AP))))) (AN (AN (AR (.block (.loop [(5,.sh (.one .slc))] [0,1000000] (AR (AN (AQ AP AP)) (.block (AN (AN (AN (AR (AN (AQ (AR (AN (AN (AQ AO AP))) AP) AP)) (AN (AR (AN (AQ AO AP)) (AR (AN (AN (AQ AO AP))) AO))))))))))) AO)))))
def S28 (x0:Option Addr) (x1:Int) (K:Value->WP):WP:=
 za (Option.isNone x0) (K (.int .i64 (1:Int)))<|
 ze prog 73 [(.pointer x0),(.int .u32 x1)] (.one (.one .bool)) fun(u1:Bool)=>
 za (!u1) (K (.int .i64 (2:Int)))<|
 zh (.cells #[(.int .u32 x1)] 41) fun(r2:Nat)=>
 zH (SLC×Unit) (((some (aD r2)),1,1),()) fun(y4:SLC×Unit) (I3:(SLC×Unit)->WP)=>
 za (decide (((y4.1.2.1:Nat):Int)>(0:Int))) (zc (0<=(wrap .i64 (((y4.1.2.1:Nat):Int)-(1:Int)))/\(wrap .i64 (((y4.1.2.1:Nat):Int)-(1:Int)))<((y4.1.2.1:Nat):Int))<|
 zi y4.1.1 fun(p5:Addr)=>
 ldW (.int .u32) (p5.add (Int.toNat (wrap .i64 (((y4.1.2.1:Nat):Int)-(1:Int)))*1)) fun(u6:Int)=>
 zc (0<=(wrap .i64 (((y4.1.2.1:Nat):Int)-(1:Int)))/\(wrap .i64 (((y4.1.2.1:Nat):Int)-(1:Int)))<=((y4.1.2.2:Nat):Int))<|
 zi x0 fun(p7:Addr)=>
 ldW .ptr (p7.add 8) fun(u8:Option Addr)=>
 ze prog 75 [(.pointer u8),(.int .u32 u6)] (.one (.one (.int .i64))) fun(u9:Int)=>
 za (u9 !=(1:Int)) (zi x0 fun(p10:Addr)=>
 ldW .ptr (p10.add 8) fun(u11:Option Addr)=>
 ze prog 87 [(.pointer u11),(.int .u32 u6)] (.many [(.one (.int .i64)),(.one (.int .i64))]) fun(u12:Int×Int×Unit)=>
 za (u12.2.1 !=(0:Int)) (K (.int .i64 u12.2.1))<|I3 (((zm y4.1.1 0 y4.1.2.2 1),(Int.toNat (wrap .i64 (((y4.1.2.1:Nat):Int)-(1:Int)))),y4.1.2.2),()))<|
 ze prog 88 [(.pointer x0),(.int .u32 u6)] (.many [(.agg [(.int .u8),.slc,.str]),(.one (.int .i64))]) fun(u13:(Int×SLC×ByteArray×Unit)×Int×Unit)=>
 zh (.cells #[(.int .u8 (0:Int)),(.slice none 0 0),(.string ByteArray.empty)] 56) fun(r14:Nat)=>
 zc ((#[(.int .u8 u13.1.1),(.slice u13.1.2.1.1 u13.1.2.1.2.1 u13.1.2.1.2.2),(.string u13.1.2.2.1)]:Array Value).size=3)<|
 zt (aD r14) [(.int .u8 u13.1.1),(.slice u13.1.2.1.1 u13.1.2.1.2.1 u13.1.2.1.2.2),(.string u13.1.2.2.1)]<|
 za (u13.2.1 !=(0:Int)) (K (.int .i64 u13.2.1))<|
 zi x0 fun(p15:Addr)=>
 ldW .ptr (p15.add 8) fun(u16:Option Addr)=>
 ze prog 87 [(.pointer u16),(.int .u32 u6)] (.many [(.one (.int .i64)),(.one (.int .i64))]) fun(u17:Int×Int×Unit)=>
 za (u17.2.1 !=(0:Int)) (K (.int .i64 u17.2.1))<|
 ldW .slc ((aD r14).add 1) fun(u18:SLC)=>
 ze prog 89 [(.slice u18.1 u18.2.1 u18.2.2)] .none fun(u19:Unit)=>
 ldW .slc ((aD r14).add 1) fun(u20:SLC)=>
 zw prog (Builtin.append_ #[54,54] 54 #[(.slice (zm y4.1.1 0 y4.1.2.2 1) (Int.toNat (wrap .i64 (((y4.1.2.1:Nat):Int)-(1:Int)))) y4.1.2.2),(.slice u20.1 u20.2.1 u20.2.2)]) .slc fun(u21:SLC)=>I3 ((u21.1,u21.2.1,u21.2.2),()))<|K (.int .i64 (0:Int))
theorem znB (x0:Option Addr) (x1:Int) {K:Value->WP} {w:World} (h:S28 x0 x1 K w):Calls prog 28 #[(.pointer x0),(.int .u32 x1)] w (Ret K):=cF an28 false Tryz.func28 h
def an29:Ann:=(AN (AR (AN (AQ AO AP)) AO))
def S29 (x0:Option Addr) (x1:Int) (K:Value->WP):WP:=
 za (Option.isNone x0) (K (.int .i64 (0:Int)))<|
 zi x0 fun(p1:Addr)=>
 ldW .ptr (p1.add 8) fun(u2:Option Addr)=>
 ze prog 75 [(.pointer u2),(.int .u32 x1)] (.one (.one (.int .i64))) fun(u3:Int)=>K (.int .i64 u3)
theorem znC (x0:Option Addr) (x1:Int) {K:Value->WP} {w:World} (h:S29 x0 x1 K w):Calls prog 29 #[(.pointer x0),(.int .u32 x1)] w (Ret K):=cF an29 false Tryz.func29 h
def an30:Ann:=(AN (AR (AN (.block (.loop [(10,.sh (.one (.int .i64)))] [0,8,9,1000000] (AN (AR (AQ AP AP) (AR (.block (AN (AN (AN (AQ AO AP))))) AP)))))) AO))
def S30 (x0:Option Addr) (Aw:Option Addr) (Ax Ay:Nat) (As:Option Addr) (Au Av:Nat) (K:Value->WP):WP:=
 zh (.cells #[(.slice Aw Ax Ay),(.slice As Au Av)] 25) fun(r1:Nat)=>
 ze prog 83 [(.pointer (some (aD r1)))] (.one (.one .slc)) fun(u2:SLC)=>
 zH (Int×Unit) ((0:Int),()) fun(y4:Int×Unit) (I3:(Int×Unit)->WP)=>
 za (decide (y4.1<((u2.2.1:Nat):Int))) (zc (0<=y4.1/\y4.1<((u2.2.1:Nat):Int))<|
 zi u2.1 fun(p5:Addr)=>
 zk [(.int .u64),.ptr] (p5.add (Int.toNat y4.1*2)) fun(u6:(Int×Option Addr×Unit))=>
 zh (.cells #[(.int .u64 (0:Int)),(.pointer none)] 140) fun(r7:Nat)=>
 zc ((#[(.int .u64 u6.1),(.pointer u6.2.1)]:Array Value).size=2)<|
 zt (aD r7) [(.int .u64 u6.1),(.pointer u6.2.1)]<|
 ldW .ptr ((aD r7).add 1) fun(u8:Option Addr)=>
 zi u8 fun(p9:Addr)=>
 ldW (.int .u32) p9 fun(u10:Int)=>
 ze prog 90 [(.pointer x0),(.int .u32 u10)] (.one (.one (.int .i64))) fun(u11:Int)=>
 za (u11 !=(0:Int)) (K (.int .i64 u11))<|I3 ((wrap .i64 (y4.1+(1:Int))),()))<|K (.int .i64 (0:Int))
theorem zil (x0:Option Addr) (Aw:Option Addr) (Ax Ay:Nat) (As:Option Addr) (Au Av:Nat) {K:Value->WP} {w:World} (h:S30 x0 Aw Ax Ay As Au Av K w):Calls prog 30 #[(.pointer x0),(.agg #[(.slice Aw Ax Ay),(.slice As Au Av)])] w (Ret K):=cF an30 false Tryz.func30 h
def an35:Ann:=(AN (AR (AN (AQ AO AP)) AO))
def S35 (x0:Option Addr) (K:Value->WP):WP:=
 zh (.cells #[(.int .i64 (0:Int)),(.int .i64 (0:Int))] 72) fun(r1:Nat)=>
 za (Option.isNone x0) (zc ((#[(.int .i64 (0:Int)),(.int .i64 (0:Int))]:Array Value).size=2)<|
 zt (aD r1) [(.int .i64 (0:Int)),(.int .i64 (0:Int))]<|
 zk [(.int .i64),(.int .i64)] (aD r1) fun(u2:(Int×Int×Unit))=>K (.agg #[(.int .i64 u2.1),(.int .i64 u2.2.1)]))<|
 zi x0 fun(p3:Addr)=>
 zk [(.int .i64),(.int .i64)] p3 fun(u4:(Int×Int×Unit))=>
 zc ((#[(.int .i64 u4.1),(.int .i64 u4.2.1)]:Array Value).size=2)<|
 zt (aD r1) [(.int .i64 u4.1),(.int .i64 u4.2.1)]<|
 zk [(.int .i64),(.int .i64)] (aD r1) fun(u5:(Int×Int×Unit))=>K (.agg #[(.int .i64 u5.1),(.int .i64 u5.2.1)])
theorem znD (x0:Option Addr) {K:Value->WP} {w:World} (h:S35 x0 K w):Calls prog 35 #[(.pointer x0)] w (Ret K):=cF an35 false Tryz.func35 h
def an40:Ann:=(AN (AR (AN (AN (AQ AO AP))) (AN (AR (AN (.block (.loop [(5,.sh (.one .slc)),(20,.sh (.one (.int .i64)))] [18,19,1000000] (AN (AR (AQ AP AP) (AR (.block (AN (AN (AR (AN (AQ AP AP)) AP)))) AP)))))) AO))))
def S40 (a0:Option Addr) (n0 c0:Nat) (K:Value->WP):WP:=
 ze prog 106 [(.slice a0 n0 c0)] (.one (.one (.int .i64))) fun(u1:Int)=>
 za (u1 !=(0:Int)) (K (.tuple #[(.string (ByteArray.mk #[])),(.int .i64 u1)]))<|
 zh (.cells #[(.int .u8 (wrap .u8 ((n0:Nat):Int)))] 5) fun(r2:Nat)=>
 zH (SLC×Int×Unit) (((some (aD r2)),1,1),(0:Int),()) fun(y4:SLC×Int×Unit) (I3:(SLC×Int×Unit)->WP)=>
 za (decide (y4.2.1<((n0:Nat):Int))) (zc (0<=y4.2.1/\y4.2.1<((n0:Nat):Int))<|
 zi a0 fun(p5:Addr)=>
 zk [.str,(.int .i64),.bool] (p5.add (Int.toNat y4.2.1*3)) fun(u6:(ByteArray×Int×Bool×Unit))=>
 zh (.cells #[(.string ByteArray.empty),(.int .i64 (0:Int)),(.bool false)] 62) fun(r7:Nat)=>
 zc ((#[(.string u6.1),(.int .i64 u6.2.1),(.bool u6.2.2.1)]:Array Value).size=3)<|
 zt (aD r7) [(.string u6.1),(.int .i64 u6.2.1),(.bool u6.2.2.1)]<|
 ldW (.int .i64) ((aD r7).add 1) fun(u8:Int)=>
 ldW .bool ((aD r7).add 2) fun(u9:Bool)=>
 za u9 (zA<|
 ldW .str (aD r7) fun(u10:ByteArray)=>
 ldW .str (aD r7) fun(u11:ByteArray)=>
 zh (.cells #[(.int .u8 (ior .u8 (wrap .u8 u8) (128:Int))),(.int .u8 (wrap .u8 ((u10.size:Nat):Int)))] 5) fun(r12:Nat)=>
 zq [[((aD r7),(.string u11))]]<|
 zw prog (Builtin.append_ #[85,85] 85 #[(.slice y4.1.1 y4.1.2.1 y4.1.2.2),(.slice (some (aD r12)) 2 2)]) .slc fun(u13:SLC)=>
 zq [[((aD r7),(.string u11))]]<|
 zw prog (Builtin.append_ #[85,9] 85 #[(.slice u13.1 u13.2.1 u13.2.2),(.string u11)]) .slc fun(u14:SLC)=>I3 ((u14.1,u14.2.1,u14.2.2),(wrap .i64 (y4.2.1+(1:Int))),()))<|
 zA<|
 ldW .str (aD r7) fun(u15:ByteArray)=>
 ldW .str (aD r7) fun(u16:ByteArray)=>
 zh (.cells #[(.int .u8 (wrap .u8 u8)),(.int .u8 (wrap .u8 ((u15.size:Nat):Int)))] 5) fun(r17:Nat)=>
 zq [[((aD r7),(.string u16))]]<|
 zw prog (Builtin.append_ #[85,85] 85 #[(.slice y4.1.1 y4.1.2.1 y4.1.2.2),(.slice (some (aD r17)) 2 2)]) .slc fun(u18:SLC)=>
 zq [[((aD r7),(.string u16))]]<|
 zw prog (Builtin.append_ #[85,9] 85 #[(.slice u18.1 u18.2.1 u18.2.2),(.string u16)]) .slc fun(u19:SLC)=>I3 ((u19.1,u19.2.1,u19.2.2),(wrap .i64 (y4.2.1+(1:Int))),()))<|
 zw prog (Go.convert 85 9 (.slice y4.1.1 y4.1.2.1 y4.1.2.2)) .str fun(u20:ByteArray)=>K (.tuple #[(.string u20),(.int .i64 (0:Int))])
theorem znE (a0:Option Addr) (n0 c0:Nat) {K:Value->WP} {w:World} (h:S40 a0 n0 c0 K w):Calls prog 40 #[(.slice a0 n0 c0)] w (Ret K):=cF an40 false Tryz.func40 h
def an41:Ann:=(AN AO)
def S41 (a0:Option Addr) (n0 c0:Nat) (x1:ByteArray) (K:Value->WP):WP:=
 zh (.cells #[(.int .u8 (wrap .u8 ((x1.size:Nat):Int)))] 5) fun(r1:Nat)=>
 zw prog (Builtin.append_ #[85,85] 85 #[(.slice a0 n0 c0),(.slice (some (aD r1)) 1 1)]) .slc fun(u2:SLC)=>
 zw prog (Builtin.append_ #[85,9] 85 #[(.slice u2.1 u2.2.1 u2.2.2),(.string x1)]) .slc fun(u3:SLC)=>K (.slice u3.1 u3.2.1 u3.2.2)
theorem znF (a0:Option Addr) (n0 c0:Nat) (x1:ByteArray) {K:Value->WP} {w:World} (h:S41 a0 n0 c0 x1 K w):Calls prog 41 #[(.slice a0 n0 c0),(.string x1)] w (Ret K):=cF an41 false Tryz.func41 h
def an42:Ann:=(AN (AR (AN (AQ AO AP)) (AR (AN (.block (.loop [(0,.sh (.one .slc)),(16,.sh (.one (.int .i64)))] [1,15,1000000] (AN (AR (AQ AP AP) (AR (.block AO) AP)))))) AO)))
def S42 (a0:Option Addr) (n0 c0:Nat) (x1:Int) (x2:Int) (K:Value->WP):WP:=
 za (decide (x2<(1:Int))) (K (.slice a0 n0 c0))<|
 za (decide (x2>(8:Int))) (K (.slice a0 n0 c0))<|
 zH (SLC×Int×Unit) ((a0,n0,c0),(0:Int),()) fun(y2:SLC×Int×Unit) (I1:(SLC×Int×Unit)->WP)=>
 za (decide (y2.2.1<x2)) (zc (0<=(wrap .i64 ((8:Int)*y2.2.1)))<|
 zh (.cells #[(.int .u8 (wrap .u8 (ishr .u64 x1 (wrap .i64 ((8:Int)*y2.2.1)))))] 5) fun(r3:Nat)=>
 zw prog (Builtin.append_ #[85,85] 85 #[(.slice y2.1.1 y2.1.2.1 y2.1.2.2),(.slice (some (aD r3)) 1 1)]) .slc fun(u4:SLC)=>I1 ((u4.1,u4.2.1,u4.2.2),(wrap .i64 (y2.2.1+(1:Int))),()))<|K (.slice y2.1.1 y2.1.2.1 y2.1.2.2)
theorem zim (a0:Option Addr) (n0 c0:Nat) (x1:Int) (x2:Int) {K:Value->WP} {w:World} (h:S42 a0 n0 c0 x1 x2 K w):Calls prog 42 #[(.slice a0 n0 c0),(.int .u64 x1),(.int .i64 x2)] w (Ret K):=cF an42 false Tryz.func42 h
def an43:Ann:=(AN AO)
def S43 (a0:Option Addr) (n0 c0:Nat) (x1:Int) (K:Value->WP):WP:=
 zh (.cells #[(.int .u8 (wrap .u8 (if (1:Int)<x1 then (1:Int) else x1)))] 5) fun(r1:Nat)=>
 zw prog (Builtin.append_ #[85,85] 85 #[(.slice a0 n0 c0),(.slice (some (aD r1)) 1 1)]) .slc fun(u2:SLC)=>K (.slice u2.1 u2.2.1 u2.2.2)
theorem znG (a0:Option Addr) (n0 c0:Nat) (x1:Int) {K:Value->WP} {w:World} (h:S43 a0 n0 c0 x1 K w):Calls prog 43 #[(.slice a0 n0 c0),(.int .u32 x1)] w (Ret K):=cF an43 false Tryz.func43 h
def an44:Ann:=(AN AO)
def S44 (x0:Option Addr) (x1:Int) (K:Value->WP):WP:=
 ze prog 108 [(.pointer x0),(.int .i64 x1)] (.one (.one .str)) fun(u1:ByteArray)=>
 zw prog (Go.convert 9 85 (.string u1)) .slc fun(u2:SLC)=>
 ze prog 107 [(.slice u2.1 u2.2.1 u2.2.2)] (.one (.one (.int .u64))) fun(u3:Int)=>K (.int .u64 u3)
theorem znH (x0:Option Addr) (x1:Int) {K:Value->WP} {w:World} (h:S44 x0 x1 K w):Calls prog 44 #[(.pointer x0),(.int .i64 x1)] w (Ret K):=cF an44 false Tryz.func44 h
def an45:Ann:=(AN AO)
def S45 (x0:Option Addr) (K:Value->WP):WP:=
 ze prog 44 [(.pointer x0),(.int .i64 (1:Int))] (.one (.one (.int .u64))) fun(u1:Int)=>
 ze prog 108 [(.pointer x0),(.int .i64 (wrap .i64 u1))] (.one (.one .str)) fun(u2:ByteArray)=>K (.string u2)
theorem znI (x0:Option Addr) {K:Value->WP} {w:World} (h:S45 x0 K w):Calls prog 45 #[(.pointer x0)] w (Ret K):=cF an45 false Tryz.func45 h
def an46:Ann:=(AN (AR (AN (AQ AO AP)) (AN (AR (AN (AQ AP AP)) (AN AO)))))
def S46 (x0:Option Addr) (K:Value->WP):WP:=
 zi x0 fun(p1:Addr)=>
 ldW (.int .i64) (p1.add 1) fun(u2:Int)=>
 za (u2 !=(0:Int)) (K (.slice none 0 0))<|
 zi x0 fun(p3:Addr)=>
 ldW .str p3 fun(u4:ByteArray)=>
 ze prog 109 [(.string u4)] (.many [(.one .slc),(.one .str),(.one (.int .i64))]) fun(u5:SLC×ByteArray×Int×Unit)=>
 za (u5.2.2.1 !=(0:Int)) (zi x0 fun(p6:Addr)=>
 stW (p6.add 1) (.int .i64 (240:Int))<|
 zi x0 fun(p7:Addr)=>
 stW p7 (.string u5.2.1)<|K (.slice u5.1.1 u5.1.2.1 u5.1.2.2))<|
 zi x0 fun(p8:Addr)=>
 stW p8 (.string u5.2.1)<|K (.slice u5.1.1 u5.1.2.1 u5.1.2.2)
theorem znJ (x0:Option Addr) {K:Value->WP} {w:World} (h:S46 x0 K w):Calls prog 46 #[(.pointer x0)] w (Ret K):=cF an46 false Tryz.func46 h
def an47:Ann:=(AN (AN (AR (AN (AQ AP AP)) AO)))
def S47 (x0:Option Addr) (K:Value->WP):WP:=
 ze prog 44 [(.pointer x0),(.int .i64 (1:Int))] (.one (.one (.int .u64))) fun(u1:Int)=>
 zi x0 fun(p2:Addr)=>
 ldW (.int .i64) (p2.add 1) fun(u3:Int)=>
 za (u3==(0:Int)) (za (decide (u1>(1:Int))) (zi x0 fun(p4:Addr)=>
 stW (p4.add 1) (.int .i64 (240:Int))<|K (.int .u32 (wrap .u32 u1)))<|K (.int .u32 (wrap .u32 u1)))<|K (.int .u32 (wrap .u32 u1))
theorem znK (x0:Option Addr) {K:Value->WP} {w:World} (h:S47 x0 K w):Calls prog 47 #[(.pointer x0)] w (Ret K):=cF an47 false Tryz.func47 h
def an55:Ann:=(AN (AR (AN (.block (.loop [(8,.sh (.one (.int .i64)))] [0,1,7,1000000] (AN (AR (AQ AP AP) (AR (.block (AN (AN (AQ AO AP)))) AP)))))) AO))
def S55 (a0:Option Addr) (n0 c0:Nat) (x1:Value) (K:Value->WP):WP:=
 zH (Int×Unit) ((0:Int),()) fun(y2:Int×Unit) (I1:(Int×Unit)->WP)=>
 za (decide (y2.1<((n0:Nat):Int))) (zc (0<=y2.1/\y2.1<((n0:Nat):Int))<|
 zi a0 fun(p3:Addr)=>
 zk [.str,.slc,(.int .u32),(.int .u64),(.int .i64)] (p3.add (Int.toNat y2.1*5)) fun(u4:(ByteArray×SLC×Int×Int×Int×Unit))=>
 yF prog x1 [(.agg #[(.string u4.1),(.slice u4.2.1.1 u4.2.1.2.1 u4.2.1.2.2),(.int .u32 u4.2.2.1),(.int .u64 u4.2.2.2.1),(.int .i64 u4.2.2.2.2.1)])] (.one (.one .bool)) fun(u5:Bool)=>
 za u5 (K (.int .i64 y2.1))<|I1 ((wrap .i64 (y2.1+(1:Int))),()))<|K (.int .i64 (-1:Int))
theorem znL (a0:Option Addr) (n0 c0:Nat) (x1:Value) {K:Value->WP} {w:World} (h:S55 a0 n0 c0 x1 K w):Calls prog 55 #[(.slice a0 n0 c0),x1] w (Ret K):=cF an55 false Tryz.func55 h
def an56:Ann:=(AN AO)
def S56 (Aa:ByteArray) (Ab:Option Addr) (Ac Ae:Nat) (Ag:Int) (Ar:Int) (Az:Int) (a1:Addr) (K:Value->WP):WP:=
 zh (.cells #[(.string Aa),(.slice Ab Ac Ae),(.int .u32 Ag),(.int .u64 Ar),(.int .i64 Az)] 44) fun(r1:Nat)=>
 ldW .str (aD r1) fun(u2:ByteArray)=>
 ldW .str a1 fun(u3:ByteArray)=>K (.bool (u2.toList==u3.toList))
theorem znM (Aa:ByteArray) (Ab:Option Addr) (Ac Ae:Nat) (Ag:Int) (Ar:Int) (Az:Int) (a1:Addr) {K:Value->WP} {w:World} (h:S56 Aa Ab Ac Ae Ag Ar Az a1 K w):Calls prog 56 #[(.agg #[(.string Aa),(.slice Ab Ac Ae),(.int .u32 Ag),(.int .u64 Ar),(.int .i64 Az)]),(.pointer (some a1))] w (Ret K):=cF an56 false Tryz.func56 h
def an57:Ann:=(AN (AR (AN (.block (.loop [(9,.sh (.one (.int .i64)))] [0,1,7,8,1000000] (AN (AR (AQ AP AP) (AR (.block (AN (AN (AQ AO AP)))) AP)))))) AO))
def S57 (a0:Option Addr) (n0 c0:Nat) (x1:Value) (K:Value->WP):WP:=
 zH (Int×Unit) ((0:Int),()) fun(y2:Int×Unit) (I1:(Int×Unit)->WP)=>
 za (decide (y2.1<((n0:Nat):Int))) (zc (0<=y2.1/\y2.1<((n0:Nat):Int))<|
 zi a0 fun(p3:Addr)=>
 zk [.str,.slc,(.int .u32),(.int .u64),(.int .i64)] (p3.add (Int.toNat y2.1*5)) fun(u4:(ByteArray×SLC×Int×Int×Int×Unit))=>
 zh (.cells #[(.string ByteArray.empty),(.slice none 0 0),(.int .u32 (0:Int)),(.int .u64 (0:Int)),(.int .i64 (0:Int))] 44) fun(r5:Nat)=>
 zc ((#[(.string u4.1),(.slice u4.2.1.1 u4.2.1.2.1 u4.2.1.2.2),(.int .u32 u4.2.2.1),(.int .u64 u4.2.2.2.1),(.int .i64 u4.2.2.2.2.1)]:Array Value).size=5)<|
 zt (aD r5) [(.string u4.1),(.slice u4.2.1.1 u4.2.1.2.1 u4.2.1.2.2),(.int .u32 u4.2.2.1),(.int .u64 u4.2.2.2.1),(.int .i64 u4.2.2.2.2.1)]<|
 zA<|
 zk [.str,.slc,(.int .u32),(.int .u64),(.int .i64)] (aD r5) fun(u6:(ByteArray×SLC×Int×Int×Int×Unit))=>
 yF prog x1 [(.agg #[(.string u6.1),(.slice u6.2.1.1 u6.2.1.2.1 u6.2.1.2.2),(.int .u32 u6.2.2.1),(.int .u64 u6.2.2.2.1),(.int .i64 u6.2.2.2.2.1)])] (.one (.one .str)) fun(u7:ByteArray)=>
 ze prog 110 [(.string u7)] (.one (.one (.int .i64))) fun(u8:Int)=>
 za (u8 !=(0:Int)) (K (.bool false))<|
 za (decide (y2.1>(0:Int))) (zc (0<=(wrap .i64 (y2.1-(1:Int)))/\(wrap .i64 (y2.1-(1:Int)))<((n0:Nat):Int))<|
 zi a0 fun(p9:Addr)=>
 zk [.str,.slc,(.int .u32),(.int .u64),(.int .i64)] (p9.add (Int.toNat (wrap .i64 (y2.1-(1:Int)))*5)) fun(u10:(ByteArray×SLC×Int×Int×Int×Unit))=>
 zk [.str,.slc,(.int .u32),(.int .u64),(.int .i64)] (aD r5) fun(u11:(ByteArray×SLC×Int×Int×Int×Unit))=>
 yF prog x1 [(.agg #[(.string u10.1),(.slice u10.2.1.1 u10.2.1.2.1 u10.2.1.2.2),(.int .u32 u10.2.2.1),(.int .u64 u10.2.2.2.1),(.int .i64 u10.2.2.2.2.1)])] (.one (.one .str)) fun(u12:ByteArray)=>
 zq [[((aD r5).add 0,(.string u11.1)),((aD r5).add 1,(.slice u11.2.1.1 u11.2.1.2.1 u11.2.1.2.2)),((aD r5).add 2,(.int .u32 u11.2.2.1)),((aD r5).add 3,(.int .u64 u11.2.2.2.1)),((aD r5).add 4,(.int .i64 u11.2.2.2.2.1))]]<|
 yF prog x1 [(.agg #[(.string u11.1),(.slice u11.2.1.1 u11.2.1.2.1 u11.2.1.2.2),(.int .u32 u11.2.2.1),(.int .u64 u11.2.2.2.1),(.int .i64 u11.2.2.2.2.1)])] (.one (.one .str)) fun(u13:ByteArray)=>
 za (!(Op.bytesLess u12.toList u13.toList)) (K (.bool false))<|I1 ((wrap .i64 (y2.1+(1:Int))),()))<|I1 ((wrap .i64 (y2.1+(1:Int))),()))<|K (.bool true)
theorem znN (a0:Option Addr) (n0 c0:Nat) (x1:Value) {K:Value->WP} {w:World} (h:S57 a0 n0 c0 x1 K w):Calls prog 57 #[(.slice a0 n0 c0),x1] w (Ret K):=cF an57 false Tryz.func57 h
def an58:Ann:=(AN AO)
def S58 (Aa:ByteArray) (Ab:Option Addr) (Ac Ae:Nat) (Ag:Int) (Ar:Int) (Az:Int) (K:Value->WP):WP:=
 zh (.cells #[(.string Aa),(.slice Ab Ac Ae),(.int .u32 Ag),(.int .u64 Ar),(.int .i64 Az)] 44) fun(r1:Nat)=>
 ldW .str (aD r1) fun(u2:ByteArray)=>K (.string u2)
theorem znO (Aa:ByteArray) (Ab:Option Addr) (Ac Ae:Nat) (Ag:Int) (Ar:Int) (Az:Int) {K:Value->WP} {w:World} (h:S58 Aa Ab Ac Ae Ag Ar Az K w):Calls prog 58 #[(.agg #[(.string Aa),(.slice Ab Ac Ae),(.int .u32 Ag),(.int .u64 Ar),(.int .i64 Az)])] w (Ret K):=cF an58 false Tryz.func58 h
def an59:Ann:=(AN (AR (AN (.block (.loop [(9,.sh (.one (.int .i64)))] [0,1,7,8,1000000] (AN (AR (AQ AP AP) (AR (.block (AN (AN (AQ AO AP)))) AP)))))) AO))
def S59 (a0:Option Addr) (n0 c0:Nat) (x1:Value) (K:Value->WP):WP:=
 zH (Int×Unit) ((0:Int),()) fun(y2:Int×Unit) (I1:(Int×Unit)->WP)=>
 za (decide (y2.1<((n0:Nat):Int))) (zc (0<=y2.1/\y2.1<((n0:Nat):Int))<|
 zi a0 fun(p3:Addr)=>
 zk [.str,(.int .u32)] (p3.add (Int.toNat y2.1*2)) fun(u4:(ByteArray×Int×Unit))=>
 zh (.cells #[(.string ByteArray.empty),(.int .u32 (0:Int))] 46) fun(r5:Nat)=>
 zc ((#[(.string u4.1),(.int .u32 u4.2.1)]:Array Value).size=2)<|
 zt (aD r5) [(.string u4.1),(.int .u32 u4.2.1)]<|
 zA<|
 zk [.str,(.int .u32)] (aD r5) fun(u6:(ByteArray×Int×Unit))=>
 yF prog x1 [(.agg #[(.string u6.1),(.int .u32 u6.2.1)])] (.one (.one .str)) fun(u7:ByteArray)=>
 ze prog 110 [(.string u7)] (.one (.one (.int .i64))) fun(u8:Int)=>
 za (u8 !=(0:Int)) (K (.bool false))<|
 za (decide (y2.1>(0:Int))) (zc (0<=(wrap .i64 (y2.1-(1:Int)))/\(wrap .i64 (y2.1-(1:Int)))<((n0:Nat):Int))<|
 zi a0 fun(p9:Addr)=>
 zk [.str,(.int .u32)] (p9.add (Int.toNat (wrap .i64 (y2.1-(1:Int)))*2)) fun(u10:(ByteArray×Int×Unit))=>
 zk [.str,(.int .u32)] (aD r5) fun(u11:(ByteArray×Int×Unit))=>
 yF prog x1 [(.agg #[(.string u10.1),(.int .u32 u10.2.1)])] (.one (.one .str)) fun(u12:ByteArray)=>
 zq [[((aD r5).add 0,(.string u11.1)),((aD r5).add 1,(.int .u32 u11.2.1))]]<|
 yF prog x1 [(.agg #[(.string u11.1),(.int .u32 u11.2.1)])] (.one (.one .str)) fun(u13:ByteArray)=>
 za (!(Op.bytesLess u12.toList u13.toList)) (K (.bool false))<|I1 ((wrap .i64 (y2.1+(1:Int))),()))<|I1 ((wrap .i64 (y2.1+(1:Int))),()))<|K (.bool true)
theorem znP (a0:Option Addr) (n0 c0:Nat) (x1:Value) {K:Value->WP} {w:World} (h:S59 a0 n0 c0 x1 K w):Calls prog 59 #[(.slice a0 n0 c0),x1] w (Ret K):=cF an59 false Tryz.func59 h
def an60:Ann:=(AN AO)
def S60 (Aa:ByteArray) (Af:Int) (K:Value->WP):WP:=
 zh (.cells #[(.string Aa),(.int .u32 Af)] 46) fun(r1:Nat)=>
 ldW .str (aD r1) fun(u2:ByteArray)=>K (.string u2)
theorem znQ (Aa:ByteArray) (Af:Int) {K:Value->WP} {w:World} (h:S60 Aa Af K w):Calls prog 60 #[(.agg #[(.string Aa),(.int .u32 Af)])] w (Ret K):=cF an60 false Tryz.func60 h
def an61:Ann:=(AN AO)
def S61 (a0:Option Addr) (n0 c0:Nat) (x1:Value) (K:Value->WP):WP:=
 ze prog 55 [(.slice a0 n0 c0),x1] (.one (.one (.int .i64))) fun(u1:Int)=>K (.bool (decide (u1>=(0:Int))))
theorem znR (a0:Option Addr) (n0 c0:Nat) (x1:Value) {K:Value->WP} {w:World} (h:S61 a0 n0 c0 x1 K w):Calls prog 61 #[(.slice a0 n0 c0),x1] w (Ret K):=cF an61 false Tryz.func61 h
def an62:Ann:=(AN AO)
def S62 (Aa:ByteArray) (Ab:Option Addr) (Ac Ae:Nat) (Ag:Int) (Ar:Int) (Az:Int) (K:Value->WP):WP:=
 zh (.cells #[(.string Aa),(.slice Ab Ac Ae),(.int .u32 Ag),(.int .u64 Ar),(.int .i64 Az)] 44) fun(r1:Nat)=>
 ldW .slc ((aD r1).add 1) fun(u2:SLC)=>
 ze prog 106 [(.slice u2.1 u2.2.1 u2.2.2)] (.one (.one (.int .i64))) fun(u3:Int)=>
 za (u3 !=(0:Int)) (K (.bool true))<|
 ldW (.int .i64) ((aD r1).add 4) fun(u4:Int)=>
 za (decide (u4<(0:Int))) (K (.bool true))<|
 ldW (.int .i64) ((aD r1).add 4) fun(u5:Int)=>
 za (decide (u5>(4096:Int))) (K (.bool true))<|
 ldW (.int .u32) ((aD r1).add 2) fun(u6:Int)=>
 ldW (.int .i64) ((aD r1).add 4) fun(u7:Int)=>
 za (!((u6==(0:Int))==(u7==(0:Int)))) (K (.bool true))<|
 ldW (.int .u64) ((aD r1).add 3) fun(u8:Int)=>K (.bool (decide (u8>=(1099511627776:Int))))
theorem znS (Aa:ByteArray) (Ab:Option Addr) (Ac Ae:Nat) (Ag:Int) (Ar:Int) (Az:Int) {K:Value->WP} {w:World} (h:S62 Aa Ab Ac Ae Ag Ar Az K w):Calls prog 62 #[(.agg #[(.string Aa),(.slice Ab Ac Ae),(.int .u32 Ag),(.int .u64 Ar),(.int .i64 Az)])] w (Ret K):=cF an62 false Tryz.func62 h
def an65:Ann:=(AN (AR (AN (AQ AO AP)) AO))
def S65 (a0:Option Addr) (n0 c0:Nat) (K:Value->WP):WP:=
 za (Option.isNone a0) (K (.slice none 0 0))<|
 zh (.cells #[] 44) fun(r1:Nat)=>
 zw prog (Builtin.append_ #[22,22] 22 #[(.slice (some (aD r1)) 0 0),(.slice a0 n0 c0)]) .slc fun(u2:SLC)=>K (.slice u2.1 u2.2.1 u2.2.2)
theorem znT (a0:Option Addr) (n0 c0:Nat) {K:Value->WP} {w:World} (h:S65 a0 n0 c0 K w):Calls prog 65 #[(.slice a0 n0 c0)] w (Ret K):=cF an65 false Tryz.func65 h
def an66:Ann:=(AN (AR (AN (AQ AO AP)) AO))
def S66 (a0:Option Addr) (n0 c0:Nat) (K:Value->WP):WP:=
 za (Option.isNone a0) (K (.slice none 0 0))<|
 zh (.cells #[] 46) fun(r1:Nat)=>
 zw prog (Builtin.append_ #[23,23] 23 #[(.slice (some (aD r1)) 0 0),(.slice a0 n0 c0)]) .slc fun(u2:SLC)=>K (.slice u2.1 u2.2.1 u2.2.2)
theorem znU (a0:Option Addr) (n0 c0:Nat) {K:Value->WP} {w:World} (h:S66 a0 n0 c0 K w):Calls prog 66 #[(.slice a0 n0 c0)] w (Ret K):=cF an66 false Tryz.func66 h
def an67:Ann:=(AN (AR (AN (AQ AO AP)) AO))
def S67 (a0:Option Addr) (n0 c0:Nat) (K:Value->WP):WP:=
 za (Option.isNone a0) (K (.slice none 0 0))<|
 zh (.cells #[] 62) fun(r1:Nat)=>
 zw prog (Builtin.append_ #[40,40] 40 #[(.slice (some (aD r1)) 0 0),(.slice a0 n0 c0)]) .slc fun(u2:SLC)=>K (.slice u2.1 u2.2.1 u2.2.2)
theorem znV (a0:Option Addr) (n0 c0:Nat) {K:Value->WP} {w:World} (h:S67 a0 n0 c0 K w):Calls prog 67 #[(.slice a0 n0 c0)] w (Ret K):=cF an67 false Tryz.func67 h
def an68:Ann:=(AN (AR (AN (AN (AQ AO AP))) AO))
def S68 (Aa:Int) (Af:Int) (K:Value->WP):WP:=
 zh (.cells #[(.int .i64 Aa),(.int .i64 Af)] 72) fun(r1:Nat)=>
 zk [(.int .i64),(.int .i64)] (aD r1) fun(u2:(Int×Int×Unit))=>
 ze prog 111 [(.agg #[(.int .i64 u2.1),(.int .i64 u2.2.1)])] (.one (.one (.int .i64))) fun(u3:Int)=>
 za (u3 !=(0:Int)) (K (.tuple #[(.pointer none),(.int .i64 u3)]))<|
 zA<|
 zk [(.int .i64),(.int .i64)] (aD r1) fun(u4:(Int×Int×Unit))=>
 ldW (.int .i64) (aD r1) fun(u5:Int)=>
 ldW (.int .i64) ((aD r1).add 1) fun(u6:Int)=>
 ze prog 113 [(.string (ByteArray.mk #[0])),(.int .i64 u5)] (.one (.one .str)) fun(u7:ByteArray)=>
 zq [[(((aD r1).add 1),(.int .i64 u6))],[((aD r1).add 0,(.int .i64 u4.1)),((aD r1).add 1,(.int .i64 u4.2.1))]]<|
 zh (.cells #[(.string u7)] 9) fun(r8:Nat)=>
 zq [[(((aD r1).add 1),(.int .i64 u6))],[((aD r1).add 0,(.int .i64 u4.1)),((aD r1).add 1,(.int .i64 u4.2.1))]]<|
 ze prog 112 [(.slice (some (aD r8)) 1 1),(.int .i64 u6)] (.one (.one .slc)) fun(u9:SLC)=>
 zq [[((aD r1).add 0,(.int .i64 u4.1)),((aD r1).add 1,(.int .i64 u4.2.1))]]<|
 zh (.cells #[(.int .i64 u4.1),(.int .i64 u4.2.1),(.slice u9.1 u9.2.1 u9.2.2),(.slice none 0 0),(.int .i64 (0:Int)),(.int .i64 (-1:Int))] 163) fun(r10:Nat)=>K (.tuple #[(.pointer (some (aD r10))),(.int .i64 (0:Int))])
theorem znW (Aa:Int) (Af:Int) {K:Value->WP} {w:World} (h:S68 Aa Af K w):Calls prog 68 #[(.agg #[(.int .i64 Aa),(.int .i64 Af)])] w (Ret K):=cF an68 false Tryz.func68 h
def an69:Ann:=(AN (AR (AN (AQ AO AP)) (AN (AR (AN (AQ AO AP)) (AN (AR (AN (.block (.loop [(29,.sh (.one (.int .i64)))] [0,4,6,28,1000000] (AN (AR (AQ AP AP) (AR (.block (AN (AR (AN (AQ AO AP)) AP))) AP)))))) (AR (AN (AN (AQ AO AP))) (AR (AN (AN (AQ AO AP))) (AR (AN (AN (AQ AO AP))) AO)))))))))
def S69 (x0:Option Addr) (K:Value->WP):WP:=
 za (Option.isNone x0) (K (.tuple #[(.pointer none),(.int .i64 (1:Int))]))<|
 ze prog 35 [(.pointer x0)] (.one (.agg [(.int .i64),(.int .i64)])) fun(u1:(Int×Int×Unit))=>
 ze prog 114 [(.agg #[(.int .i64 u1.1),(.int .i64 u1.2.1)])] (.many [(.one .ptr),(.one (.int .i64))]) fun(u2:Option Addr×Int×Unit)=>
 za (u2.2.1 !=(0:Int)) (K (.tuple #[(.pointer none),(.int .i64 u2.2.1)]))<|
 ze prog 35 [(.pointer x0)] (.one (.agg [(.int .i64),(.int .i64)])) fun(u3:(Int×Int×Unit))=>
 zh (.cells #[(.int .u64 (0:Int)),(.int .i64 (0:Int)),(.int .i64 (0:Int)),(.int .u32 (0:Int)),(.slice none 0 0)] 79) fun(r4:Nat)=>
 zc ((#[(.int .u64 (1:Int)),(.int .i64 u3.1),(.int .i64 u3.2.1),(.int .u32 (0:Int)),(.slice none 0 0)]:Array Value).size=5)<|
 zt (aD r4) [(.int .u64 (1:Int)),(.int .i64 u3.1),(.int .i64 u3.2.1),(.int .u32 (0:Int)),(.slice none 0 0)]<|
 ze prog 35 [(.pointer x0)] (.one (.agg [(.int .i64),(.int .i64)])) fun(u5:(Int×Int×Unit))=>
 ze prog 115 [(.agg #[(.int .i64 u5.1),(.int .i64 u5.2.1)])] (.one (.one (.int .i64))) fun(u6:Int)=>
 zH (Int×Unit) ((0:Int),()) fun(y8:Int×Unit) (I7:(Int×Unit)->WP)=>
 za (decide (y8.1<u6)) (ze prog 116 [(.pointer u2.1),(.pointer none)] (.many [(.one (.int .u32)),(.one (.int .i64))]) fun(u9:Int×Int×Unit)=>
 za (u9.2.1 !=(0:Int)) (K (.tuple #[(.pointer none),(.int .i64 (2:Int))]))<|
 ldW .slc ((aD r4).add 4) fun(u10:SLC)=>
 zh (.cells #[(.int .u32 u9.1)] 41) fun(r11:Nat)=>
 zw prog (Builtin.append_ #[54,54] 54 #[(.slice u10.1 u10.2.1 u10.2.2),(.slice (some (aD r11)) 1 1)]) .slc fun(u12:SLC)=>
 stW ((aD r4).add 4) (.slice u12.1 u12.2.1 u12.2.2)<|I7 ((wrap .i64 (y8.1+(1:Int))),()))<|
 zk [(.int .u64),(.int .i64),(.int .i64),(.int .u32),.slc] (aD r4) fun(u13:(Int×Int×Int×Int×SLC×Unit))=>
 ze prog 117 [(.agg #[(.int .u64 u13.1),(.int .i64 u13.2.1),(.int .i64 u13.2.2.1),(.int .u32 u13.2.2.2.1),(.slice u13.2.2.2.2.1.1 u13.2.2.2.2.1.2.1 u13.2.2.2.2.1.2.2)])] (.one (.one (.int .i64))) fun(u14:Int)=>
 za (u14 !=(0:Int)) (K (.tuple #[(.pointer none),(.int .i64 u14)]))<|
 ze prog 35 [(.pointer x0)] (.one (.agg [(.int .i64),(.int .i64)])) fun(u15:(Int×Int×Unit))=>
 zw prog (Instr.makeSlice 85 (.int .i64 u15.1) (.int .i64 u15.1)) .slc fun(u16:SLC)=>
 zw prog (Go.convert 85 9 (.slice u16.1 u16.2.1 u16.2.2)) .str fun(u17:ByteArray)=>
 ze prog 118 [(.pointer x0),(.int .i64 (1:Int)),(.string u17)] (.one (.one (.int .i64))) fun(u18:Int)=>
 za (u18 !=(0:Int)) (K (.tuple #[(.pointer none),(.int .i64 u18)]))<|
 zk [(.int .u64),(.int .i64),(.int .i64),(.int .u32),.slc] (aD r4) fun(u19:(Int×Int×Int×Int×SLC×Unit))=>
 ze prog 95 [(.pointer x0),(.pointer u2.1),(.agg #[(.int .u64 u19.1),(.int .i64 u19.2.1),(.int .i64 u19.2.2.1),(.int .u32 u19.2.2.2.1),(.slice u19.2.2.2.2.1.1 u19.2.2.2.2.1.2.1 u19.2.2.2.2.1.2.2)]),(.int .i64 (0:Int))] (.one (.one (.int .i64))) fun(u20:Int)=>
 za (u20 !=(0:Int)) (K (.tuple #[(.pointer none),(.int .i64 u20)]))<|
 zA<|
 zk [(.int .u64),(.int .i64),(.int .i64),(.int .u32),.slc] (aD r4) fun(u21:(Int×Int×Int×Int×SLC×Unit))=>
 ze prog 96 [(.pointer u2.1)] (.one (.one .ptr)) fun(u22:Option Addr)=>
 zq [[((aD r4).add 0,(.int .u64 u21.1)),((aD r4).add 1,(.int .i64 u21.2.1)),((aD r4).add 2,(.int .i64 u21.2.2.1)),((aD r4).add 3,(.int .u32 u21.2.2.2.1)),((aD r4).add 4,(.slice u21.2.2.2.2.1.1 u21.2.2.2.2.1.2.1 u21.2.2.2.2.1.2.2))]]<|
 zh (.cells #[(.pointer x0),(.int .u64 u21.1),(.int .i64 u21.2.1),(.int .i64 u21.2.2.1),(.int .u32 u21.2.2.2.1),(.slice u21.2.2.2.2.1.1 u21.2.2.2.2.1.2.1 u21.2.2.2.2.1.2.2),(.int .i64 (0:Int)),(.pointer u2.1),(.pointer u22),(.pointer none)] 122) fun(r23:Nat)=>K (.tuple #[(.pointer (some (aD r23))),(.int .i64 (0:Int))])
theorem znX (x0:Option Addr) {K:Value->WP} {w:World} (h:S69 x0 K w):Calls prog 69 #[(.pointer x0)] w (Ret K):=cF an69 false Tryz.func69 h
def an70:Ann:=(AN AO)
def S70  (K:Value->WP):WP:=
 zh (.cells #[(.string (ByteArray.mk #[107])),(.int .i64 (3:Int)),(.bool false),(.string (ByteArray.mk #[118])),(.int .i64 (1:Int)),(.bool true)] 62) fun(r1:Nat)=>K (.slice (some (aD r1)) 2 2)
theorem znY  {K:Value->WP} {w:World} (h:S70  K w):Calls prog 70 #[] w (Ret K):=cF an70 false Tryz.func70 h
def an71:Ann:=(AN AO)
def S71 (a0:Option Addr) (n0 c0:Nat) (x1:Value) (K:Value->WP):WP:=
 ze prog 119 [(.slice a0 n0 c0),x1] (.one (.one (.int .i64))) fun(u1:Int)=>K (.bool (decide (u1>=(0:Int))))
theorem znZ (a0:Option Addr) (n0 c0:Nat) (x1:Value) {K:Value->WP} {w:World} (h:S71 a0 n0 c0 x1 K w):Calls prog 71 #[(.slice a0 n0 c0),x1] w (Ret K):=cF an71 false Tryz.func71 h
def an72:Ann:=(AN AO)
def S72 (x0:Int) (a1:Addr) (K:Value->WP):WP:=
 ldW .ptr a1 fun(u1:Option Addr)=>
 ze prog 73 [(.pointer u1),(.int .u32 x0)] (.one (.one .bool)) fun(u2:Bool)=>K (.bool (!u2))
theorem zn0 (x0:Int) (a1:Addr) {K:Value->WP} {w:World} (h:S72 x0 a1 K w):Calls prog 72 #[(.int .u32 x0),(.pointer (some a1))] w (Ret K):=cF an72 false Tryz.func72 h
def an73:Ann:=(AN AO)
def S73 (x0:Option Addr) (x1:Int) (K:Value->WP):WP:=
 za (decide (x1>=(2:Int))) (zi x0 fun(p1:Addr)=>
 ldW (.int .i64) (((p1.add 1).add 1).add 1) fun(u2:Int)=>
 za (decide ((wrap .u64 x1)<(wrap .u64 u2))) (zi x0 fun(p3:Addr)=>
 ldW .slc ((p3.add 1).add 4) fun(u4:SLC)=>
 ze prog 120 [(.slice u4.1 u4.2.1 u4.2.2),(.int .u32 x1)] (.one (.one .bool)) fun(u5:Bool)=>K (.bool (!u5)))<|K (.bool false))<|K (.bool false)
theorem zn1 (x0:Option Addr) (x1:Int) {K:Value->WP} {w:World} (h:S73 x0 x1 K w):Calls prog 73 #[(.pointer x0),(.int .u32 x1)] w (Ret K):=cF an73 false Tryz.func73 h
def an74:Ann:=(AN AO)
def S74 (x0:Int) (a1:Addr) (K:Value->WP):WP:=
 ldW .ptr a1 fun(u1:Option Addr)=>
 zi u1 fun(p2:Addr)=>
 ldW .ptr (p2.add 8) fun(u3:Option Addr)=>
 ze prog 75 [(.pointer u3),(.int .u32 x0)] (.one (.one (.int .i64))) fun(u4:Int)=>K (.bool (u4==(0:Int)))
theorem zn2 (x0:Int) (a1:Addr) {K:Value->WP} {w:World} (h:S74 x0 a1 K w):Calls prog 74 #[(.int .u32 x0),(.pointer (some a1))] w (Ret K):=cF an74 false Tryz.func74 h
def an75:Ann:=(AN (AR (AN (AQ AO AP)) AO))
def S75 (x0:Option Addr) (x1:Int) (K:Value->WP):WP:=
 za (Option.isNone x0) (K (.int .i64 (0:Int)))<|
 zi x0 fun(p1:Addr)=>
 ldW .slc (p1.add 2) fun(u2:SLC)=>
 za (decide ((wrap .u64 x1)>=(wrap .u64 ((u2.2.1:Nat):Int)))) (K (.int .i64 (0:Int)))<|
 zi x0 fun(p3:Addr)=>
 ldW .slc (p3.add 2) fun(u4:SLC)=>
 zc (0<=x1/\x1<((u4.2.1:Nat):Int))<|
 zi u4.1 fun(p5:Addr)=>
 ldW (.int .u16) (p5.add (Int.toNat x1*1)) fun(u6:Int)=>K (.int .i64 (wrap .i64 u6))
theorem zin (x0:Option Addr) (x1:Int) {K:Value->WP} {w:World} (h:S75 x0 x1 K w):Calls prog 75 #[(.pointer x0),(.int .u32 x1)] w (Ret K):=cF an75 false Tryz.func75 h
def an76:Ann:=(AN (AR (AN (AQ AO AP)) (AN (AR (AN (AQ AO AP)) AO))))
def S76 (x0:Option Addr) (x1:Int) (K:Value->WP):WP:=
 za (Option.isNone x0) (K (.int .i64 (0:Int)))<|
 zi x0 fun(p1:Addr)=>
 ldW (.int .i64) ((p1.add 1).add 1) fun(u2:Int)=>
 ze prog 121 [(.int .i64 u2)] (.one (.one (.int .i64))) fun(u3:Int)=>
 za (decide (x1<(0:Int))) (K (.int .i64 (0:Int)))<|
 za (decide (x1>(wrap .i64 (Int.tdiv (wrap .i64 (u3-(2:Int))) (4:Int))))) (K (.int .i64 (0:Int)))<|K (.int .i64 (wrap .i64 ((wrap .i64 (u3-(2:Int)))-(wrap .i64 ((4:Int)*x1)))))
theorem zn3 (x0:Option Addr) (x1:Int) {K:Value->WP} {w:World} (h:S76 x0 x1 K w):Calls prog 76 #[(.pointer x0),(.int .i64 x1)] w (Ret K):=cF an76 false Tryz.func76 h
def an77:Ann:=(AN (AN (AN (.block (.loop [] [1,4,1000000] (.block (AN (AR (AN (AQ AO AP)) AP))))))))
def S77 (x0:Option Addr) (K:Value->WP):WP:=
 zh (.cells #[(.pointer x0)] 48) fun(r1:Nat)=>
 zh (.cells #[(.slice none 0 0)] 54) fun(r2:Nat)=>
 zH (Unit) () fun(y4:Unit) (I3:(Unit)->WP)=>
 zA<|
 ldW .ptr (aD r1) fun(u5:Option Addr)=>
 zi u5 fun(p6:Addr)=>
 ldW .ptr (p6.add 8) fun(u7:Option Addr)=>
 ldW .ptr (aD r1) fun(u8:Option Addr)=>
 zi u8 fun(p9:Addr)=>
 ldW .ptr (p9.add 7) fun(u10:Option Addr)=>
 ze prog 116 [(.pointer u7),(.pointer u10)] (.many [(.one (.int .u32)),(.one (.int .i64))]) fun(u11:Int×Int×Unit)=>
 za (u11.2.1 !=(0:Int)) (zR prog (⟨.fn (.func 122) #[(.pointer (some (aD r2))),(.pointer (some (aD r1)))],#[]⟩::[])<|K (.tuple #[(.int .u32 u11.1),(.int .i64 u11.2.1)]))<|
 ldW .ptr (aD r1) fun(u12:Option Addr)=>
 zi u12 fun(p13:Addr)=>
 ldW .ptr (p13.add 9) fun(u14:Option Addr)=>
 ze prog 75 [(.pointer u14),(.int .u32 u11.1)] (.one (.one (.int .i64))) fun(u15:Int)=>
 za (u15==(0:Int)) (zR prog (⟨.fn (.func 122) #[(.pointer (some (aD r2))),(.pointer (some (aD r1)))],#[]⟩::[])<|K (.tuple #[(.int .u32 u11.1),(.int .i64 u11.2.1)]))<|
 ldW .slc (aD r2) fun(u16:SLC)=>
 zh (.cells #[(.int .u32 u11.1)] 41) fun(r17:Nat)=>
 zw prog (Builtin.append_ #[54,54] 54 #[(.slice u16.1 u16.2.1 u16.2.2),(.slice (some (aD r17)) 1 1)]) .slc fun(u18:SLC)=>
 stW (aD r2) (.slice u18.1 u18.2.1 u18.2.2)<|I3 ()
theorem zn4 (x0:Option Addr) {K:Value->WP} {w:World} (h:S77 x0 K w):Calls prog 77 #[(.pointer x0)] w (Ret K):=cF an77 true Tryz.func77 h
def an78:Ann:=(AN (AN (AR (AN (AQ AO AP)) AO)))
def S78 (x0:Option Addr) (x1:Int) (AC:Int) (AD:Int) (AE:ByteArray) (K:Value->WP):WP:=
 zh (.cells #[(.int .u8 AC),(.int .u64 AD),(.string AE)] 127) fun(r1:Nat)=>
 zA<|
 zk [(.int .u8),(.int .u64),.str] (aD r1) fun(u2:(Int×Int×ByteArray×Unit))=>
 ze prog 35 [(.pointer x0)] (.one (.agg [(.int .i64),(.int .i64)])) fun(u3:(Int×Int×Unit))=>
 zq [[((aD r1).add 0,(.int .u8 u2.1)),((aD r1).add 1,(.int .u64 u2.2.1)),((aD r1).add 2,(.string u2.2.2.1))]]<|
 ze prog 123 [(.int .i64 u3.1),(.agg #[(.int .u8 u2.1),(.int .u64 u2.2.1),(.string u2.2.2.1)])] (.many [(.one .str),(.one (.int .i64))]) fun(u4:ByteArray×Int×Unit)=>
 za (u4.2.1 !=(0:Int)) (K (.int .i64 u4.2.1))<|
 ze prog 118 [(.pointer x0),(.int .i64 (wrap .i64 x1)),(.string u4.1)] (.one (.one (.int .i64))) fun(u5:Int)=>K (.int .i64 u5)
theorem zn5 (x0:Option Addr) (x1:Int) (AC:Int) (AD:Int) (AE:ByteArray) {K:Value->WP} {w:World} (h:S78 x0 x1 AC AD AE K w):Calls prog 78 #[(.pointer x0),(.int .u32 x1),(.agg #[(.int .u8 AC),(.int .u64 AD),(.string AE)])] w (Ret K):=cF an78 false Tryz.func78 h
def an79:Ann:=(AN (AR (AN (AQ AO AP)) (AR (AN (AQ AO AP)) (AN AO))))
def S79 (x0:Option Addr) (x1:Int) (K:Value->WP):WP:=
 za (Option.isNone x0) (K (.int .i64 (1:Int)))<|
 za (x1==(0:Int)) (K (.int .i64 (0:Int)))<|
 ze prog 124 [(.pointer x0),(.int .u32 x1),(.int .i64 (1:Int)),(.bool true)] (.many [(.agg [(.int .i64),(.int .u64),(.int .u64),(.int .u8),(.int .i64)]),(.one (.int .i64))]) fun(u1:(Int×Int×Int×Int×Int×Unit)×Int×Unit)=>
 zh (.cells #[(.int .i64 (0:Int)),(.int .u64 (0:Int)),(.int .u64 (0:Int)),(.int .u8 (0:Int)),(.int .i64 (0:Int))] 197) fun(r2:Nat)=>
 zc ((#[(.int .i64 u1.1.1),(.int .u64 u1.1.2.1),(.int .u64 u1.1.2.2.1),(.int .u8 u1.1.2.2.2.1),(.int .i64 u1.1.2.2.2.2.1)]:Array Value).size=5)<|
 zt (aD r2) [(.int .i64 u1.1.1),(.int .u64 u1.1.2.1),(.int .u64 u1.1.2.2.1),(.int .u8 u1.1.2.2.2.1),(.int .i64 u1.1.2.2.2.2.1)]<|K (.int .i64 u1.2.1)
theorem zio (x0:Option Addr) (x1:Int) {K:Value->WP} {w:World} (h:S79 x0 x1 K w):Calls prog 79 #[(.pointer x0),(.int .u32 x1)] w (Ret K):=cF an79 false Tryz.func79 h
def an80:Ann:=(AN AO)
def S80 (x0:Option Addr) (x1:Int) (x2:Int) (K:Value->WP):WP:=
 zh (.cells #[(.pointer x0)] 48) fun(r1:Nat)=>
 zh (.cells #[(.int .u32 x1)] 41) fun(r2:Nat)=>
 zh (.cells #[(.int .u64 x2)] 42) fun(r3:Nat)=>K (.func (.func 125) #[] #[(.pointer (some (aD r1))),(.pointer (some (aD r2))),(.pointer (some (aD r3)))])
theorem zn6 (x0:Option Addr) (x1:Int) (x2:Int) {K:Value->WP} {w:World} (h:S80 x0 x1 x2 K w):Calls prog 80 #[(.pointer x0),(.int .u32 x1),(.int .u64 x2)] w (Ret K):=cF an80 false Tryz.func80 h
def an81:Ann:=(AN (AN (AR (.block (.loop [(6,.sh (.one (.int .i64)))] [0,5,1000000] (AR (AN (AQ AP AP)) (.block AP)))) AO)))
def S81 (x0:Option Addr) (x1:Int) (K:Value->WP):WP:=
 ze prog 88 [(.pointer x0),(.int .u32 x1)] (.many [(.agg [(.int .u8),.slc,.str]),(.one (.int .i64))]) fun(u1:(Int×SLC×ByteArray×Unit)×Int×Unit)=>
 zh (.cells #[(.int .u8 (0:Int)),(.slice none 0 0),(.string ByteArray.empty)] 56) fun(r2:Nat)=>
 zc ((#[(.int .u8 u1.1.1),(.slice u1.1.2.1.1 u1.1.2.1.2.1 u1.1.2.1.2.2),(.string u1.1.2.2.1)]:Array Value).size=3)<|
 zt (aD r2) [(.int .u8 u1.1.1),(.slice u1.1.2.1.1 u1.1.2.1.2.1 u1.1.2.1.2.2),(.string u1.1.2.2.1)]<|
 zH (Int×Unit) (u1.2.1,()) fun(y4:Int×Unit) (I3:(Int×Unit)->WP)=>
 za (y4.1==(0:Int)) (ldW (.int .u8) (aD r2) fun(u5:Int)=>
 za (u5==(3:Int)) (ldW .slc ((aD r2).add 1) fun(u6:SLC)=>
 zc (0<=(0:Int)/\(0:Int)<((u6.2.1:Nat):Int))<|
 zi u6.1 fun(p7:Addr)=>
 ldW (.int .u32) (p7.add (Int.toNat (0:Int)*1)) fun(u8:Int)=>
 ze prog 88 [(.pointer x0),(.int .u32 u8)] (.many [(.agg [(.int .u8),.slc,.str]),(.one (.int .i64))]) fun(u9:(Int×SLC×ByteArray×Unit)×Int×Unit)=>
 zc ((#[(.int .u8 u9.1.1),(.slice u9.1.2.1.1 u9.1.2.1.2.1 u9.1.2.1.2.2),(.string u9.1.2.2.1)]:Array Value).size=3)<|
 zt (aD r2) [(.int .u8 u9.1.1),(.slice u9.1.2.1.1 u9.1.2.1.2.1 u9.1.2.1.2.2),(.string u9.1.2.2.1)]<|I3 (u9.2.1,()))<|
 za (y4.1==(0:Int)) (ldW (.int .u8) (aD r2) fun(u10:Int)=>K (.bool (u10==(5:Int))))<|K (.bool false))<|
 za (y4.1==(0:Int)) (ldW (.int .u8) (aD r2) fun(u11:Int)=>K (.bool (u11==(5:Int))))<|K (.bool false)
theorem zn7 (x0:Option Addr) (x1:Int) {K:Value->WP} {w:World} (h:S81 x0 x1 K w):Calls prog 81 #[(.pointer x0),(.int .u32 x1)] w (Ret K):=cF an81 false Tryz.func81 h
def an82:Ann:=(AN (AR (AN (AQ AO AP)) (AN (AR (AN (.block (.loop [(14,.sh (.one .str)),(15,.sh (.one (.int .i64)))] [] (AR AO (.block (AR (AN (AQ AO AP)) AP)))))) AO))))
def S82 (x0:Option Addr) (x1:Int) (K:Value->WP):WP:=
 zh (.cells #[(.string ByteArray.empty)] 9) fun(r1:Nat)=>
 zh (.cells #[(.int .i64 (0:Int))] 28) fun(r2:Nat)=>
 za (Option.isNone x0) (stW (aD r1) (.string (ByteArray.mk #[]))<|
 stW (aD r2) (.int .i64 (1:Int))<|
 zR prog []<|
 ldW .str (aD r1) fun(u3:ByteArray)=>
 ldW (.int .i64) (aD r2) fun(u4:Int)=>K (.tuple #[(.string u3),(.int .i64 u4)]))<|
 zh (.cells #[(.pointer none),(.slice none 0 0)] 204) fun(r5:Nat)=>
 ze prog 127 [(.pointer x0),(.int .u32 x1)] (.one (.one .any)) fun(u6:Value)=>
 jm prog u6 (ByteArray×Int×Unit) (fun(t7:ByteArray×Int×Unit)=>[(.string t7.1),(.int .i64 t7.2.1)]) (fun(t7:ByteArray×Int×Unit) (B8:WP->WP) (N9:WP) (Q10:Code->WP)=>B8 (za (t7.2.1 !=(0:Int)) (stW (aD r1) (.string (ByteArray.mk #[]))<|
 stW (aD r2) (.int .i64 t7.2.1)<|Q10 .ret)<|
 ze prog 128 [(.pointer (some (aD r5))),(.string t7.1)] (.many [(.one (.int .i64)),(.one .any)]) fun(u13:Int×Value×Unit)=>N9)) fun(r11:Nat) (p12:Option Code)=>
 qT (ze prog 129 [(.pointer (some (aD r5)))] (.one (.one .str)) fun(u14:ByteArray)=>
 stW (aD r1) (.string u14)<|
 stW (aD r2) (.int .i64 (0:Int))<|
 zR prog (⟨.collected r11,#[]⟩::[])<|
 ldW .str (aD r1) fun(u15:ByteArray)=>
 ldW (.int .i64) (aD r2) fun(u16:Int)=>K (.tuple #[(.string u15),(.int .i64 u16)])) (zR prog (⟨.collected r11,#[]⟩::[])<|
 ldW .str (aD r1) fun(u17:ByteArray)=>
 ldW (.int .i64) (aD r2) fun(u18:Int)=>K (.tuple #[(.string u17),(.int .i64 u18)])) [] p12
theorem zn8 (x0:Option Addr) (x1:Int) {K:Value->WP} {w:World} (h:S82 x0 x1 K w):Calls prog 82 #[(.pointer x0),(.int .u32 x1)] w (Ret K):=cF an82 true Tryz.func82 h
def an83:Ann:=(AN (AR (AN (.block (.loop [(2,.sh (.one .slc)),(10,.sh (.one (.int .i64)))] [0,9,1000000] (AN (AR (AQ AP AP) (AR (.block (AN (AN (AQ AP AP)))) AP)))))) (AR (AN (.block (.loop [(2,.sh (.one .slc)),(42,.sh (.one (.int .i64)))] [0,41,1000000] (AN (AR (AQ AP AP) (AR (.block (AN (AN (AQ AP AP)))) AP)))))) AO)))
def S83 (x0:Option Addr) (K:Value->WP):WP:=
 zi x0 fun(p1:Addr)=>
 ldW .slc p1 fun(u2:SLC)=>
 zH (SLC×Int×Unit) ((none,0,0),(0:Int),()) fun(y4:SLC×Int×Unit) (I3:(SLC×Int×Unit)->WP)=>
 za (decide (y4.2.1<((u2.2.1:Nat):Int))) (zi x0 fun(p5:Addr)=>
 ldW .slc p5 fun(u6:SLC)=>
 zc (0<=y4.2.1/\y4.2.1<((u6.2.1:Nat):Int))<|
 zi u6.1 fun(p7:Addr)=>
 ldW (.int .u32) ((p7.add (Int.toNat y4.2.1*5)).add 2) fun(u8:Int)=>
 za (u8 !=(0:Int)) (zi x0 fun(p9:Addr)=>
 ldW .slc p9 fun(u10:SLC)=>
 zc (0<=y4.2.1/\y4.2.1<((u10.2.1:Nat):Int))<|
 zi u10.1 fun(p11:Addr)=>
 zh (.cells #[(.int .u64 (wrap .u64 (wrap .i64 ((1:Int)+y4.2.1)))),(.pointer (some ((p11.add (Int.toNat y4.2.1*5)).add 2)))] 140) fun(r12:Nat)=>
 zw prog (Builtin.append_ #[135,135] 135 #[(.slice y4.1.1 y4.1.2.1 y4.1.2.2),(.slice (some (aD r12)) 1 1)]) .slc fun(u13:SLC)=>I3 ((u13.1,u13.2.1,u13.2.2),(wrap .i64 (y4.2.1+(1:Int))),()))<|I3 ((y4.1.1,y4.1.2.1,y4.1.2.2),(wrap .i64 (y4.2.1+(1:Int))),()))<|
 zi x0 fun(p14:Addr)=>
 ldW .slc (p14.add 1) fun(u15:SLC)=>
 zH (SLC×Int×Unit) ((y4.1.1,y4.1.2.1,y4.1.2.2),(0:Int),()) fun(y17:SLC×Int×Unit) (I16:(SLC×Int×Unit)->WP)=>
 za (decide (y17.2.1<((u15.2.1:Nat):Int))) (zi x0 fun(p18:Addr)=>
 ldW .slc (p18.add 1) fun(u19:SLC)=>
 zc (0<=y17.2.1/\y17.2.1<((u19.2.1:Nat):Int))<|
 zi u19.1 fun(p20:Addr)=>
 ldW (.int .u32) ((p20.add (Int.toNat y17.2.1*2)).add 1) fun(u21:Int)=>
 za (u21 !=(0:Int)) (zi x0 fun(p22:Addr)=>
 ldW .slc (p22.add 1) fun(u23:SLC)=>
 zc (0<=y17.2.1/\y17.2.1<((u23.2.1:Nat):Int))<|
 zi u23.1 fun(p24:Addr)=>
 zh (.cells #[(.int .u64 (wrap .u64 (wrap .i64 ((100:Int)+y17.2.1)))),(.pointer (some ((p24.add (Int.toNat y17.2.1*2)).add 1)))] 140) fun(r25:Nat)=>
 zw prog (Builtin.append_ #[135,135] 135 #[(.slice y17.1.1 y17.1.2.1 y17.1.2.2),(.slice (some (aD r25)) 1 1)]) .slc fun(u26:SLC)=>I16 ((u26.1,u26.2.1,u26.2.2),(wrap .i64 (y17.2.1+(1:Int))),()))<|I16 ((y17.1.1,y17.1.2.1,y17.1.2.2),(wrap .i64 (y17.2.1+(1:Int))),()))<|K (.slice y17.1.1 y17.1.2.1 y17.1.2.2)
theorem zn9 (x0:Option Addr) {K:Value->WP} {w:World} (h:S83 x0 K w):Calls prog 83 #[(.pointer x0)] w (Ret K):=cF an83 false Tryz.func83 h
def an84:Ann:=(AN AO)
def S84 (x0:Option Addr) (K:Value->WP):WP:=
 zh (.cells #[(.pointer x0)] 48) fun(r1:Nat)=>K (.func (.func 130) #[] #[(.pointer (some (aD r1)))])
theorem zoa (x0:Option Addr) {K:Value->WP} {w:World} (h:S84 x0 K w):Calls prog 84 #[(.pointer x0)] w (Ret K):=cF an84 false Tryz.func84 h
def an85:Ann:=(AN (AR (AN (AQ AO AP)) (AR (AN (AQ AO AP)) (AN (AN (AN (AR (AN (.block (.loop [(28,.sh (.one (.int .i64)))] [1,2,5,6,7,27,1000000] (AN (AR (AQ AP AP) (AR (.block (AN (AN (AR (AN (AQ AO AP)) AP)))) AP)))))) AO)))))))
def S85 (x0:Option Addr) (x1:ByteArray) (K:Value->WP):WP:=
 zh (.cells #[(.pointer x0)] 48) fun(r1:Nat)=>
 zh (.cells #[(.int .i64 (0:Int))] 28) fun(r2:Nat)=>
 ldW .ptr (aD r1) fun(u3:Option Addr)=>
 za (Option.isNone u3) (stW (aD r2) (.int .i64 (1:Int))<|
 zR prog []<|
 ldW (.int .i64) (aD r2) fun(u4:Int)=>K (.tuple #[(.int .u32 (0:Int)),(.int .i64 u4)]))<|
 ldW .ptr (aD r1) fun(u5:Option Addr)=>
 ze prog 131 [(.pointer u5)] (.one (.one (.int .i64))) fun(u6:Int)=>
 za (decide (((x1.size:Nat):Int)>u6)) (stW (aD r2) (.int .i64 (3:Int))<|
 zR prog []<|
 ldW (.int .i64) (aD r2) fun(u7:Int)=>K (.tuple #[(.int .u32 (0:Int)),(.int .i64 u7)]))<|
 zh (.cells #[(.slice none 0 0)] 54) fun(r8:Nat)=>
 ldW .ptr (aD r1) fun(u9:Option Addr)=>
 ze prog 76 [(.pointer u9),(.int .i64 (0:Int))] (.one (.one (.int .i64))) fun(u10:Int)=>
 zc (u10≠0)<|
 zH (Int×Unit) ((0:Int),()) fun(y12:Int×Unit) (I11:(Int×Unit)->WP)=>
 za (decide (y12.1<(wrap .i64 (Int.tdiv (wrap .i64 ((wrap .i64 (((x1.size:Nat):Int)+u10))-(1:Int))) u10)))) (zA<|
 ldW .ptr (aD r1) fun(u13:Option Addr)=>
 zc (0<=(wrap .i64 (y12.1*u10))/\(wrap .i64 (y12.1*u10))<=(if (wrap .i64 ((wrap .i64 (y12.1+(1:Int)))*u10))<((x1.size:Nat):Int) then (wrap .i64 ((wrap .i64 (y12.1+(1:Int)))*u10)) else ((x1.size:Nat):Int))/\(if (wrap .i64 ((wrap .i64 (y12.1+(1:Int)))*u10))<((x1.size:Nat):Int) then (wrap .i64 ((wrap .i64 (y12.1+(1:Int)))*u10)) else ((x1.size:Nat):Int))<=((x1.size:Nat):Int))<|
 ze prog 24 [(.pointer u13),(.agg #[(.int .u8 (7:Int)),(.slice none 0 0),(.string (ByteArray.extract x1 (Int.toNat (wrap .i64 (y12.1*u10))) (Int.toNat (if (wrap .i64 ((wrap .i64 (y12.1+(1:Int)))*u10))<((x1.size:Nat):Int) then (wrap .i64 ((wrap .i64 (y12.1+(1:Int)))*u10)) else ((x1.size:Nat):Int)))))])] (.many [(.one (.int .u32)),(.one (.int .i64))]) fun(u14:Int×Int×Unit)=>
 za (u14.2.1 !=(0:Int)) (stW (aD r2) (.int .i64 u14.2.1)<|
 zR prog (⟨.fn (.func 132) #[(.pointer (some (aD r2))),(.pointer (some (aD r8))),(.pointer (some (aD r1)))],#[]⟩::[])<|
 ldW (.int .i64) (aD r2) fun(u15:Int)=>K (.tuple #[(.int .u32 (0:Int)),(.int .i64 u15)]))<|
 ldW .slc (aD r8) fun(u16:SLC)=>
 zh (.cells #[(.int .u32 u14.1)] 41) fun(r17:Nat)=>
 zw prog (Builtin.append_ #[54,54] 54 #[(.slice u16.1 u16.2.1 u16.2.2),(.slice (some (aD r17)) 1 1)]) .slc fun(u18:SLC)=>
 stW (aD r8) (.slice u18.1 u18.2.1 u18.2.2)<|I11 ((wrap .i64 (y12.1+(1:Int))),()))<|
 zA<|
 ldW .ptr (aD r1) fun(u19:Option Addr)=>
 ldW .slc (aD r8) fun(u20:SLC)=>
 ze prog 42 [(.slice none 0 0),(.int .u64 (wrap .u64 ((x1.size:Nat):Int))),(.int .i64 (4:Int))] (.one (.one .slc)) fun(u21:SLC)=>
 zq [[((aD r8),(.slice u20.1 u20.2.1 u20.2.2))],[((aD r1),(.pointer u19))]]<|
 zw prog (Go.convert 85 9 (.slice u21.1 u21.2.1 u21.2.2)) .str fun(u22:ByteArray)=>
 zq [[((aD r8),(.slice u20.1 u20.2.1 u20.2.2))],[((aD r1),(.pointer u19))]]<|
 ze prog 24 [(.pointer u19),(.agg #[(.int .u8 (6:Int)),(.slice u20.1 u20.2.1 u20.2.2),(.string u22)])] (.many [(.one (.int .u32)),(.one (.int .i64))]) fun(u23:Int×Int×Unit)=>
 stW (aD r2) (.int .i64 u23.2.1)<|
 zR prog (⟨.fn (.func 132) #[(.pointer (some (aD r2))),(.pointer (some (aD r8))),(.pointer (some (aD r1)))],#[]⟩::[])<|
 ldW (.int .i64) (aD r2) fun(u24:Int)=>K (.tuple #[(.int .u32 u23.1),(.int .i64 u24)])
theorem zob (x0:Option Addr) (x1:ByteArray) {K:Value->WP} {w:World} (h:S85 x0 x1 K w):Calls prog 85 #[(.pointer x0),(.string x1)] w (Ret K):=cF an85 true Tryz.func85 h
def an86:Ann:=(AN (AR (AN (AQ AO AP)) (AR (AN (AQ AO AP)) (AN (AR (AN (.block (.loop [(27,.sh (.one (.int .i64)))] [0,1,2,10,25,26,1000000] (AN (AR (AQ AP AP) (.join [] [0,1,2,10,25,26,27,1000000] (.block (AN (.join [] [0,1,2,10,12,25,26,27,1000000] (AN (AQ AO AP)) (AN (AQ AP AP))))) AP)))))) AO)))))
def S86 (x0:Option Addr) (x1:Bool) (a2:Option Addr) (n2 c2:Nat) (a3:Option Addr) (n3 c3:Nat) (K:Value->WP):WP:=
 za (Option.isNone x0) (K (.tuple #[(.int .u32 (0:Int)),(.int .i64 (1:Int))]))<|
 za (((n2:Nat):Int) !=((n3:Nat):Int)) (K (.tuple #[(.int .u32 (0:Int)),(.int .i64 (2:Int))]))<|
 ze prog 133 [(.bool x1)] (.one (.one (.int .u8))) fun(u1:Int)=>
 zh (.cells #[(.int .u8 (0:Int)),(.slice none 0 0),(.slice none 0 0),(.slice none 0 0)] 215) fun(r2:Nat)=>
 zc ((#[(.int .u8 u1),(.slice a2 n2 c2),(.slice a3 n3 c3),(.slice none 0 0)]:Array Value).size=4)<|
 zt (aD r2) [(.int .u8 u1),(.slice a2 n2 c2),(.slice a3 n3 c3),(.slice none 0 0)]<|
 zH (Int×Unit) ((0:Int),()) fun(y4:Int×Unit) (I3:(Int×Unit)->WP)=>
 za (decide (y4.1<((n3:Nat):Int))) (yC (Unit) (fun(J5:(Unit)->WP)=>
 zc (0<=y4.1/\y4.1<((n3:Nat):Int))<|
 zi a3 fun(p7:Addr)=>
 ldW (.int .u64) (p7.add (Int.toNat y4.1*1)) fun(u8:Int)=>
 yC (Unit) (fun(J9:(Unit)->WP)=>
 zA<|
 za (decide (y4.1>(0:Int))) (zc (0<=(wrap .i64 (y4.1-(1:Int)))/\(wrap .i64 (y4.1-(1:Int)))<((n2:Nat):Int))<|
 zi a2 fun(p11:Addr)=>
 ldW (.int .u64) (p11.add (Int.toNat (wrap .i64 (y4.1-(1:Int)))*1)) fun(u12:Int)=>
 zc (0<=y4.1/\y4.1<((n2:Nat):Int))<|
 zi a2 fun(p13:Addr)=>
 ldW (.int .u64) (p13.add (Int.toNat y4.1*1)) fun(u14:Int)=>
 za (decide (u12>=u14)) (K (.tuple #[(.int .u32 (0:Int)),(.int .i64 (2:Int))]))<|
 za x1 (ze prog 134 [(.pointer x0),(.int .u64 u8)] (.one (.one .bool)) fun(u15:Bool)=>
 za (!u15) (K (.tuple #[(.int .u32 (0:Int)),(.int .i64 (2:Int))]))<|J9 ())<|J9 ())<|
 za x1 (ze prog 134 [(.pointer x0),(.int .u64 u8)] (.one (.one .bool)) fun(u16:Bool)=>
 za (!u16) (K (.tuple #[(.int .u32 (0:Int)),(.int .i64 (2:Int))]))<|J9 ())<|J9 ()) fun(y10:Unit)=>
 za x1 (ldW .slc ((aD r2).add 3) fun(u17:SLC)=>
 zh (.cells #[(.int .u32 (wrap .u32 u8))] 41) fun(r18:Nat)=>
 zw prog (Builtin.append_ #[54,54] 54 #[(.slice u17.1 u17.2.1 u17.2.2),(.slice (some (aD r18)) 1 1)]) .slc fun(u19:SLC)=>
 stW ((aD r2).add 3) (.slice u19.1 u19.2.1 u19.2.2)<|J5 ())<|J5 ()) fun(y6:Unit)=>I3 ((wrap .i64 (y4.1+(1:Int))),()))<|
 zk [(.int .u8),.slc,.slc,.slc] (aD r2) fun(u20:(Int×SLC×SLC×SLC×Unit))=>
 ze prog 135 [(.agg #[(.int .u8 u20.1),(.slice u20.2.1.1 u20.2.1.2.1 u20.2.1.2.2),(.slice u20.2.2.1.1 u20.2.2.1.2.1 u20.2.2.1.2.2),(.slice u20.2.2.2.1.1 u20.2.2.2.1.2.1 u20.2.2.2.1.2.2)]),(.pointer x0),(.int .i64 (1:Int))] (.many [(.one (.int .u32)),(.one (.int .i64))]) fun(u21:Int×Int×Unit)=>K (.tuple #[(.int .u32 u21.1),(.int .i64 u21.2.1)])
theorem zoc (x0:Option Addr) (x1:Bool) (a2:Option Addr) (n2 c2:Nat) (a3:Option Addr) (n3 c3:Nat) {K:Value->WP} {w:World} (h:S86 x0 x1 a2 n2 c2 a3 n3 c3 K w):Calls prog 86 #[(.pointer x0),(.bool x1),(.slice a2 n2 c2),(.slice a3 n3 c3)] w (Ret K):=cF an86 false Tryz.func86 h
def an87:Ann:=(AN (AN (AR (AN (AQ AO AP)) (AN AO))))
def S87 (x0:Option Addr) (x1:Int) (K:Value->WP):WP:=
 ze prog 136 [(.pointer x0),(.int .u32 x1)] (.many [(.one .ptr),(.one (.int .i64))]) fun(u1:Option Addr×Int×Unit)=>
 za (u1.2.1 !=(0:Int)) (K (.tuple #[(.int .i64 (0:Int)),(.int .i64 u1.2.1)]))<|
 zi u1.1 fun(p2:Addr)=>
 ldW (.int .u16) p2 fun(u3:Int)=>
 zi u1.1 fun(p4:Addr)=>
 stW p4 (.int .u16 (wrap .u16 (u3-(1:Int))))<|
 zi u1.1 fun(p5:Addr)=>
 ldW (.int .u16) p5 fun(u6:Int)=>K (.tuple #[(.int .i64 (wrap .i64 u6)),(.int .i64 (0:Int))])
theorem zod (x0:Option Addr) (x1:Int) {K:Value->WP} {w:World} (h:S87 x0 x1 K w):Calls prog 87 #[(.pointer x0),(.int .u32 x1)] w (Ret K):=cF an87 false Tryz.func87 h
def an88:Ann:=(AN (AR (.block (AN (AQ AO (AN (AQ AO (AN (AQ AO AP))))))) (AN (AR (AN (AQ AO AP)) AO))))
def S88 (x0:Option Addr) (x1:Int) (K:Value->WP):WP:=
 zh (.cells #[(.int .u8 (0:Int)),(.slice none 0 0),(.string ByteArray.empty)] 56) fun(r1:Nat)=>
 za (Option.isNone x0) (zc ((#[(.int .u8 (0:Int)),(.slice none 0 0),(.string ByteArray.empty)]:Array Value).size=3)<|
 zt (aD r1) [(.int .u8 (0:Int)),(.slice none 0 0),(.string ByteArray.empty)]<|
 zk [(.int .u8),.slc,.str] (aD r1) fun(u2:(Int×SLC×ByteArray×Unit))=>K (.tuple #[(.agg #[(.int .u8 u2.1),(.slice u2.2.1.1 u2.2.1.2.1 u2.2.1.2.2),(.string u2.2.2.1)]),(.int .i64 (1:Int))]))<|
 ze prog 73 [(.pointer x0),(.int .u32 x1)] (.one (.one .bool)) fun(u3:Bool)=>
 za (!u3) (zc ((#[(.int .u8 (0:Int)),(.slice none 0 0),(.string ByteArray.empty)]:Array Value).size=3)<|
 zt (aD r1) [(.int .u8 (0:Int)),(.slice none 0 0),(.string ByteArray.empty)]<|
 zk [(.int .u8),.slc,.str] (aD r1) fun(u4:(Int×SLC×ByteArray×Unit))=>K (.tuple #[(.agg #[(.int .u8 u4.1),(.slice u4.2.1.1 u4.2.1.2.1 u4.2.1.2.2),(.string u4.2.2.1)]),(.int .i64 (2:Int))]))<|
 zi x0 fun(p5:Addr)=>
 ldW .ptr (p5.add 8) fun(u6:Option Addr)=>
 ze prog 75 [(.pointer u6),(.int .u32 x1)] (.one (.one (.int .i64))) fun(u7:Int)=>
 za (u7==(0:Int)) (zc ((#[(.int .u8 (0:Int)),(.slice none 0 0),(.string ByteArray.empty)]:Array Value).size=3)<|
 zt (aD r1) [(.int .u8 (0:Int)),(.slice none 0 0),(.string ByteArray.empty)]<|
 zk [(.int .u8),.slc,.str] (aD r1) fun(u8:(Int×SLC×ByteArray×Unit))=>K (.tuple #[(.agg #[(.int .u8 u8.1),(.slice u8.2.1.1 u8.2.1.2.1 u8.2.1.2.2),(.string u8.2.2.1)]),(.int .i64 (8:Int))]))<|
 zi x0 fun(p9:Addr)=>
 ldW .ptr p9 fun(u10:Option Addr)=>
 ze prog 137 [(.pointer u10),(.int .i64 (wrap .i64 x1))] (.many [(.one .str),(.one (.int .i64))]) fun(u11:ByteArray×Int×Unit)=>
 za (u11.2.1 !=(0:Int)) (zc ((#[(.int .u8 (0:Int)),(.slice none 0 0),(.string ByteArray.empty)]:Array Value).size=3)<|
 zt (aD r1) [(.int .u8 (0:Int)),(.slice none 0 0),(.string ByteArray.empty)]<|
 zk [(.int .u8),.slc,.str] (aD r1) fun(u12:(Int×SLC×ByteArray×Unit))=>K (.tuple #[(.agg #[(.int .u8 u12.1),(.slice u12.2.1.1 u12.2.1.2.1 u12.2.1.2.2),(.string u12.2.2.1)]),(.int .i64 u11.2.1)]))<|
 ze prog 138 [(.pointer x0),(.string u11.1)] (.many [(.agg [(.int .u8),.slc,.str]),(.one (.int .i64))]) fun(u13:(Int×SLC×ByteArray×Unit)×Int×Unit)=>
 zc ((#[(.int .u8 u13.1.1),(.slice u13.1.2.1.1 u13.1.2.1.2.1 u13.1.2.1.2.2),(.string u13.1.2.2.1)]:Array Value).size=3)<|
 zt (aD r1) [(.int .u8 u13.1.1),(.slice u13.1.2.1.1 u13.1.2.1.2.1 u13.1.2.1.2.2),(.string u13.1.2.2.1)]<|
 zk [(.int .u8),.slc,.str] (aD r1) fun(u14:(Int×SLC×ByteArray×Unit))=>K (.tuple #[(.agg #[(.int .u8 u14.1),(.slice u14.2.1.1 u14.2.1.2.1 u14.2.1.2.2),(.string u14.2.2.1)]),(.int .i64 u13.2.1)])
theorem zoe (x0:Option Addr) (x1:Int) {K:Value->WP} {w:World} (h:S88 x0 x1 K w):Calls prog 88 #[(.pointer x0),(.int .u32 x1)] w (Ret K):=cF an88 false Tryz.func88 h
def an89:Ann:=(AN (.block (.loop [(2,.sh (.one (.int .i64))),(3,.sh (.one (.int .i64)))] [0,1000000] (AR (AN (AQ AP AP)) (AR (.block AP) AP)))))
def S89 (a0:Option Addr) (n0 c0:Nat) (K:Value->WP):WP:=
 zH (Int×Int×Unit) ((0:Int),(wrap .i64 (((n0:Nat):Int)-(1:Int))),()) fun(y2:Int×Int×Unit) (I1:(Int×Int×Unit)->WP)=>
 za (decide (y2.1<y2.2.1)) (zA<|
 zc (0<=y2.2.1/\y2.2.1<((n0:Nat):Int))<|
 zi a0 fun(p3:Addr)=>
 ldW (.int .u32) (p3.add (Int.toNat y2.2.1*1)) fun(u4:Int)=>
 zc (0<=y2.1/\y2.1<((n0:Nat):Int))<|
 zi a0 fun(p5:Addr)=>
 ldW (.int .u32) (p5.add (Int.toNat y2.1*1)) fun(u6:Int)=>
 zc (0<=y2.1/\y2.1<((n0:Nat):Int))<|
 zi a0 fun(p7:Addr)=>
 stW (p7.add (Int.toNat y2.1*1)) (.int .u32 u4)<|
 zc (0<=y2.2.1/\y2.2.1<((n0:Nat):Int))<|
 zi a0 fun(p8:Addr)=>
 stW (p8.add (Int.toNat y2.2.1*1)) (.int .u32 u6)<|I1 ((wrap .i64 (y2.1+(1:Int))),(wrap .i64 (y2.2.1-(1:Int))),()))<|K (.tuple #[])
theorem zof (a0:Option Addr) (n0 c0:Nat) {K:Value->WP} {w:World} (h:S89 a0 n0 c0 K w):Calls prog 89 #[(.slice a0 n0 c0)] w (Ret K):=cF an89 false Tryz.func89 h
def an90:Ann:=(AN (AR (.block (AN (AQ AO (AN (AQ AO AP))))) AO))
def S90 (x0:Option Addr) (x1:Int) (K:Value->WP):WP:=
 za (Option.isNone x0) (K (.int .i64 (1:Int)))<|
 ze prog 73 [(.pointer x0),(.int .u32 x1)] (.one (.one .bool)) fun(u1:Bool)=>
 za (!u1) (K (.int .i64 (2:Int)))<|
 zi x0 fun(p2:Addr)=>
 ldW .ptr (p2.add 8) fun(u3:Option Addr)=>
 ze prog 139 [(.pointer u3),(.int .u32 x1)] (.one (.one (.int .i64))) fun(u4:Int)=>K (.int .i64 u4)
end V
end Go.Proofs.YtplgodmmmppmeaaGreat
