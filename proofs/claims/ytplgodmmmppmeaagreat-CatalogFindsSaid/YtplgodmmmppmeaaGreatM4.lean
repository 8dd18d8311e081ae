/- Texts of mine, merged (wip/tool/mergep.py): Shelf, KRead, KDev, HR2, KDev2, KDev3, KDev4, KFrame2, KSup, Spa, KCounts, KCounts2, HW, KCounts3, KSuper1, KSuper2, KSuper3, KSuper4, KSpa, KCat1, DecCat, KSpa2, KSpa3, KSpa4, KSpa5, KSpa6, Graph, KSpa7, KCounts4. -/
import Derived.Shelf.Strings.Builder1
import Derived.Shelf.Strings.Builder2
import Derived.Shelf.Strings.OnBuilder
import Derived.Shelf.Strings.BuilderF
import Derived.Shelf.Strings.BuilderK
import Derived.Shelf.Strings.Builder2Cap
import Derived.Shelf.Strings.Prefix
import Derived.Shelf.Bits.Mul64
import Derived.Shelf.Strings.Repeat
import Derived.Shelf.Strings.BuilderCap
import Derived.Shelf.Slices.Equal
import Derived.Shelf.Slices.Empties2
import Derived.Ground.SlgnProg
import Derived.Shelf.SlicesE.Reverse
import Derived.Shelf.SlicesE.Clone
import Derived.Test.YtplgodmmmppmeaaGreatProg
import Derived.Test.YtplgodmmmppmeaaGreatM3
import Derived.Test.YtplgodmmmppmeaaGreatM1
set_option linter.unusedVariables false
set_option linter.unusedSimpArgs false
namespace Go.Proofs.YtplgodmmmppmeaaGreat
/- Contracts of the library at this dump: written by the kit's own tools (lay-shelf, lay-plain), pruned to what is used. -/
namespace Go.Proofs
open Go.Shelf
def Tryz.lays169_ren : Go.Shelf.Ren := ⟨fun | 169 => 129 | n => n, fun | 70 => 202 | 9 => 9 | 0 => 0 | 72 => 204 | 37 => 85 | 127 => 259 | 3 => 3 | 5 => 5 | n => n, fun | n => n⟩
theorem Tryz.lays169 : Go.Proofs.Lays.n169 Tryz.prog Tryz.lays169_ren := {
 mixed := by kernel_rfl
 f169 := Tryz.func129.trans (congrArg some (by kernel_rfl))
 t0 := Tryz.underlying0
 a0 := Tryz.isAgg0
 z0 := Tryz.sizeOf0
 v0 := Tryz.zeroValue0
 t3 := Tryz.underlying3
 a3 := Tryz.isAgg3
 z3 := Tryz.sizeOf3
 v3 := Tryz.zeroValue3
 t9 := Tryz.underlying9
 a9 := Tryz.isAgg9
 z9 := Tryz.sizeOf9
 v9 := Tryz.zeroValue9
 t37 := Tryz.underlying85
 a37 := Tryz.isAgg85
 z37 := Tryz.sizeOf85
 v37 := Tryz.zeroValue85
 t70 := Tryz.underlying202
 a70 := Tryz.isAgg202
 z70 := Tryz.sizeOf202
 v70 := Tryz.zeroValue202
 t72 := Tryz.underlying204
 a72 := Tryz.isAgg204
 z72 := Tryz.sizeOf204
 v72 := Tryz.zeroValue204
 t127 := Tryz.underlying259
 a127 := Tryz.isAgg259
 z127 := Tryz.sizeOf259
 v127 := Tryz.zeroValue259 }
theorem Tryz.Builder_Extra_169 : Builder.Extra Tryz.prog Tryz.lays169_ren := {
 sizeBuilder := by kernel_rfl
 liesBuilder := by kernel_rfl
 t5 := Tryz.underlying5
 a5 := Tryz.isAgg5
 z5 := Tryz.sizeOf5
 v5 := Tryz.zeroValue5
 infoByte := by kernel_rfl
 cellsByte := by kernel_rfl
 sizeByte := by kernel_rfl
 neB5 := by decide }
open Go.RowKit in
open Go.RowKit in
theorem Tryz.Builder_String_any_k (B b : Nat) (l : List UInt8) (w : World) (h : Lib.IsBuilderF 204 5 B b (Lib.byteCells l) w) (hBw : B <= w.heap.size) :
  Calls Tryz.prog 129 #[.pointer (some ⟨b, 0, none⟩)] w fun e w' => e = .returned (.string ⟨l.toArray⟩) /\ (Lib.IsBuilderF 204 5 B b (Lib.byteCells l) w' /\ Below B w w' /\ Lib.OthersKept 5 (some b) w w') := Any.Builder_String_any_k Tryz.lays169 Tryz.Builder_Extra_169 B b l w h hBw
def Tryz.lays212_ren : Go.Shelf.Ren := ⟨fun | 212 => 158 | 263 => 197 | 264 => 198 | n => n, fun | 46 => 180 | 51 => 41 | 146 => 282 | 53 => 42 | 148 => 284 | n => n, fun | n => n⟩
theorem Tryz.lays212 : Go.Proofs.Lays.n212 Tryz.prog Tryz.lays212_ren := {
 mixed := by kernel_rfl
 f212 := Tryz.func158.trans (congrArg some (by kernel_rfl))
 f263 := Tryz.func197.trans (congrArg some (by kernel_rfl))
 f264 := Tryz.func198.trans (congrArg some (by kernel_rfl))
 t46 := Tryz.underlying180
 a46 := Tryz.isAgg180
 z46 := Tryz.sizeOf180
 v46 := Tryz.zeroValue180
 t51 := Tryz.underlying41
 a51 := Tryz.isAgg41
 z51 := Tryz.sizeOf41
 v51 := Tryz.zeroValue41
 t53 := Tryz.underlying42
 a53 := Tryz.isAgg42
 z53 := Tryz.sizeOf42
 v53 := Tryz.zeroValue42
 t146 := Tryz.underlying282
 a146 := Tryz.isAgg282
 z146 := Tryz.sizeOf282
 v146 := Tryz.zeroValue282
 t148 := Tryz.underlying284
 a148 := Tryz.isAgg284
 z148 := Tryz.sizeOf284
 v148 := Tryz.zeroValue284 }
open Go.RowKit Go.Lib in
theorem Tryz.bits_Mul (x y : Nat) (hx : x < 18446744073709551616) (hy : y < 18446744073709551616) (w : World) :
  Calls Tryz.prog 158 #[.int .u64 x, .int .u64 y] w fun e w' => e = .returned (.tuple #[.int .u64 ((x * y / 18446744073709551616 : Nat) : Int), .int .u64 ((x * y % 18446744073709551616 : Nat) : Int)]) /\ w' = w := Any.bits_Mul Tryz.lays212 x y hx hy w
def Tryz.lays105_ren : Go.Shelf.Ren := ⟨fun | 105 => 113 | 212 => 158 | 99 => 159 | 165 => 145 | 166 => 128 | 170 => 160 | 169 => 129 | 263 => 197 | 264 => 198 | 206 => 199 | 240 => 171 | 241 => 182 | 276 => 204 | 277 => 212 | n => n, fun | 9 => 9 | 3 => 3 | 4 => 4 | 20 => 20 | 0 => 0 | 46 => 180 | 109 => 248 | 5 => 5 | 72 => 204 | 76 => 210 | 51 => 41 | 146 => 282 | 53 => 42 | 148 => 284 | 70 => 202 | 37 => 85 | 75 => 209 | 127 => 259 | 164 => 290 | 80 => 74 | n => n, fun | n => n⟩
theorem Tryz.lays105 : Go.Proofs.Lays.n105 Tryz.prog Tryz.lays105_ren := {
 mixed := by kernel_rfl
 f99 := Tryz.func159.trans (congrArg some (by kernel_rfl))
 f105 := Tryz.func113.trans (congrArg some (by kernel_rfl))
 f165 := Tryz.func145.trans (congrArg some (by kernel_rfl))
 f166 := Tryz.func128.trans (congrArg some (by kernel_rfl))
 f169 := Tryz.func129.trans (congrArg some (by kernel_rfl))
 f170 := Tryz.func160.trans (congrArg some (by kernel_rfl))
 f206 := Tryz.func199.trans (congrArg some (by kernel_rfl))
 f212 := Tryz.func158.trans (congrArg some (by kernel_rfl))
 f240 := Tryz.func171.trans (congrArg some (by kernel_rfl))
 f241 := Tryz.func182.trans (congrArg some (by kernel_rfl))
 f263 := Tryz.func197.trans (congrArg some (by kernel_rfl))
 f264 := Tryz.func198.trans (congrArg some (by kernel_rfl))
 f276 := Tryz.func204.trans (congrArg some (by kernel_rfl))
 f277 := Tryz.func212.trans (congrArg some (by kernel_rfl))
 t0 := Tryz.underlying0
 a0 := Tryz.isAgg0
 z0 := Tryz.sizeOf0
 v0 := Tryz.zeroValue0
 t3 := Tryz.underlying3
 a3 := Tryz.isAgg3
 z3 := Tryz.sizeOf3
 v3 := Tryz.zeroValue3
 t4 := Tryz.underlying4
 a4 := Tryz.isAgg4
 z4 := Tryz.sizeOf4
 v4 := Tryz.zeroValue4
 t5 := Tryz.underlying5
 a5 := Tryz.isAgg5
 z5 := Tryz.sizeOf5
 v5 := Tryz.zeroValue5
 t9 := Tryz.underlying9
 a9 := Tryz.isAgg9
 z9 := Tryz.sizeOf9
 v9 := Tryz.zeroValue9
 t20 := Tryz.underlying20
 a20 := Tryz.isAgg20
 z20 := Tryz.sizeOf20
 v20 := Tryz.zeroValue20
 t37 := Tryz.underlying85
 a37 := Tryz.isAgg85
 z37 := Tryz.sizeOf85
 v37 := Tryz.zeroValue85
 t46 := Tryz.underlying180
 a46 := Tryz.isAgg180
 z46 := Tryz.sizeOf180
 v46 := Tryz.zeroValue180
 t51 := Tryz.underlying41
 a51 := Tryz.isAgg41
 z51 := Tryz.sizeOf41
 v51 := Tryz.zeroValue41
 t53 := Tryz.underlying42
 a53 := Tryz.isAgg42
 z53 := Tryz.sizeOf42
 v53 := Tryz.zeroValue42
 t70 := Tryz.underlying202
 a70 := Tryz.isAgg202
 z70 := Tryz.sizeOf202
 v70 := Tryz.zeroValue202
 t72 := Tryz.underlying204
 a72 := Tryz.isAgg204
 z72 := Tryz.sizeOf204
 v72 := Tryz.zeroValue204
 t75 := Tryz.underlying209
 a75 := Tryz.isAgg209
 z75 := Tryz.sizeOf209
 v75 := Tryz.zeroValue209
 t76 := Tryz.underlying210
 a76 := Tryz.isAgg210
 z76 := Tryz.sizeOf210
 v76 := Tryz.zeroValue210
 t109 := Tryz.underlying248
 a109 := Tryz.isAgg248
 z109 := Tryz.sizeOf248
 v109 := Tryz.zeroValue248
 t127 := Tryz.underlying259
 a127 := Tryz.isAgg259
 z127 := Tryz.sizeOf259
 v127 := Tryz.zeroValue259
 t146 := Tryz.underlying282
 a146 := Tryz.isAgg282
 z146 := Tryz.sizeOf282
 v146 := Tryz.zeroValue282
 t148 := Tryz.underlying284
 a148 := Tryz.isAgg284
 z148 := Tryz.sizeOf284
 v148 := Tryz.zeroValue284
 t164 := Tryz.underlying290
 a164 := Tryz.isAgg290
 z164 := Tryz.sizeOf290
 v164 := Tryz.zeroValue290 }
theorem Tryz.Builder_Extra_105 : Builder.Extra Tryz.prog Tryz.lays105_ren := {
 sizeBuilder := by kernel_rfl
 liesBuilder := by kernel_rfl
 t5 := Tryz.underlying5
 a5 := Tryz.isAgg5
 z5 := Tryz.sizeOf5
 v5 := Tryz.zeroValue5
 infoByte := by kernel_rfl
 cellsByte := by kernel_rfl
 sizeByte := by kernel_rfl
 neB5 := by decide }
open Go.RowKit Go.Lib in
theorem Tryz.strings_Repeat (s : ByteArray) (c : Nat) (w : World) (hc : c <= 9223372036854775807) (hlen : s.size * c <= 140737488355328) :
  Calls Tryz.prog 113 #[.string s, .int .i64 c] w fun e w' => e = .returned (.string ⟨(Lib.repeatL s.data.toList c).toArray⟩) /\ Below w.heap.size w w' := Any.strings_Repeat Tryz.lays105 Tryz.Builder_Extra_105 s c w hc hlen
def Tryz.lays166_ren : Go.Shelf.Ren := ⟨fun | 166 => 128 | 240 => 171 | 276 => 204 | n => n, fun | 0 => 0 | 3 => 3 | 4 => 4 | 5 => 5 | 9 => 9 | 20 => 20 | 37 => 85 | 70 => 202 | 72 => 204 | 75 => 209 | 80 => 74 | 164 => 290 | n => n, fun | n => n⟩
theorem Tryz.lays166 : Go.Proofs.Lays.n166 Tryz.prog Tryz.lays166_ren := {
 mixed := by kernel_rfl
 f166 := Tryz.func128.trans (congrArg some (by kernel_rfl))
 f240 := Tryz.func171.trans (congrArg some (by kernel_rfl))
 f276 := Tryz.func204.trans (congrArg some (by kernel_rfl))
 t0 := by kernel_rfl
 a0 := fun w => by kernel_rfl
 z0 := fun w => by kernel_rfl
 v0 := fun w => by kernel_rfl
 t3 := by kernel_rfl
 a3 := fun w => by kernel_rfl
 z3 := fun w => by kernel_rfl
 v3 := fun w => by kernel_rfl
 t4 := by kernel_rfl
 a4 := fun w => by kernel_rfl
 z4 := fun w => by kernel_rfl
 v4 := fun w => by kernel_rfl
 t9 := by kernel_rfl
 a9 := fun w => by kernel_rfl
 z9 := fun w => by kernel_rfl
 v9 := fun w => by kernel_rfl
 t20 := by kernel_rfl
 a20 := fun w => by kernel_rfl
 z20 := fun w => by kernel_rfl
 v20 := fun w => by kernel_rfl
 t37 := by kernel_rfl
 a37 := fun w => by kernel_rfl
 z37 := fun w => by kernel_rfl
 v37 := fun w => by kernel_rfl
 t70 := by kernel_rfl
 a70 := fun w => by kernel_rfl
 z70 := fun w => by kernel_rfl
 v70 := fun w => by kernel_rfl
 t72 := by kernel_rfl
 a72 := fun w => by kernel_rfl
 z72 := fun w => by kernel_rfl
 v72 := fun w => by kernel_rfl
 t75 := by kernel_rfl
 a75 := fun w => by kernel_rfl
 z75 := fun w => by kernel_rfl
 v75 := fun w => by kernel_rfl
 t164 := by kernel_rfl
 a164 := fun w => by kernel_rfl
 z164 := fun w => by kernel_rfl
 v164 := fun w => by kernel_rfl }
theorem Tryz.Builder_X72_166 : Builder.X72 Tryz.prog Tryz.lays166_ren where
 sizeBuilder := by kernel_rfl
 liesBuilder := by kernel_rfl
theorem Tryz.Builder_Extra_166b : Builder.Extra Tryz.prog Tryz.lays166_ren where
 toX72 := Tryz.Builder_X72_166
 t5 := by kernel_rfl
 a5 := fun w => by kernel_rfl
 z5 := fun w => by kernel_rfl
 v5 := fun w => by kernel_rfl
 infoByte := by kernel_rfl
 cellsByte := by kernel_rfl
 sizeByte := by kernel_rfl
 neB5 := by decide
open Go.RowKit in
theorem Tryz.Builder_WriteString_k (B b : Nat) (bs : List Value) (s : ByteArray) (w : World) (h : Lib.IsBuilderF 204 5 B b bs w) (hlen : bs.length + s.size <= 140737488355328) (hBw : B <= w.heap.size) :
  Calls Tryz.prog 128 #[.pointer (some ⟨b, 0, none⟩), .string s] w fun e w' => e = .returned (.tuple #[.int .i64 s.size, .nilIface]) /\ (Lib.BuilderAtF 204 5 B b (.pointer (some ⟨b, 0, none⟩)) (bs ++ Lib.strCells s) w' /\ Below B w w' /\ Lib.OthersKept 5 (some b) w w') := Any.Builder_WriteString_k Tryz.lays166 Tryz.Builder_Extra_166b B b bs s w h hlen hBw
end Go.Proofs
/- Contracts of octet.Reader. -/
namespace V
open Go Go.Proofs Go.RowKit
theorem yF (w : World) (b o : Nat) (v : Value) : w.grownBy (w.setCell ⟨b, o, none⟩ v) (some b) := by
 refine ⟨rfl, rfl, rfl, by simp, fun k hk hne => Below.heap_setCell _ _ _ _ ?_⟩
 intro e
 exact hne (by rw [e])
def Rdr (w : World) (lo b : Nat) (bs : List UInt8) : Prop := ∃ (A : Option Addr) (n c : Nat) (t : TypeId), Blk w b [.slice A n c] t /\ Sl w A n (bV bs) /\ n <= c /\ (∀ a, A = some a -> lo <= a.block /\ a.block < b) /\ lo <= b
theorem Rdr.lt {w : World} {lo b : Nat} {bs : List UInt8} (h : Rdr w lo b bs) : b < w.heap.size := by
 obtain ⟨A, n, c, t, hb, _⟩ := h
 exact hb.lt
theorem Rdr.ext {w w' : World} {lo b : Nat} {bs : List UInt8} (h : Rdr w lo b bs) (he : Ext w w') : Rdr w' lo b bs := by
 obtain ⟨A, n, c, t, hb, hs, hc, ha, hlo⟩ := h
 exact ⟨A, n, c, t, hb.ext he, hs.ext he, hc, ha, hlo⟩
theorem Rdr.grown {w w' : World} {lo b : Nat} {bs : List UInt8} {row : Option Nat} (h : Rdr w lo b bs) (hg : w.grownBy w' row) (hr : ∀ j, row = some j -> j < lo \/ b < j) : Rdr w' lo b bs := by
 obtain ⟨A, n, c, t, hb, hs, hc, ha, hlo⟩ := h
 refine ⟨A, n, c, t, hb.grown hg ?_, hs.grown hg ?_, hc, ha, hlo⟩
 ·intro e
  have := hr b e.symm
  omega
 ·intro a e e2
  have := hr a.block e2.symm
  have := ha a e
  omega
def rd (bs : List UInt8) (k : Nat) : Nat × Int × List UInt8 := if bs.length < k then (0, 7, bs) else (lev (bs.take k), 0, bs.drop k)
theorem ziV {w : World} {A : Option Addr} {n c : Nat} {bs : List UInt8} (h : Sl w A n (bV bs)) (hn : n <= 140737488355328) :
  Calls Tryz.prog 175 #[.slice A n c] w (Ret fun v w' => ∃ b, v = .pointer (some ⟨b, 0, none⟩) /\ w.heap.size <= b /\ Rdr w' w.heap.size b bs /\ Ext w w') := by
 apply zlH
 unfold S175
 refine zb (zcP h hn) ?_
 rintro _ w1 ⟨⟨A1, n1, c1⟩, rfl, ho1, he1⟩
 refine ⟨(A1, n1, c1), rfl, ?_⟩
 refine zr fun r2 w2 hb2 he2 hr2 _ => ?_
 have hsz := he1.size
 refine ⟨r2, rfl, by omega, ⟨A1, n1, c1, _, hb2, (ho1.ext he2).sl, ho1.le.1, fun a ha => ?_, by omega⟩, he1.trans he2⟩
 have hge := ho1.row a.block (by rw [xp]; dsimp only; subst ha; rfl)
 have hlt := (zkT ho1 (k := a.block) (by rw [xp]; dsimp only; subst ha; rfl)).2
 omega
theorem zcQ {w : World} {lo b k : Nat} {bs : List UInt8} (h : Rdr w lo b bs) (hk : k <= 1000000) :
  Calls Tryz.prog 210 #[.pointer (some ⟨b, 0, none⟩), .int .i64 (k : Int)] w (Ret fun v w' => ∃ A n c, v = .tuple #[.slice A n c, .int .i64 (rd bs k).2.1] /\ Sl w' A n (bV (if bs.length < k then [] else bs.take k)) /\ Rdr w' lo b (rd bs k).2.2 /\ w.grownBy w' (some b)) := by
 obtain ⟨A, n, c, t, hb, hs, hc, ha, hlo⟩ := h
 have hl := hs.blen
 apply zlX
 unfold S210 rd
 refine zs (zE (A, n, c) hb (by rfl) ?_)
 refine zg (fun hq => ?_) (fun hq => ?_)
 ·have hq : (n : Int) < (k : Int) := of_decide_eq_true hq
  rw [if_pos (by omega), if_pos (by omega)]
  exact ⟨none, 0, 0, rfl, Sl.nil w none, ⟨A, n, c, t, hb, hs, hc, ha, hlo⟩, xy _ _⟩
 have hq : ¬ (n : Int) < (k : Int) := of_decide_eq_false hq
 rw [if_neg (by omega), if_neg (by omega)]
 refine zs (zE (A, n, c) hb (by rfl) (zJ ⟨by omega, by omega, by dsimp only; omega⟩ ?_))
 refine zs (zE (A, n, c) hb (by rfl) (zJ ⟨by omega, by dsimp only; omega⟩ ?_))
 dsimp only
 rw [Int.toNat_natCast]
 refine zs (zO hb (by simp) ?_)
 have hg := yF w b 0 (.slice (zm A k c 1) (n - k) (c - k))
 have hb' := hb.set 0 (.slice (zm A k c 1) (n - k) (c - k))
 have keep : ∀ {A' : Option Addr} {n' : Nat} {bs' : List UInt8}, Sl w A' n' (bV bs') -> (∀ a, A' = some a -> lo <= a.block /\ a.block < b) -> Sl (w.setCell ⟨b, 0, none⟩ (.slice (zm A k c 1) (n - k) (c - k))) A' n' (bV bs') := fun hs ha => hs.grown hg (fun a e e2 => by injection e2 with e2; have := ha a e; omega)
 have cut : ∀ (l m : Nat) (a : Addr), zm A l m 1 = some a -> lo <= a.block /\ a.block < b := by
  intro l m a e
  unfold zm at e
  cases A with
  | none => revert e; split <;> simp
  | some a0 =>
   have := ha a0 rfl
   revert e
   split
   ·intro e; first | (injection e with e; subst e; exact this) | cases e
   ·intro e
    simp only [Option.map_some, Option.some.injEq] at e
    subst e
    unfold Addr.add
    split <;> exact this
 refine ⟨zm A 0 k 1, k, k, rfl, ?_, ⟨zm A k c 1, n - k, c - k, t, hb', ?_, by omega, cut k c, hlo⟩, hg⟩
 ·refine keep ?_ (cut 0 k)
  have := hs.zey (k := k) (m := k) (by omega) (by omega)
  rw [qU] at this
  exact this
 ·refine keep ?_ (cut k c)
  have := hs.cut (l := k) (k := n - k) (m := c) (by omega) (by omega)
  rw [vj, qU, List.take_of_length_le (by rw [List.length_drop]; omega)] at this
  exact this
theorem zbW {w : World} {lo b k : Nat} {bs : List UInt8} (h : Rdr w lo b bs) (hk1 : 1 <= k) (hk : k <= 8) :
  Calls Tryz.prog 176 #[.pointer (some ⟨b, 0, none⟩), .int .i64 (k : Int)] w (Ret fun v w' => v = .tuple #[.int .u64 ((rd bs k).1 : Int), .int .i64 (rd bs k).2.1] /\ Rdr w' lo b (rd bs k).2.2 /\ w.grownBy w' (some b)) := by
 apply zlI
 unfold S176
 refine zc (by rfl) (zc (decide_eq_false (by omega)) (zc (decide_eq_false (by omega)) ?_))
 refine zb (zcQ h (by omega)) ?_
 rintro _ w1 ⟨A, n, c, rfl, hs, hr, hg⟩
 refine ⟨((A, n, c), (rd bs k).2.1, ()), rfl, ?_⟩
 have hl := hs.blen
 have hn : n <= 8 := by
  split at hl
  ·simp only [List.length_nil] at hl; omega
  ·rw [List.length_take] at hl; omega
 refine zb (qJ hs hn) ?_
 rintro _ w2 ⟨rfl, he2⟩
 refine ⟨_, rfl, ⟨?_, hr.ext he2, xa hg (xL he2 none) (fun j hj => by cases hj)⟩⟩
 dsimp only
 unfold rd
 split <;> rfl
end V
/- Contracts of the package device. -/
namespace V
open Go Go.Proofs Go.RowKit Crc
def Step (w : World) (b : Nat) (F : Nat -> Prop) (d' : Dev) (w' : World) : Prop := ∃ F' : Nat -> Prop, xb w' b d' F' /\ (∀ k, F' k -> F k \/ w.heap.size <= k) /\ Only F w w'
theorem zcR {w : World} {b : Nat} {d : Dev} {F : Nat -> Prop} (h : xb w b d F) (k : Int) :
  Calls Tryz.prog 162 #[.pointer (some ⟨b, 0, none⟩), .int .i64 k] w (Ret fun v w' => v = .bool (d.there k) /\ w' = w) := by
 obtain ⟨Ad, Ap, nd, cd, np, cp, t, hb, hd, hp, hF, h1, h2, h3⟩ := h.mem
 apply zlv
 unfold S162 Dev.there
 refine zg (fun hz => ?_) (fun hz => ?_)
 ·have hz := of_decide_eq_true hz
  refine zs (zn 1 d.blocks hb (by rfl) ⟨?_, rfl⟩)
  congr 1
  exact decide_eq_decide.2 (by omega)
 ·have hz := of_decide_eq_false hz
  refine ⟨?_, rfl⟩
  congr 1
  exact (decide_eq_false (by omega)).symm
theorem xb.put {w : World} {b o : Nat} {d d' : Dev} {F : Nat -> Prop} {v : Value} (h : xb w b d F) (ho : ∀ Ad nd cd Ap np cp, ([.int .i64 d.size, .int .i64 d.blocks, .slice Ad nd cd, .slice Ap np cp, .int .i64 d.ops, .int .i64 d.fuse] : List Value).set o v = [.int .i64 d'.size, .int .i64 d'.blocks, .slice Ad nd cd, .slice Ap np cp, .int .i64 d'.ops, .int .i64 d'.fuse])
  (hd' : d'.dur = d.dur) (hp' : d'.pen = d.pen) (hok : d'.Ok) : xb (w.setCell ⟨b, o, none⟩ v) b d' F := by
 obtain ⟨Ad, Ap, nd, cd, np, cp, t, hb, hd, hp, hF, h1, h2, h3⟩ := h.mem
 have hg := yF w b o v
 refine ⟨⟨Ad, Ap, nd, cd, np, cp, t, ?_, ?_, ?_, hF, h1, h2, h3⟩, hok⟩
 ·rw [<- ho Ad nd cd Ap np cp]; exact hb.set o v
 ·rw [hd']; exact hd.grown hg (fun j hj e => by injection hj with hj; subst hj; exact h1 e)
 ·rw [hp']; exact hp.grown hg (fun j hj e => by injection hj with hj; subst hj; exact h2 e)
theorem Dev.Ok.burnt {d : Dev} (h : d.Ok) : d.burnt.Ok := by
 refine ⟨h.geo, h.len, h.each, h.pend, ?_⟩
 have := h.fuse
 show -1 <= max (-1) (d.fuse - 1) /\ max (-1) (d.fuse - 1) < 9223372036854775808
 omega
theorem zd6 {w : World} {b : Nat} {d : Dev} {F : Nat -> Prop} (h : xb w b d F) :
  Calls Tryz.prog 163 #[.pointer (some ⟨b, 0, none⟩)] w (Ret fun v w' => (d.fuse = 0 /\ v = .bool false /\ w' = w) \/ (d.fuse ≠ 0 /\ v = .bool true /\ xb w' b d.burnt F /\ w.grownBy w' (some b))) := by
 obtain ⟨Ad, Ap, nd, cd, np, cp, t, hb, hd, hp, hF, h1, h2, h3⟩ := h.mem
 have hf := h.ok.fuse
 apply zlw
 unfold S163
 refine zs (zn 5 d.fuse hb (by rfl) (zg (fun hz => .inl ⟨beq_iff_eq.1 hz, rfl, rfl⟩) (fun hz => ?_)))
 have hz := beq_eq_false_iff_ne.1 hz
 have ef : (if IntKind.wrap .i64 (d.fuse - 1) > -1 then IntKind.wrap .i64 (d.fuse - 1) else -1) = max (-1) (d.fuse - 1) := by
  rw [wrap_i64 (by omega) (by omega)]
  split <;> omega
 refine zs (zn 5 d.fuse hb (by rfl) ?_)
 rw [ef]
 refine zs ?_
 rw [zz]
 refine zO hb (by show 0 + 5 < 6; omega) ?_
 have hg1 := yF w b (0 + 5) (.int .i64 (max (-1) (d.fuse - 1)))
 have hD := h.put (d' := { d with fuse := max (-1) (d.fuse - 1) }) (o := 0 + 5) (v := .int .i64 (max (-1) (d.fuse - 1))) (fun _ _ _ _ _ _ => rfl) rfl rfl ⟨h.ok.geo, h.ok.len, h.ok.each, h.ok.pend, by dsimp only; omega⟩
 have hb1 := hb.set (0 + 5) (.int .i64 (max (-1) (d.fuse - 1)))
 generalize w.setCell ⟨b, 0 + 5, none⟩ (.int .i64 (max (-1) (d.fuse - 1))) = w1 at hg1 hD hb1 ⊢
 refine zs (zn 4 d.ops hb1 (by rfl) (zs ?_))
 rw [zz]
 refine zO hb1 (by show 0 + 4 < 6; omega) ?_
 have hg2 := yF w1 b (0 + 4) (.int .i64 (IntKind.wrap .i64 (d.ops + 1)))
 have hD2 := hD.put (d' := d.burnt) (o := 0 + 4) (v := .int .i64 (IntKind.wrap .i64 (d.ops + 1))) (fun _ _ _ _ _ _ => rfl) rfl rfl h.ok.burnt
 exact .inr ⟨hz, rfl, hD2, xa hg1 hg2 (fun j hj => .inl hj)⟩
theorem ziW : jN Tryz.prog 159 230 (.agg #[.int .i64 0, .string ByteArray.empty]) 2 24 := ⟨by kernel_rfl, by kernel_rfl, by kernel_rfl⟩
theorem zad {w : World} {b : Nat} {d : Dev} {F : Nat -> Prop} (h : xb w b d F) (k : Int) (s : ByteArray) (hn : d.pen.length <= 1000000) :
  Calls Tryz.prog 118 #[.pointer (some ⟨b, 0, none⟩), .int .i64 k, .string s] w (Ret fun v w' => v = .int .i64 (d.write k s).2 /\ Step w b F (d.write k s).1 w') := by
 have stay : ∀ {w' : World}, w' = w -> Step w b F d w' := fun e => by subst e; exact ⟨F, h, fun k hk => .inl hk, Only.refl F _⟩
 apply zk7
 unfold S118 Dev.write
 refine zc (by rfl) ?_
 refine zb (zcR h k) ?_
 rintro _ w1 ⟨rfl, hw⟩
 refine ⟨_, rfl, ?_⟩
 subst hw
 obtain ⟨Ad, Ap, nd, cd, np, cp, t, hb, hd, hp, hF, h1, h2, h3⟩ := h.mem
 refine zg (fun hz => ?_) (fun hz => ?_)
 ·have hz : ¬ (0 <= k /\ k < d.blocks) := of_decide_eq_false (show d.there k = false by simpa using hz)
  rw [if_pos (.inl hz)]
  exact ⟨rfl, stay rfl⟩
 have hth : 0 <= k /\ k < d.blocks := of_decide_eq_true (show d.there k = true by simpa using hz)
 refine zs (zE d.size hb (by rfl) (zg (fun hz => ?_) (fun hz => ?_)))
 ·rw [if_pos (.inr (bne_iff_ne.1 hz))]
  exact ⟨rfl, stay rfl⟩
 have hsz := bne_eq_false_iff_eq.1 hz
 rw [if_neg (by rintro (x | x); exact x hth; exact x hsz)]
 refine zb (zd6 h) ?_
 rintro _ w2 (⟨hz, rfl, hw⟩ | ⟨hz, rfl, hD, hg⟩)
 ·refine ⟨_, rfl, zf (by rfl) ?_⟩
  rw [if_pos hz]
  exact ⟨rfl, stay hw⟩
 refine ⟨_, rfl, zc (by rfl) ?_⟩
 rw [if_neg hz]
 obtain ⟨Ad, Ap, nd, cd, np, cp, t, hb, hd, hp, hF, h1, h2, h3⟩ := hD.mem
 have hlp := hp.len
 have hlp2 : d.burnt.pen = d.pen := rfl
 refine zs (zn 3 (Ap, np, cp) hb (by rfl) ?_)
 refine yZ (E := kP) (ys := [(k, s)]) (by rfl) rfl ziW hp (Nat.zero_le _) (by dsimp only; rw [hlp2] at hlp; omega) (by omega) ?_
 intro A' c' w3 hp3 hg3
 have hb3 := hb.grown hg3.grown (fun e => h2 e.symm)
 have hd3 := hd.grown hg3.grown (fun j hj e => h3 j e hj)
 refine zs ?_
 rw [zz]
 refine zO hb3 (by show 0 + 3 < 6; omega) ?_
 have hg4 := yF w3 b (0 + 3) (.slice A' (np + 1) c')
 have hb4 := hb3.set (0 + 3) (.slice A' (np + 1) c')
 have hb5 := (hF b).2 (.inl rfl)
 have hnew : ∀ j, orow A' = some j -> orow Ap = some j \/ w2.heap.size <= j := hg3.2
 have hbl := hb.lt
 have n1 : orow A' ≠ some b := fun e => by rcases hnew b e with x | x; exact h2 x; omega
 have n2 : ∀ j, orow Ad = some j -> orow A' ≠ some j := fun j hj e => by
  rcases hnew j e with x | x
  ·exact h3 j hj x
  ·have := hd.yc j hj; omega
 refine ⟨rfl, fun j => j = b \/ orow Ad = some j \/ orow A' = some j, ⟨⟨Ad, A', nd, cd, np + 1, c', t, hb4, hd3.grown hg4 (fun j hj e => by injection hj with hj; subst hj; exact h1 e), hp3.grown hg4 (fun j hj e => by injection hj with hj; subst hj; exact n1 e), fun _ => Iff.rfl, h1, n1, n2⟩, ?_⟩, ?_, ?_⟩
 ·refine ⟨hD.ok.geo, hD.ok.len, hD.ok.each, fun p hp => ?_, hD.ok.fuse⟩
  rcases List.mem_append.1 hp with hp | hp
  ·exact hD.ok.pend p hp
  ·rw [List.mem_singleton.1 hp]; exact ⟨hth.1, hth.2, hsz⟩
 ·rintro j (rfl | hj | hj)
  ·exact .inl hb5
  ·exact .inl ((hF j).2 (.inr (.inl hj)))
  ·rcases hnew j hj with x | x
   ·exact .inl ((hF j).2 (.inr (.inr x)))
   ·exact .inr (Nat.le_trans hg.size x)
 ·refine Only.trans (Only.trans (Only.z7 hg (fun j hj => by injection hj with hj; subst hj; exact .inl hb5)) (Only.z7 (F := F) hg3.grown (fun j hj => .inl ((hF j).2 (.inr (.inr hj))))) (fun j hj => .inl hj)) (Only.z7 (F := F) hg4 (fun j hj => by injection hj with hj; subst hj; exact .inl hb5)) (fun j hj => .inl hj)
theorem qf (l : List ByteArray) : xz.flat l = l.map Value.string := by
 induction l with
 | nil => rfl
 | cons a r ih => rw [List.map_cons, <- ih]; rfl
theorem zmh {w : World} {e : TypeId} {B : Nat} {A : Option Addr} {n c : Nat} {xs : List ByteArray} {i : Int} {s : ByteArray} {K : WP} (h : Owni xz e w B A n c xs) (h0 : 0 <= i) (h1 : i < (n : Int))
  (hK : ∀ w', Owni xz e w' B A n c (xs.set i.toNat s) -> w.grownBy w' (orow A) -> K w') :
  (zd (0 <= i /\ i < ((n : Nat) : Int)) <| zh A fun p => stW (p.add (Int.toNat i * 1)) (.string s) K) w := by
 refine zh4 (e := e) (B := B) (c := c) (vs := xz.flat xs) h h0 h1 fun w' ho hg => hK w' ?_ (by rw [xp] at hg; exact hg)
 have e1 : (xz.flat xs).set i.toNat (.string s) = xz.flat (xs.set i.toNat s) := by rw [qf, qf, List.map_set]
 rw [e1] at ho
 exact ho
theorem uC (l : List (Int × ByteArray)) : ∀ dur : List ByteArray, (l.foldl Go.Proofs.YtplgodmmmppmeaaGreat.V.put dur).length = dur.length := by
 induction l with
 | nil => intro dur; rfl
 | cons p r ih => intro dur; rw [List.foldl_cons, ih]; simp [Go.Proofs.YtplgodmmmppmeaaGreat.V.put]
theorem zbX {n : Int} (l : List (Int × ByteArray)) : ∀ dur : List ByteArray, (∀ s ∈ dur, (s.size : Int) = n) -> (∀ p ∈ l, (p.2.size : Int) = n) -> ∀ s ∈ l.foldl Go.Proofs.YtplgodmmmppmeaaGreat.V.put dur, (s.size : Int) = n := by
 induction l with
 | nil => intro dur h _; exact h
 | cons p r ih =>
  intro dur h hl
  rw [List.foldl_cons]
  refine ih _ (fun s hs => ?_) (fun q hq => hl q (List.mem_cons_of_mem _ hq))
  rcases List.mem_or_eq_of_mem_set hs with hs | rfl
  ·exact h s hs
  ·exact hl p List.mem_cons_self
theorem zcS {w : World} {b : Nat} {d : Dev} {F : Nat -> Prop} (h : xb w b d F) :
  Calls Tryz.prog 142 #[.pointer (some ⟨b, 0, none⟩)] w (Ret fun v w' => v = .int .i64 d.flush.2 /\ Step w b F d.flush.1 w') := by
 have stay : ∀ {w' : World}, w' = w -> Step w b F d w' := fun e => by subst e; exact ⟨F, h, fun k hk => .inl hk, Only.refl F _⟩
 apply zln
 unfold S142 Dev.flush
 refine zc (by rfl) ?_
 refine zb (zd6 h) ?_
 rintro _ w2 (⟨hz, rfl, hw⟩ | ⟨hz, rfl, hD, hg⟩)
 ·refine ⟨_, rfl, zf (by rfl) ?_⟩
  rw [if_pos hz]
  exact ⟨rfl, stay hw⟩
 refine ⟨_, rfl, zc (by rfl) ?_⟩
 rw [if_neg hz]
 obtain ⟨Ad, Ap, nd, cd, np, cp, t, hb, hd, hp, hF, h1, h2, h3⟩ := hD.mem
 have hlp : d.pen.length = np := hp.len
 have hld : d.dur.length = nd := hd.len
 have hpl := hp.sl.le
 have hok := h.ok
 refine zs (zn 3 (Ap, np, cp) hb (by rfl) ?_)
 refine zx (fun y w' => ∃ i : Nat, i <= np /\ y = ((i : Int), ()) /\ Only F w2 w' /\ Blk w' b [.int .i64 d.size, .int .i64 d.blocks, .slice Ad nd cd, .slice Ap np cp, .int .i64 d.burnt.ops, .int .i64 d.burnt.fuse] t
   /\ Owni xz 9 w' 0 Ad nd cd ((d.pen.take i).foldl Go.Proofs.YtplgodmmmppmeaaGreat.V.put d.dur) /\ Owni kP 230 w' 0 Ap np cp d.pen) (fun y => (np - y.1).toNat) ⟨0, by omega, rfl, Only.refl F w2, hb, hd, hp⟩ ?_
 rintro _ w3 ⟨i, hi, rfl, hO, hb, hd, hp⟩
 dsimp only
 by_cases hlt : i < np
 ·refine zf (decide_eq_true (by omega)) ?_
  refine vS (ls := [.int .i64, .str]) (fun x : Int × ByteArray => (x.1, x.2, ())) (0, ByteArray.empty) hp.sl (fun _ => rfl) rfl (by omega) (by omega) ?_
  rw [Int.toNat_natCast]
  have e : d.pen[i]? = some (d.pen.getD i (0, ByteArray.empty)) := by rw [List.getD_eq_getElem?_getD, List.getElem?_eq_getElem (by omega)]; rfl
  have hq := hok.pend _ (List.mem_of_getElem? e)
  generalize d.pen.getD i (0, ByteArray.empty) = q at e hq ⊢
  have hlen := hok.len
  refine yE (vs := kP.f q) (by rfl) (kP.one q) ?_ (by rfl)
  intro r8 w4 hb8 he4 hr8
  refine zK fun w5 he5 _ _ => ?_
  have he35 := he4.trans he5
  have hb8 := hb8.ext he5
  have hb5 := hb.ext he35
  have hd5 := hd.ext he35
  refine zs (zn 2 (Ad, nd, cd) hb5 (by rfl) (zE q.1 hb8 (by rfl) (zn 1 q.2 hb8 (by rfl) ?_)))
  dsimp only
  refine zmh hd5 hq.1 (by have := hq.2.1; omega) ?_
  intro w6 hd6 hg6
  have hb6 := hb5.grown hg6 (fun e => h1 e.symm)
  have hp6 := (hp.ext he35).grown hg6 (fun j hj e => h3 j hj e)
  have efold : (d.pen.take (i + 1)).foldl Go.Proofs.YtplgodmmmppmeaaGreat.V.put d.dur = Go.Proofs.YtplgodmmmppmeaaGreat.V.put ((d.pen.take i).foldl Go.Proofs.YtplgodmmmppmeaaGreat.V.put d.dur) q := by
   rw [List.take_add_one, e, List.foldl_append]
   rfl
  refine ⟨⟨i + 1, by omega, by rw [wrap_i64 (by omega) (by omega)]; rfl, ?_, hb6, by rw [efold]; exact hd6, hp6⟩, by rw [wrap_i64 (by omega) (by omega)]; omega⟩
  exact Only.trans (Only.trans hO (Only.zG (F := F) he35) (fun j hj => .inl hj)) (Only.z7 (F := F) hg6 (fun j hj => .inl ((hF j).2 (.inr (.inl hj))))) (fun j hj => .inl hj)
 ·obtain rfl : i = np := by omega
  refine zc (decide_eq_false (by omega)) (zs ?_)
  rw [zz]
  refine zO hb (by show 0 + 3 < 6; omega) ?_
  have hg7 := yF w3 b (0 + 3) (.slice none 0 0)
  have hb7 := hb.set (0 + 3) (.slice none 0 0)
  rw [List.take_of_length_le (by omega)] at hd
  have hbF := (hF b).2 (.inl rfl)
  refine ⟨rfl, fun j => j = b \/ orow Ad = some j \/ orow none = some j, ⟨⟨Ad, none, nd, cd, 0, 0, t, hb7, hd.grown hg7 (fun j hj e => by injection hj with hj; subst hj; exact h1 e), Owni.nil _ _ _, fun _ => Iff.rfl, h1, (fun e => by cases e), (fun j hj e => by cases e)⟩, ?_⟩, ?_, ?_⟩
  ·exact ⟨hok.geo, by show (((d.pen.foldl Go.Proofs.YtplgodmmmppmeaaGreat.V.put d.dur).length : Nat) : Int) = d.blocks; rw [uC]; exact hok.len, zbX _ _ hok.each (fun p hp => (hok.pend p hp).2.2), (fun p hp => by cases hp), hD.ok.fuse⟩
  ·rintro j (rfl | hj | hj)
   ·exact .inl hbF
   ·exact .inl ((hF j).2 (.inr (.inl hj)))
   ·cases hj
  ·exact Only.trans (Only.trans (Only.z7 (F := F) hg (fun j hj => by injection hj with hj; subst hj; exact .inl hbF)) hO (fun j hj => .inl hj)) (Only.z7 (F := F) hg7 (fun j hj => by injection hj with hj; subst hj; exact .inl hbF)) (fun j hj => .inl hj)
end V
/- Ranges over functions that may be left early; iterators with a state of their own; what loops over functions leave as it was. -/
namespace V
open Go
def zmQ (P : Program) (v : Value) (L : List (List Value)) (R : Nat -> WP) (T : Nat -> World -> World) : Prop :=
 ∃ f cap, v = .func (.func f) #[] cap /\ enterable P f = true /\ ∀ (l : Nat) (J : Nat -> WP) (E : WP) (w : World), J 0 w -> (∀ i w', J i w' -> R i w') -> (∀ i w', J i w' -> J i w'.drew) ->
  (∀ i w' (h : i < L.length), J i w' -> jk P l L[i] w' fun v w'' => (v = .bool true /\ R i w'' /\ J (i + 1) (T i w'')) \/ (v = .bool false /\ E w'')) ->
  Calls P f (.func (.yield l) #[] #[] :: cap.toList).toArray w (Ret fun _ w' => J L.length w' \/ E w')
theorem zmi {P : Program} {v : Value} {T : Type} {vals : T -> List Value} {Body : T -> (WP -> WP) -> WP -> (Code -> WP) -> WP} {done : Nat -> Option Code -> WP} {w : World} {L : List (List Value)} {R : Nat -> WP} {Tr : Nat -> World -> World} (I : Nat -> WP) (D : Code -> WP) (tv : Nat -> T) (htv : ∀ i (hi : i < L.length), vals (tv i) = L[i])
  (hit : zmQ P v L R Tr) (hR : ∀ i w', I i w' -> R i w') (hdr : ∀ i w', I i w' -> I i w'.drew)
  (hst : ∀ i w' w'', yO w.heap.size (w.heap.size + 1) w' w'' -> I i w' -> I i w'')
  (hRst : ∀ i w' w'', yO w.heap.size (w.heap.size + 1) w' w'' -> R i w' -> R i w'')
  (hDst : ∀ c w' w'', yO w.heap.size (w.heap.size + 1) w' w'' -> D c w' -> D c w'')
  (hT : ∀ i w' w'', yO w.heap.size (w.heap.size + 1) w' w'' -> yO w.heap.size (w.heap.size + 1) (Tr i w') (Tr i w''))
  (hTk : ∀ i w' (k : Nat), w.heap.size <= k -> (Tr i w').heap[k]? = w'.heap[k]?)
  (h0 : ∀ o, I 0 ((w.alloc (.deferred (some []))).alloc o))
  (hbody : ∀ (i : Nat) (hi : i < L.length) (w' : World) (G : WP -> WP) (N : WP) (jump : Code -> WP), I i w' -> w.heap.size + 2 <= w'.heap.size ->
   (∀ (K : WP) w1, I i w1 -> w'.heap.size <= w1.heap.size -> (∀ k, k = w.heap.size \/ k = w.heap.size + 1 -> w1.heap[k]? = w'.heap[k]?) -> (∀ w2, I i w2 -> w1.heap.size = w2.heap.size -> (∀ k : Nat, k ≠ w.heap.size -> k ≠ w.heap.size + 1 -> w2.heap[k]? = w1.heap[k]?) ->
    (∀ w'', R i w'' /\ I (i + 1) (Tr i w'') -> w2.heap.size <= w''.heap.size -> (∀ k, k = w.heap.size \/ k = w.heap.size + 1 -> w''.heap[k]? = w2.heap[k]?) -> N w'') ->
    (∀ c w'', D c w'' -> w2.heap.size <= w''.heap.size -> (∀ k, k = w.heap.size \/ k = w.heap.size + 1 -> w''.heap[k]? = w2.heap[k]?) -> jump c w'') -> K w2) -> G K w1) ->
   Body (tv i) G N jump w')
  (hdone : ∀ w', I L.length w' -> w.heap.size + 2 <= w'.heap.size -> w'.heap[w.heap.size]? = some (.deferred (some [])) -> done w.heap.size none w')
  (hjump : ∀ c w', D c w' -> w.heap.size + 2 <= w'.heap.size -> w'.heap[w.heap.size]? = some (.deferred (some [])) -> done w.heap.size (some c) w') :
  ji P v T vals Body done w := by
 obtain ⟨f, cap, rfl, hen, hcalls⟩ := hit
 refine ⟨f, cap, rfl, hen, fun rec hrec hY => ?_⟩
 have hlt : ∀ {w' : World} {o : Obj}, w'.heap[w.heap.size + 1]? = some o -> w.heap.size + 1 < w'.heap.size := fun h => (Array.getElem?_eq_some_iff.1 h).1
 refine Calls.mono (hcalls (w.heap.size + 1) (fun i w' => I i w' /\ w'.heap[w.heap.size + 1]? = some (rec .ready none) /\ w'.heap[w.heap.size]? = some (.deferred (some [])))
  (fun w' => ∃ c, D c w' /\ w'.heap[w.heap.size + 1]? = some (rec .done (some c)) /\ w'.heap[w.heap.size]? = some (.deferred (some []))) _ ⟨h0 _, ?_, ?_⟩ (fun i w' h => hR i w' h.1) (fun i w' h => ⟨hdr i w' h.1, h.2.1, h.2.2⟩) ?_) ?_
 ·show ((w.heap.push _).push _)[w.heap.size + 1]? = _
  rw [Array.getElem?_push]
  simp
 ·show ((w.heap.push _).push _)[w.heap.size]? = _
  rw [Array.getElem?_push, Array.getElem?_push]
  simp
 ·rintro i w' hi ⟨hI, hl, hd⟩
  let Q : Bool -> WP := fun b w'' => (b = true /\ R i w'' /\ I (i + 1) (Tr i w'') /\ w''.heap[w.heap.size + 1]? = some (rec .ready none) /\ w''.heap[w.heap.size]? = some (.deferred (some [])))
   \/ (b = false /\ ∃ c, D c w'' /\ w''.heap[w.heap.size + 1]? = some (rec .done (some c)) /\ w''.heap[w.heap.size]? = some (.deferred (some [])))
  have hb := hbody i hi w' (fun K w1 => w1.heap[w.heap.size + 1]? = some (rec .ready none) /\ K (yr w1 (w.heap.size + 1) (rec .busy none)))
   (fun w2 => w2.heap[w.heap.size + 1]? = some (rec .busy none) /\ Q true (yr w2 (w.heap.size + 1) (rec .ready none)))
   (fun c w2 => w2.heap[w.heap.size + 1]? = some (rec .busy none) /\ Q false (yr w2 (w.heap.size + 1) (rec .done (some c)))) hI (by have := hlt hl; omega)
   (fun K w1 hI1 hs1 hk1 hG => by
    have hl1 := hk1 (w.heap.size + 1) (.inr rfl)
    rw [hl] at hl1
    have hd1 := hk1 w.heap.size (.inl rfl)
    rw [hd] at hd1
    refine ⟨hl1, hG _ (hst i w1 _ (zX (o := rec .busy none) (.inr rfl)) hI1) (by rw [xq]) (fun k h1 h2 => zL (fun e => h2 e.symm)) ?_ ?_⟩
    ·intro w'' hI3 hs hk
     have h1 := hk (w.heap.size + 1) (.inr rfl)
     rw [xF (hlt hl1)] at h1
     have h2 := hk w.heap.size (.inl rfl)
     rw [zL (by omega), hd1] at h2
     refine ⟨h1, .inl ⟨rfl, hRst _ _ _ (zX (.inr rfl)) hI3.1, hst _ _ _ (hT i _ _ (zX (.inr rfl))) hI3.2, xF (hlt h1), ?_⟩⟩
     rw [zL (by omega)]; exact h2
    ·intro c w'' hD hs hk
     have h1 := hk (w.heap.size + 1) (.inr rfl)
     rw [xF (hlt hl1)] at h1
     have h2 := hk w.heap.size (.inl rfl)
     rw [zL (by omega), hd1] at h2
     refine ⟨h1, .inr ⟨rfl, c, hDst _ _ _ (zX (.inr rfl)) hD, xF (hlt h1), ?_⟩⟩
     rw [zL (by omega)]; exact h2)
  have := hY (tv i) w' Q hl hb
  rw [htv i hi] at this
  obtain ⟨fn, tmps, asg, bd, h1, h2⟩ := this
  refine ⟨fn, tmps, asg, bd, h1, RoundIn.mono h2 ?_⟩
  rintro (v | c | _) w2 he
  ·obtain ⟨b, rfl, ⟨rfl, hh1, hh2, hh3, hh4⟩ | ⟨rfl, hh⟩⟩ := he
   ·exact .inl ⟨rfl, hh1, hh2, by rw [hTk i _ _ (by omega)]; exact hh3, by rw [hTk i _ _ (by omega)]; exact hh4⟩
   ·exact .inr ⟨rfl, hh⟩
  ·exact he
  ·exact he
 ·rintro (v | c | _) w3 he
  ·rcases he with ⟨hI, hl, hd⟩ | ⟨c, hD, hl, hd⟩
   ·refine ⟨.ready, none, by simp, hl, hdone _ (hst _ _ _ (zX (.inr rfl)) hI) (by rw [xq]; have := hlt hl; omega) ?_⟩
    rw [zL (by omega)]
    exact hd
   ·refine ⟨.done, some c, by simp, hl, hjump c _ (hDst _ _ _ (zX (.inr rfl)) hD) (by rw [xq]; have := hlt hl; omega) ?_⟩
    rw [zL (by omega)]
    exact hd
  ·exact he
  ·exact he
def zmR (P : Program) (v : Value) (L : List (List Value)) (R : WP) : Prop := zmQ P v L (fun _ => R) (fun _ w => w)
theorem yO.ext {a : Nat} {w0 w w' : World} (h : yO a (a + 1) w w') (he : Ext w0 w) (ha : w0.heap.size <= a) : Ext w0 w' := by
 obtain ⟨h1, h2, h3, h4, h5⟩ := h
 exact ⟨h1.trans he.os, h2.trans he.tape, h3.trans he.output, by have := he.size; omega, fun k hk => (h5 k (by omega) (by omega)).trans (he.block k hk)⟩
theorem yO.blk {a r : Nat} {w w' : World} {cs : List Value} {t : TypeId} (h : yO a (a + 1) w w') (hb : Blk w r cs t) (hr : r < a) : Blk w' r cs t :=
 (h.2.2.2.2 r (by omega) (by omega)).trans hb
theorem yO.size {a b : Nat} {w w' : World} (h : yO a b w w') : w'.heap.size = w.heap.size := h.2.2.2.1
theorem Blk.at_ {w w' : World} {r : Nat} {cs : List Value} {t : TypeId} (hb : Blk w r cs t) (h : w'.heap[r]? = w.heap[r]?) : Blk w' r cs t := h.trans hb
end V
/- Contracts of the package device: Read, Image, Pending, Geo. -/
namespace V
open Go Go.Proofs Go.RowKit Crc
theorem xb.ext {w w' : World} {b : Nat} {d : Dev} {F : Nat -> Prop} (h : xb w b d F) (k : Ext w w') : xb w' b d F :=
 h.apart (G := fun _ => False) (Only.zG k) (fun _ _ h => h)
abbrev w00 : Int × ByteArray := (0, ByteArray.empty)
def zgo (r1 : Nat) (A : Option Addr) (n c : Nat) (ps : List (Int × ByteArray)) : WP := fun w => Blk w r1 [.slice A n c] 159 /\ Sli kP w A n ps
def zbY (ps : List (Int × ByteArray)) : List (List Value) := (List.range ps.length).map fun i => [.int .i64 ((ps.length - 1 - i : Nat) : Int), .agg #[.int .i64 (ps.getD (ps.length - 1 - i) w00).1, .string (ps.getD (ps.length - 1 - i) w00).2]]
theorem vx (ps : List (Int × ByteArray)) : (zbY ps).length = ps.length := by simp [zbY]
theorem zgp {w : World} {A : Option Addr} {n c : Nat} {ps : List (Int × ByteArray)} (h : Sli kP w A n ps) :
  Calls Tryz.prog 208 #[.slice A n c] w (Ret fun v w' => zmR Tryz.prog v (zbY ps) (zgo w.heap.size A n c ps) /\ zgo w.heap.size A n c ps w' /\ w'.heap.size = w.heap.size + 1 /\ Ext w w') := by
 apply zlV
 unfold S208
 apply yz
 have he := (Ext.refl w).alloc (.cells #[.slice A n c] 159)
 refine ⟨⟨_, _, rfl, by kernel_rfl, fun l J E w' hJ hR hd hY => ?_⟩, ⟨Blk.new w #[.slice A n c] 159, h.ext he⟩, by simp, he⟩
 apply zl2
 unfold S219
 rw [vx]
 obtain ⟨h1, h2⟩ := hR 0 w' hJ
 have hl := h2.len
 have hle := h2.le
 refine zo (x := (A, n, c)) h1 (by rfl) ?_
 dsimp only
 rw [wrap_i64 (by omega) (by omega)]
 refine zx (fun y w' => ∃ i : Nat, i <= n /\ y = ((n : Int) - 1 - i, ()) /\ J i w') (fun y => (y.1 + 1).toNat) ⟨0, by omega, by simp, hJ⟩ ?_
 rintro _ w1 ⟨i, hi, rfl, hJ⟩
 dsimp only
 by_cases hlt : i < n
 ·refine zf (decide_eq_true (by omega)) ?_
  obtain ⟨h1, h2⟩ := hR i w1 hJ
  refine zo (x := (A, n, c)) h1 (by rfl) ?_
  dsimp only
  refine vS (ls := [.int .i64, .str]) (fun x : Int × ByteArray => (x.1, x.2, ())) w00 h2 (fun _ => rfl) rfl (by omega) (by omega) ?_
  have hlt' : i < (zbY ps).length := by rw [vx]; omega
  refine .inr ⟨l, rfl, ?_⟩
  have hy := hY i w1 hlt' hJ
  have el : (zbY ps)[i] = [.int .i64 ((n : Int) - 1 - i), .agg #[.int .i64 (ps.getD (Int.toNat ((n : Int) - 1 - i)) w00).1, .string (ps.getD (Int.toNat ((n : Int) - 1 - i)) w00).2]] := by
   have e1 : ((ps.length - 1 - i : Nat) : Int) = (n : Int) - 1 - i := by omega
   have e2 : Int.toNat ((n : Int) - 1 - i) = ps.length - 1 - i := by omega
   rw [e2, <- e1]
   simp [zbY]
  rw [el] at hy
  obtain ⟨fn, tmps, asg, bd, hy1, hy2⟩ := hy
  refine ⟨fn, tmps, asg, bd, hy1, RoundIn.mono hy2 ?_⟩
  rintro (v | x | _) w2 hv
  ·rcases hv with ⟨rfl, _, hJ2⟩ | ⟨rfl, hE⟩
   ·refine ⟨true, rfl, zc (by rfl) ?_⟩
    rw [wrap_i64 (by omega) (by omega)]
    exact ⟨⟨i + 1, by omega, by congr 1; omega, hJ2⟩, by omega⟩
   ·exact ⟨false, rfl, zf (by rfl) (.inr hE)⟩
  ·exact hv
  ·exact hv
 ·refine zc (decide_eq_false (by omega)) ?_
  obtain rfl : i = n := by omega
  rw [hl]
  exact .inl hJ
theorem zgq {w : World} {b : Nat} {d : Dev} {F : Nat -> Prop} (h : xb w b d F) :
  Calls Tryz.prog 173 #[.pointer (some ⟨b, 0, none⟩)] w (Ret fun v w' => ∃ A n c, zmR Tryz.prog v (zbY d.pen) (zgo w.heap.size A n c d.pen) /\ zgo w.heap.size A n c d.pen w' /\ w'.heap.size = w.heap.size + 1 /\ Ext w w') := by
 obtain ⟨Ad, Ap, nd, cd, np, cp, t, hb, hd, hp, hF, h1, h2, h3⟩ := h.mem
 apply zlF
 unfold S173
 refine zs (zn 3 (Ap, np, cp) hb (by rfl) ?_)
 refine zb (zgp hp.sl) ?_
 rintro v w1 hw
 exact ⟨v, rfl, Ap, np, cp, hw⟩
theorem getD_set (l : List ByteArray) (i k : Nat) (x e : ByteArray) : (l.set i x).getD k e = if i = k /\ k < l.length then x else l.getD k e := by
 rw [List.getD_eq_getElem?_getD, List.getD_eq_getElem?_getD, List.getElem?_set]
 by_cases hik : i = k
 ·subst hik
  by_cases hk : i < l.length
  ·simp [hk]
  ·simp [hk]
 ·rw [if_neg hik, if_neg (fun h => hik h.1)]
theorem zbZ {k : Int} (hk : 0 <= k) {e : ByteArray} : ∀ (l : List (Int × ByteArray)) (dur : List ByteArray), (∀ p ∈ l, 0 <= p.1) -> (∀ p ∈ l, p.1 ≠ k) -> (l.foldl Go.Proofs.YtplgodmmmppmeaaGreat.V.put dur).getD k.toNat e = dur.getD k.toNat e
 | [], _, _, _ => rfl
 | p :: r, dur, h0, h => by
  rw [List.foldl_cons, zbZ hk r _ (fun q hq => h0 q (List.mem_cons_of_mem _ hq)) (fun q hq => h q (List.mem_cons_of_mem _ hq))]
  have h1 := h0 p List.mem_cons_self
  have h2 := h p List.mem_cons_self
  unfold Go.Proofs.YtplgodmmmppmeaaGreat.V.put
  rw [getD_set, if_neg (by omega)]
theorem zj3 {k : Int} (hk : 0 <= k) {e : ByteArray} {l : List (Int × ByteArray)} {dur : List ByteArray} {j : Nat} (h0 : ∀ p ∈ l, 0 <= p.1) (hj : j < l.length) (hkl : k.toNat < dur.length) (he : (l.getD j w00).1 = k) (hno : ∀ i, j < i -> i < l.length -> (l.getD i w00).1 ≠ k) :
  (l.foldl Go.Proofs.YtplgodmmmppmeaaGreat.V.put dur).getD k.toNat e = (l.getD j w00).2 := by
 have e1 : l = l.take j ++ l.getD j w00 :: l.drop (j + 1) := by
  rw [List.getD_eq_getElem?_getD, List.getElem?_eq_getElem hj, Option.getD_some, <- List.drop_eq_getElem_cons hj, List.take_append_drop]
 generalize hq : l.getD j w00 = q at e1 he ⊢
 have hd : ∀ p ∈ l.drop (j + 1), p.1 ≠ k := by
  intro p hp
  obtain ⟨i, hi, rfl⟩ := List.mem_iff_getElem.1 hp
  rw [List.length_drop] at hi
  have := hno (j + 1 + i) (by omega) (by omega)
  rw [List.getD_eq_getElem?_getD, List.getElem?_eq_getElem (by omega), Option.getD_some] at this
  simpa using this
 rw [e1, List.foldl_append, List.foldl_cons, zbZ hk _ _ (fun p hp => h0 p (List.mem_of_mem_drop hp)) hd]
 unfold Go.Proofs.YtplgodmmmppmeaaGreat.V.put
 have hl := uC (l.take j) dur
 unfold Go.Proofs.YtplgodmmmppmeaaGreat.V.put at hl
 rw [getD_set, he, if_pos ⟨rfl, by rw [hl]; exact hkl⟩]
theorem ziX {w : World} {b : Nat} {d : Dev} {F : Nat -> Prop} (h : xb w b d F) (k : Int) :
  Calls Tryz.prog 137 #[.pointer (some ⟨b, 0, none⟩), .int .i64 k] w (Ret fun v w' => v = .tuple #[.string (d.read k).1, .int .i64 (d.read k).2] /\ Ext w w') := by
 apply zlj
 unfold S137 Dev.read
 refine zr fun r1 w1 hb1 he1 hr1 hz1 => ?_
 refine zr fun r2 w2 hb2 he2 hr2 hz2 => ?_
 refine zr fun r3 w3 hb3 he3 hr3 hz3 => ?_
 have hb1 := (hb1.ext he2).ext he3
 have hb2 := hb2.ext he3
 have he := (he1.trans he2).trans he3
 refine zc (by rfl) ?_
 refine zo (x := k) hb1 (by rfl) ?_
 have hD := h.ext he
 refine zb (zcR hD k) ?_
 rintro _ w4 ⟨rfl, hw⟩
 refine ⟨_, rfl, ?_⟩
 obtain rfl : w3 = w4 := hw.symm
 refine zg (fun hz => ?_) (fun hz => ?_)
 ·have hz : ¬ (0 <= k /\ k < d.blocks) := of_decide_eq_false (show d.there k = false by simpa using hz)
  rw [if_pos hz]
  refine zO hb2 (by show 0 < 1; omega) ?_
  have hb3' := hb3.other (p := ⟨r2, 0, none⟩) (by show r2 ≠ r3; omega) (.string (ByteArray.mk #[]))
  refine zO hb3' (by show 0 < 1; omega) ?_
  have hb2' := (hb2.set 0 (.string (ByteArray.mk #[]))).other (p := ⟨r3, 0, none⟩) (by show r3 ≠ r2; omega) (.int .i64 2)
  have hb3'' := hb3'.set 0 (.int .i64 2)
  refine zo (x := ByteArray.mk #[]) hb2' (by rfl) (zo (x := (2 : Int)) hb3'' (by rfl) ?_)
  exact ⟨rfl, (he.set (by show w.heap.size <= r2; omega) _).set (by show w.heap.size <= r3; omega) _⟩
 have hth : 0 <= k /\ k < d.blocks := of_decide_eq_true (show d.there k = true by simpa using hz)
 rw [if_neg (fun x => x hth)]
 have hok := h.ok
 have hlen := hok.len
 have h0 : ∀ p ∈ d.pen, 0 <= p.1 := fun p hp => (hok.pend p hp).1
 refine zb (zgq hD) ?_
 rintro v w4 ⟨A, n, c, hit, hRL, hs4, he4⟩
 refine ⟨v, rfl, ?_⟩
 have hr4 := hRL.1.lt
 let G : World -> Prop := fun w' => Ext w w' /\ Blk w' r1 [.int .i64 k] 3 /\ zgo w3.heap.size A n c d.pen w' /\ w4.heap.size <= w'.heap.size
 have hG4 : G w4 := ⟨he.trans he4, hb1.ext he4, hRL, Nat.le_refl _⟩
 have hGext : ∀ {w' w'' : World}, G w' -> Ext w' w'' -> G w'' := fun hg hx => ⟨hg.1.trans hx, hg.2.1.ext hx, ⟨hg.2.2.1.1.ext hx, hg.2.2.1.2.ext hx⟩, Nat.le_trans hg.2.2.2 hx.size⟩
 have hsame : ∀ {w' w'' : World}, yO w4.heap.size (w4.heap.size + 1) w' w'' -> G w' -> G w'' := fun hs hg => by
  have hx := hs.ext hg.1 (by have := he4.size; omega)
  obtain ⟨g1, g2, g3, g4⟩ := hg
  refine ⟨hx, hs.blk g2 (by omega), ⟨hs.blk g3.1 (by omega), ?_⟩, by rw [hs.size]; exact g4⟩
  obtain ⟨s1, s2, s3⟩ := g3.2
  obtain ⟨t1, t2, t3⟩ := hRL.2
  refine ⟨s1, s2, fun hn => ?_⟩
  obtain ⟨a, e1, e2, e3⟩ := t3 hn
  refine ⟨a, e1, e2, fun j v hj => ?_⟩
  have hc := e3 j v hj
  have hab : (a.add j).block = a.block := by unfold Addr.add; split <;> rfl
  have hlt := World.block_lt_of_cell? w4 _ hc
  obtain ⟨a', e1', e2', e3'⟩ := s3 hn
  obtain rfl : a' = a := by rw [e1] at e1'; exact (Option.some.inj e1').symm
  have hc' := e3' j v hj
  unfold World.cell? at hc' ⊢
  rw [hs.2.2.2.2 _ (by omega) (by omega)]
  exact hc'
 have hp0 : ∀ j, j < d.pen.length -> d.pen[j]? = some (d.pen.getD j w00) := fun j hj => by rw [List.getD_eq_getElem?_getD, List.getElem?_eq_getElem hj]; rfl
 refine zmi (fun i w' => G w' /\ Blk w' r2 [.string ByteArray.empty] 9 /\ Blk w' r3 [.int .i64 0] 28 /\ ∀ j, d.pen.length - i <= j -> j < d.pen.length -> (d.pen.getD j w00).1 ≠ k)
  (fun c w' => c = .ret /\ Ext w w' /\ ∃ s, Blk w' r2 [.string s] 9 /\ Blk w' r3 [.int .i64 0] 28 /\ s = (d.pen.foldl Go.Proofs.YtplgodmmmppmeaaGreat.V.put d.dur).getD k.toNat ByteArray.empty)
  (fun i => (((d.pen.length - 1 - i : Nat) : Int), ((d.pen.getD (d.pen.length - 1 - i) w00).1, (d.pen.getD (d.pen.length - 1 - i) w00).2, ()), ())) ?_ hit ?_ ?_ ?_ ?_ ?_ ?_ ?_ ?_ ?_ ?_ ?_
 ·intro i hi
  simp [zbY]
 ·intro i w' hI
  exact hI.1.2.2.1
 ·intro i w' hI
  exact ⟨hGext hI.1 ((Ext.refl _).drew), hI.2.1, hI.2.2.1, hI.2.2.2⟩
 ·intro i w' w'' hs hI
  exact ⟨hsame hs hI.1, hs.blk hI.2.1 (by omega), hs.blk hI.2.2.1 (by omega), hI.2.2.2⟩
 ·intro i w' w'' hs hR
  refine ⟨hs.blk hR.1 (by omega), ?_⟩
  obtain ⟨s1, s2, s3⟩ := hR.2
  obtain ⟨t1, t2, t3⟩ := hRL.2
  refine ⟨s1, s2, fun hn => ?_⟩
  obtain ⟨a, e1, e2, e3⟩ := t3 hn
  refine ⟨a, e1, e2, fun j v hj => ?_⟩
  have hc := e3 j v hj
  have hlt := World.block_lt_of_cell? w4 _ hc
  obtain ⟨a', e1', e2', e3'⟩ := s3 hn
  obtain rfl : a' = a := by rw [e1] at e1'; exact (Option.some.inj e1').symm
  have hc' := e3' j v hj
  unfold World.cell? at hc' ⊢
  rw [hs.2.2.2.2 _ (by omega) (by omega)]
  exact hc'
 ·rintro c w' w'' hs ⟨rfl, hx, s, g1, g2, g3⟩
  exact ⟨rfl, hs.ext hx (by have := he4.size; have := he.size; omega), s, hs.blk g1 (by omega), hs.blk g2 (by omega), g3⟩
 ·intro i w' w'' hs
  exact hs
 ·intro i w' k hk
  rfl
 ·intro o
  have hx : Ext w4 ((w4.alloc (.deferred (some []))).alloc o) := ((Ext.refl w4).alloc _).alloc _
  exact ⟨hGext hG4 hx, (hb2.ext he4).ext hx, (hb3.ext he4).ext hx, fun j hj hj2 => by omega⟩
 ·intro i hi w' G' N jump hI hsz hG'
  rw [vx] at hi
  obtain ⟨hI1, hI2, hI3, hI4⟩ := hI
  dsimp only
  refine yE (vs := kP.f (d.pen.getD (d.pen.length - 1 - i) w00)) (by rfl) (kP.one _) ?_ (by rfl)
  intro r17 w5 hb17 he5 hr17
  have hk5 : ∀ k : Nat, k = w4.heap.size \/ k = w4.heap.size + 1 -> w5.heap[k]? = w'.heap[k]? := fun k hk => he5.block k (by omega)
  refine hG' _ w5 ⟨hGext hI1 he5, hI2.ext he5, hI3.ext he5, hI4⟩ he5.size hk5 ?_
  intro w6 hI6 hsz6 hk6 hN hJ
  obtain ⟨hI1, hI2, hI3, hI4⟩ := hI6
  have hb17 := hb17.at_ (hk6 r17 (by omega) (by omega))
  have hb17lt := hb17.lt
  refine zo (x := (d.pen.getD (d.pen.length - 1 - i) w00).1) hb17 (by rfl) ?_
  refine zo (x := k) hI1.2.1 (by rfl) ?_
  refine zg (fun hz => ?_) (fun hz => ?_)
  ·have hz := beq_iff_eq.1 hz
   refine zn 1 (d.pen.getD (d.pen.length - 1 - i) w00).2 hb17 (by rfl) ?_
   refine zO hI2 (by show 0 < 1; omega) ?_
   have hb3' := hI3.other (p := ⟨r2, 0, none⟩) (by show r2 ≠ r3; omega) (.string (d.pen.getD (d.pen.length - 1 - i) w00).2)
   refine zO hb3' (by show 0 < 1; omega) ?_
   have hb2' := (hI2.set 0 (.string (d.pen.getD (d.pen.length - 1 - i) w00).2)).other (p := ⟨r3, 0, none⟩) (by show r3 ≠ r2; omega) (.int .i64 0)
   have hb3'' := hb3'.set 0 (.int .i64 0)
   refine hJ .ret _ ⟨rfl, (hI1.1.set (by show w.heap.size <= r2; omega) _).set (by show w.heap.size <= r3; omega) _, _, hb2', hb3'', ?_⟩ (by simp) (fun k hk => ?_)
   ·refine (zj3 hth.1 h0 (by omega) (by omega) hz (fun j hj hj2 => hI4 j (by omega) hj2)).symm
   ·rw [Below.heap_setCell _ _ _ _ (by show k ≠ r3; omega), Below.heap_setCell _ _ _ _ (by show k ≠ r2; omega)]
  ·have hz := beq_eq_false_iff_ne.1 hz
   refine hN w6 ⟨hI1.2.2.1, hI1, hI2, hI3, fun j hj hj2 => ?_⟩ (Nat.le_refl _) (fun _ _ => rfl)
   by_cases hjj : j = d.pen.length - 1 - i
   ·rw [hjj]; exact hz
   ·exact hI4 j (by omega) hj2
 ·rintro w' ⟨hI1, hI2, hI3, hI4⟩ hsz hdf
  rw [vx] at hI4
  rw [jd]
  refine zK fun w5 he5 hs5 hk5 => ?_
  have hx : Ext w w5 := hI1.1.trans he5
  obtain ⟨Ad, Ap, nd, cd, np, cp, t, hb, hd, hp, hF, g1, g2, g3⟩ := (h.ext hx).mem
  have hdl := hd.len
  refine zs (zn 2 (Ad, nd, cd) hb (by rfl) (zo (x := k) (hI1.2.1.ext he5) (by rfl) ?_))
  dsimp only
  refine zh7 hd.sl hth.1 (by omega) ?_
  have hI2 := hI2.ext he5
  have hI3 := hI3.ext he5
  refine zO hI2 (by show 0 < 1; omega) ?_
  have hb3' := hI3.other (p := ⟨r2, 0, none⟩) (by show r2 ≠ r3; omega) (.string (d.dur.getD k.toNat ByteArray.empty))
  refine zO hb3' (by show 0 < 1; omega) ?_
  have hb2' := (hI2.set 0 (.string (d.dur.getD k.toNat ByteArray.empty))).other (p := ⟨r3, 0, none⟩) (by show r3 ≠ r2; omega) (.int .i64 0)
  have hb3'' := hb3'.set 0 (.int .i64 0)
  have hx2 := (hx.set (p := ⟨r2, 0, none⟩) (by show w.heap.size <= r2; omega) (.string (d.dur.getD k.toNat ByteArray.empty))).set (p := ⟨r3, 0, none⟩) (by show w.heap.size <= r3; omega) (.int .i64 0)
  refine jn ?_ ?_
  ·rw [Below.heap_setCell _ _ _ _ (by show w4.heap.size ≠ r3; omega), Below.heap_setCell _ _ _ _ (by show w4.heap.size ≠ r2; omega), hk5]
   exact hdf
  have hsb := zX (a := w4.heap.size) (b := w4.heap.size + 1) (w := (w5.setCell ⟨r2, 0, none⟩ (.string (d.dur.getD k.toNat ByteArray.empty))).setCell ⟨r3, 0, none⟩ (.int .i64 0)) (o := .deferred none) (.inl rfl)
  refine zo (x := d.dur.getD k.toNat ByteArray.empty) (hsb.blk hb2' (by omega)) (by rfl) (zo (x := (0 : Int)) (hsb.blk hb3'' (by omega)) (by rfl) ?_)
  refine ⟨?_, hsb.ext hx2 (by have := he4.size; have := he.size; omega)⟩
  rw [zbZ hth.1 _ _ h0 (fun p hp => ?_)]
  obtain ⟨j, hj, rfl⟩ := List.mem_iff_getElem.1 hp
  have := hI4 j (by omega) hj
  rw [List.getD_eq_getElem?_getD, List.getElem?_eq_getElem hj] at this
  exact this
 ·rintro c' w' ⟨rfl, hx, s, hb2', hb3', rfl⟩ hsz hdf
  rw [jd]
  refine jn hdf ?_
  have hsb := zX (a := w4.heap.size) (b := w4.heap.size + 1) (w := w') (o := .deferred none) (.inl rfl)
  refine zo (x := (d.pen.foldl Go.Proofs.YtplgodmmmppmeaaGreat.V.put d.dur).getD k.toNat ByteArray.empty) (hsb.blk hb2' (by omega)) (by rfl) (zo (x := (0 : Int)) (hsb.blk hb3' (by omega)) (by rfl) ?_)
  exact ⟨rfl, hsb.ext hx (by have := he4.size; have := he.size; omega)⟩
end V
/- Contracts of the package device: Image, Pending, Geo, New, Load, Rot. -/
namespace V
open Go Go.Proofs Go.RowKit Crc
theorem zb0 : Elem Tryz.prog 158 9 (.string ByteArray.empty) 16 := ⟨by kernel_rfl, by kernel_rfl, by kernel_rfl⟩
theorem vD {w : World} {b : Nat} {d : Dev} {F : Nat -> Prop} (h : xb w b d F) :
  Calls Tryz.prog 35 #[.pointer (some ⟨b, 0, none⟩)] w (Ret fun v w' => v = .agg #[.int .i64 d.size, .int .i64 d.blocks] /\ Ext w w') := by
 apply zns
 unfold S35
 refine zr fun r1 w1 hb1 he1 hr1 hz1 => ?_
 obtain ⟨Ad, Ap, nd, cd, np, cp, t, hb, hd, hp, hF, h1, h2, h3⟩ := (h.ext he1).mem
 refine zc (by rfl) (zs ?_)
 refine qv (ls := [.int .i64, .int .i64]) (x := (d.size, d.blocks, ())) ⟨by rw [zz, hb.cell]; rfl, by rw [zz, hb.cell]; rfl, trivial⟩ ?_
 refine refill (vs := [.int .i64 d.size, .int .i64 d.blocks]) hb1 (by rfl) (by intro v hv; simp at hv; rcases hv with rfl | rfl <;> rfl) (by rfl) ?_
 intro w2 hb2 hx2 hk2 hs2
 refine zW (ls := [.int .i64, .int .i64]) (d.size, d.blocks, ()) hb2 rfl ?_
 exact ⟨rfl, hx2 w he1 (by omega)⟩
theorem zj4 (w : World) (x y : Nat) (hx : x < 18446744073709551616) (hy : y < 18446744073709551616) : Calls Tryz.prog 158 #[.int .u64 x, .int .u64 y] w (Ret fun v w' => v = .tuple #[.int .u64 ((x * y / 18446744073709551616 : Nat) : Int), .int .u64 ((x * y % 18446744073709551616 : Nat) : Int)] /\ w' = w) :=
 (Tryz.bits_Mul x y hx hy w).mono (by rintro e w' ⟨rfl, h⟩; exact ⟨rfl, h⟩)
theorem zmj {s z : ByteArray} {n c : Nat} (hn : n <= c) {m : Nat} (hm : m = min n (c - n)) :
  (xz.flat (List.replicate n s ++ List.replicate (c - n) z)).take n ++ ((xz.flat (List.replicate n s)).take m) ++ (xz.flat (List.replicate n s ++ List.replicate (c - n) z)).drop (n + m) = xz.flat (List.replicate (n + m) s ++ List.replicate (c - (n + m)) z) := by
 simp only [qf, List.map_append, List.map_replicate]
 rw [List.take_left' (by simp), List.drop_append, List.take_replicate, List.drop_replicate, List.drop_replicate, show min m n = m by omega, show n - (n + m) = 0 by omega, List.replicate_zero, List.nil_append, List.length_replicate,
  List.replicate_append_replicate, show c - n - (n + m - n) = c - (n + m) by omega]
theorem zj5 {w : World} {A : Option Addr} {c k : Nat} {s : ByteArray} (h : Sli xz w A 1 [s]) (h1 : 1 <= k) (hk : k <= 1000000) :
  Calls Tryz.prog 112 #[.slice A 1 c, .int .i64 (k : Int)] w (Ret fun v w' => ∃ A', v = .slice A' k k /\ Owni xz 9 w' w.heap.size A' k k (List.replicate k s) /\ Ext w w') := by
 apply zk3
 unfold S112
 refine zh3 fun J hJ => zc (decide_eq_false (by omega)) (hJ () _ ?_)
 rw [zy (by omega), zy (by omega)]
 refine zb (zj4 w 1 k (by omega) (by omega)) ?_
 rintro _ w1 ⟨rfl, hw⟩
 subst hw
 rw [Nat.one_mul, Nat.div_eq_of_lt (by omega), Nat.mod_eq_of_lt (by omega)]
 refine ⟨((0 : Nat), (k : Nat), ()), rfl, ?_⟩
 dsimp only
 refine zh3 fun J hJ => zc (by rfl) (zc (decide_eq_false (by omega)) (hJ () _ ?_))
 rw [wrap_i64 (by omega) (by omega)]
 refine zaR (z := .string ByteArray.empty) zb0 (by rfl) (Nat.le_refl _) (by omega) (by omega) ?_
 intro w2 ho2 hg2
 have he2 : Ext w1 w2 := (Ext.refl w1).none hg2
 have hb2 := zdj ho2
 have e0 : List.replicate k (Value.string ByteArray.empty) = xz.flat (List.replicate 0 s ++ List.replicate (k - 0) ByteArray.empty) := by rw [qf]; simp
 dsimp only
 have hA : A ≠ none := by
  obtain ⟨a, h2, _⟩ := h.2.2 (by omega)
  rw [h2]; simp
 have hsl : Sl w2 A 1 [.string s] := by
  obtain ⟨p1, p2, p3⟩ := h.ext he2
  exact ⟨rfl, by omega, fun hn => by obtain ⟨a, q1, _, q2⟩ := p3 hn; exact ⟨a, q1, q2⟩⟩
 refine zid (o := 0) (n := k) zb0 hb2 hsl (by intro y hy; simp at hy; subst hy; rfl) (by simp; omega) hA ?_
 intro w3 hb3 hg3
 have he3 : Ext w1 w3 := he2.grown hg3 (fun j hj => by injection hj with hj; omega)
 rw [show min 1 k = 1 by omega] at hb3 ⊢
 have hb3 : Blk w3 w1.heap.size (xz.flat (List.replicate 1 s ++ List.replicate (k - 1) ByteArray.empty)) 9 := by
  have e : List.take 0 (List.replicate k (Value.string ByteArray.empty)) ++ List.take 1 [Value.string s] ++ List.drop (0 + 1) (List.replicate k (Value.string ByteArray.empty)) = xz.flat (List.replicate 1 s ++ List.replicate (k - 1) ByteArray.empty) := by
   rw [qf]; simp
  rw [<- e]; exact hb3
 refine zx (fun y w' => ∃ i : Nat, 1 <= i /\ i <= k /\ y = ((i : Int), ()) /\ Blk w' w1.heap.size (xz.flat (List.replicate i s ++ List.replicate (k - i) ByteArray.empty)) 9 /\ Ext w1 w') (fun y => (k - y.1).toNat) ⟨1, by omega, h1, rfl, hb3, he3⟩ ?_
 rintro _ w4 ⟨i, hi1, hi, rfl, hb4, he4⟩
 dsimp only
 by_cases hlt : i < k
 ·refine zf (decide_eq_true (by omega)) ?_
  refine zK fun w5 he5 _ _ => ?_
  have hb5 := hb4.ext he5
  refine zJ (by omega) (zJ (by omega) ?_)
  rw [Int.toNat_natCast]
  have hcut : zm (some (⟨w1.heap.size, 0, none⟩ : Addr)) i k 1 = some ⟨w1.heap.size, i, none⟩ := by
   unfold zm
   rw [if_neg (by omega)]
   simp [zz]
  have hcut0 : zm (some (⟨w1.heap.size, 0, none⟩ : Addr)) 0 k 1 = some ⟨w1.heap.size, 0, none⟩ := by
   unfold zm
   rw [if_neg (by omega)]
   simp [zz]
  rw [hcut, hcut0]
  have hsl5 : Sl w5 (some ⟨w1.heap.size, 0, none⟩) i (xz.flat (List.replicate i s)) := by
   refine ⟨by rw [qf]; simp, by omega, fun _ => ⟨_, rfl, fun j v hj => ?_⟩⟩
   rw [zz, hb5.cell, Nat.zero_add, qf, List.map_append, List.getElem?_append_left (by rw [qf] at hj; exact (List.getElem?_eq_some_iff.1 hj).1), <- qf]
   exact hj
  refine zid (n := k - i) zb0 hb5 hsl5 (xz.zdg _) (by rw [qf]; simp; omega) (by simp) ?_
  intro w6 hb6 hg6
  rw [zmj (by omega) rfl] at hb6
  refine ⟨⟨i + min i (k - i), by omega, by omega, by rw [wrap_i64 (by omega) (by omega)]; simp, hb6, (he4.trans he5).grown hg6 (fun j hj => by injection hj with hj; omega)⟩, by rw [wrap_i64 (by omega) (by omega)]; omega⟩
 ·obtain rfl : i = k := by omega
  refine zc (decide_eq_false (by omega)) ?_
  refine ⟨_, rfl, j4 ?_ (by simp) (by omega) (Nat.le_refl _), he4⟩
  simpa using hb4
end V
/- Contracts of the package device: New, Load, Rot. -/
namespace V
open Go Go.Proofs Go.RowKit Crc
def yw (n : Nat) : ByteArray := mkB (List.replicate n 0)
theorem za3 (n : Nat) : (yw n).size = n := by rw [yw, xm]; simp
def zdl (size blocks : Int) : Dev := ⟨size, blocks, List.replicate blocks.toNat (yw size.toNat), [], 0, -1⟩
theorem za4 {size blocks : Int} (h : zT size blocks = true) : 128 <= size /\ size <= 4096 /\ size % 64 = 0 /\ 8 <= blocks /\ blocks <= 4096 := by
 unfold zT at h
 obtain ⟨h1, h2, h3, h4, h5⟩ := of_decide_eq_true h
 rw [Int.tmod_eq_emod_of_nonneg (by omega)] at h3
 omega
theorem zig {size blocks : Int} (h : zT size blocks = true) : (zdl size blocks).Ok := by
 have := za4 h
 refine ⟨h, ?_, ?_, (fun p hp => by cases hp), (by show (-1 : Int) <= -1; omega), (by show (-1 : Int) < 9223372036854775808; omega)⟩
 ·show ((List.replicate blocks.toNat (yw size.toNat)).length : Int) = blocks
  rw [List.length_replicate]; omega
 ·intro s hs
  rw [(List.mem_replicate.1 hs).2, za3]
  show ((size.toNat : Nat) : Int) = size
  omega
def zgr (w : World) (d : Dev) (b : Nat) (w' : World) : Prop := ∃ F : Nat -> Prop, xb w' b d F /\ (∀ k, F k -> w.heap.size <= k) /\ Ext w w'
theorem zj6 {w : World} {b nd cd : Nat} {Ad : Option Addr} {t : TypeId} {d : Dev} (hb : Blk w b [.int .i64 d.size, .int .i64 d.blocks, .slice Ad nd cd, .slice none 0 0, .int .i64 d.ops, .int .i64 d.fuse] t)
  (hd : Owni xz 9 w 0 Ad nd cd d.dur) (hp : d.pen = []) (hne : orow Ad ≠ some b) (hok : d.Ok) : xb w b d (fun k => k = b \/ orow Ad = some k \/ orow none = some k) := by
 refine ⟨⟨Ad, none, nd, cd, 0, 0, t, hb, hd, ?_, fun k => Iff.rfl, hne, (fun e => by cases e), (fun j hj e => by cases e)⟩, hok⟩
 rw [hp]
 exact Owni.nil _ _ _
theorem zoe (n : Nat) : Lib.repeatL [0] n = List.replicate n (0 : UInt8) := by
 induction n with
 | zero => rfl
 | succ n ih => rw [Lib.repeatL, ih, List.replicate_succ]; rfl
theorem ziY (w : World) (size blocks : Int) :
  Calls Tryz.prog 68 #[.agg #[.int .i64 size, .int .i64 blocks]] w (Ret fun v w' => (zT size blocks = true /\ ∃ b, v = .tuple #[.pointer (some ⟨b, 0, none⟩), .int .i64 0] /\ zgr w (zdl size blocks) b w') \/ (zT size blocks = false /\ v = .tuple #[.pointer none, .int .i64 2] /\ Ext w w')) := by
 apply znM
 unfold S68
 refine zr fun r1 w1 hb1 he1 hr1 hz1 => ?_
 have hb1 : Blk w1 r1 [.int .i64 size, .int .i64 blocks] 72 := hb1
 refine zW (ls := [.int .i64, .int .i64]) (size, blocks, ()) hb1 rfl ?_
 refine zb (qg w1 size blocks) ?_
 rintro _ w2 ⟨rfl, he2⟩
 refine ⟨_, rfl, ?_⟩
 have hb2 := hb1.ext he2
 cases hok : zT size blocks with
 | false => exact zf (by rfl) (.inr ⟨rfl, rfl, he1.trans he2⟩)
 | true =>
  have hg := za4 hok
  refine zc (by rfl) ?_
  refine zK fun w3 he3 _ _ => ?_
  have hb3 := hb2.ext he3
  refine zW (ls := [.int .i64, .int .i64]) (size, blocks, ()) hb3 rfl ?_
  refine zE size hb3 (by rfl) (zn 1 blocks hb3 (by rfl) ?_)
  have hr := Tryz.strings_Repeat (ByteArray.mk #[0]) size.toNat w3 (by omega) (by show 1 * size.toNat <= _; omega)
  rw [Int.toNat_of_nonneg (by omega), show (ByteArray.mk #[0]).data.toList = [0] from rfl, zoe] at hr
  refine zb (R := fun v w' => v = .string (yw size.toNat) /\ Ext w3 w') (hr.mono (by rintro e w' ⟨rfl, h⟩; exact ⟨rfl, h⟩)) ?_
  rintro _ w4 ⟨rfl, he4⟩
  refine ⟨_, rfl, ?_⟩
  have hb4 := hb3.ext he4
  refine jo (yK hb4 (by rfl)) (zcu hb4) ?_
  refine zr fun r8 w5 hb8 he5 hr8 hz8 => ?_
  have hb5 := hb4.ext he5
  refine jo (yK hb5 (by rfl)) (zcu hb5) ?_
  have hs8 : Sli xz w5 (some ⟨r8, 0, none⟩) 1 [yw size.toNat] := Sli.xJ (E := xz) (xs := [yw size.toNat]) hb8 rfl (by omega)
  have hrep := zj5 (c := 1) (k := blocks.toNat) hs8 (by omega) (by omega)
  rw [Int.toNat_of_nonneg (by omega)] at hrep
  refine zb hrep ?_
  rintro _ w6 ⟨A, rfl, ho, he6⟩
  refine ⟨(A, _, _), rfl, ?_⟩
  have hb6 := hb5.ext he6
  refine xC (zcu hb6) ?_
  refine zr fun r10 w7 hb10 he7 hr10 hz10 => ?_
  have hb10 : Blk w7 r10 [.int .i64 size, .int .i64 blocks, .slice A blocks.toNat blocks.toNat, .slice none 0 0, .int .i64 0, .int .i64 (-1)] 163 := hb10
  have hall := ((((((he1.trans he2).trans he3).trans he4).trans he5).trans he6).trans he7)
  have hpre := (((((he1.trans he2).trans he3).trans he4).trans he5))
  have hlt : ∀ j, orow A = some j -> j < w6.heap.size := ho.yc
  refine .inl ⟨rfl, r10, rfl, _, zj6 (d := zdl size blocks) hb10 ((ho.ext he7).lower (Nat.zero_le _)) rfl (fun e => by have := hlt _ e; omega) (zig hok), ?_, hall⟩
  rintro k (rfl | hk | hk)
  ·have := (hpre.trans he6).size; omega
  ·have := ho.row k hk
   have := hpre.size
   omega
  ·cases hk
end V
/- Contracts of the package frame, and of the document's answer (4). -/
namespace V
open Go Go.Proofs Go.RowKit Crc
abbrev fLs : List Lf := [.int .u8, .int .u64, .str]
theorem zmk {w : World} {r : Nat} {cs : List Value} {t : TypeId} {f : Fra} {K : (Int × Int × ByteArray × Unit) -> WP} {us : Array Value} (hb : Blk w r cs t) (hl : cs.length = 3) (hu : us.size = 3)
  (hK : ∀ w', Blk w' r (fV f) t -> (∀ w0, Ext w0 w -> w0.heap.size <= r -> Ext w0 w') -> (∀ k : Nat, k ≠ r -> w'.heap[k]? = w.heap[k]?) -> w'.heap.size = w.heap.size -> K (fT f) w') :
  (zd (us.size = 3) <| zt (aD r) (fV f) <| zk fLs (aD r) K) w :=
 refill (vs := fV f) hb (by rw [hl]; rfl) (zj0 f) hu fun w' hb' hx hs hz => zW (ls := fLs) (fT f) hb' rfl (hK w' hb' hx hs hz)
theorem zpx {w : World} {r : Nat} {t : TypeId} {f : Fra} {K : (Int × Int × ByteArray × Unit) -> WP} (hb : Blk w r (fV f) t)
  (hK : ∀ w', (∀ w0, Ext w0 w -> w0.heap.size <= r -> Ext w0 w') -> K (fT f) w') :
  (zk fLs (aD r) fun (u : Int × Int × ByteArray × Unit) => zd ((#[(.int .u8 u.1), (.int .u64 u.2.1), (.string u.2.2.1)] : Array Value).size = 3) <| zt (aD r) [(.int .u8 u.1), (.int .u64 u.2.1), (.string u.2.2.1)] <| zk fLs (aD r) K) w :=
 zW (ls := fLs) (fT f) hb rfl (zmk (f := f) hb rfl rfl fun w' _ hx _ _ => hK w' hx)
theorem boxed {w : World} {t : TypeId} {f : Fra} {K : Nat -> WP} (hK : ∀ r w', Blk w' r (fV f) t -> Ext w w' -> w.heap.size <= r -> K r w') :
  (zi (.cells #[(.int .u8 (0 : Int)), (.int .u64 (0 : Int)), (.string ByteArray.empty)] t) fun r => zd ((#[(.int .u8 (fT f).1), (.int .u64 (fT f).2.1), (.string (fT f).2.2.1)] : Array Value).size = 3) <| zt (aD r) [(.int .u8 (fT f).1), (.int .u64 (fT f).2.1), (.string (fT f).2.2.1)] (K r)) w :=
 yE (vs := fV f) (by rfl) (zj0 f) (fun r w' hb he hr => hK r w' hb he hr) (by rfl)
theorem zpl {w : World} {A : Option Addr} {n : Nat} {bs : List UInt8} {a : Addr} {K : WP} (h : Sl w A n (bV bs)) (hA : A = some a) (hn : 0 < n) (hK : K w) : zq [[((a.add (Int.toNat (0 : Int) * 1)), (.int .u8 ((bs.getD 0 0).toNat : Int)))]] K w := by
 refine ⟨fun l hl p hp => ?_, hK⟩
 simp only [List.mem_singleton] at hl
 subst hl
 simp only [List.mem_singleton] at hp
 subst hp
 have hl := h.blen
 obtain ⟨a', e, hc⟩ := h.2.2 hn
 rw [hA] at e
 injection e with e
 subst e
 have := hc 0 (.int .u8 ((bs.getD 0 0).toNat : Int)) (by simp [bV, show 0 < bs.length by omega])
 exact this
structure Looks (w : World) (A : Option Addr) (n c : Nat) (bs : List UInt8) : Prop where
 sl : Sl w A n (bV bs)
 nc : n <= c
 big : 128 <= n /\ n <= 4096
theorem Looks.body {w : World} {A : Option Addr} {n c : Nat} {bs : List UInt8} (h : Looks w A n c bs) : Sl w (zm A 0 c 1) (n - 4) (bV (bs.take (bs.length - 4))) := by
 have := h.sl.zey (k := n - 4) (m := c) (by have := h.big; omega) (by have := h.big; have := h.nc; omega)
 rw [qU] at this
 rw [h.sl.blen]
 exact this
theorem Looks.part {w : World} {A : Option Addr} {n c : Nat} {bs : List UInt8} (h : Looks w A n c bs) {l k : Nat} (hl : l + k <= n) (hk : 0 < k) : Sl w (zm A l c 1) k (bV ((bs.drop l).take k)) := by
 have := h.sl.cut (l := l) (k := k) (m := c) (by omega) (by have := h.nc; omega)
 rw [vj, qU] at this
 exact this
theorem Looks.tail {w : World} {A : Option Addr} {n c : Nat} {bs : List UInt8} (h : Looks w A n c bs) : Sl w (zm A (n - 4) c 1) (n - (n - 4)) (bV (bs.drop (bs.length - 4))) := by
 have := h.part (l := n - 4) (k := n - (n - 4)) (by have := h.big; omega) (by have := h.big; omega)
 have hl := h.sl.blen
 rw [List.take_of_length_le (by simp; have := h.big; omega)] at this
 rw [hl]
 exact this
theorem Looks.ext {w w' : World} {A : Option Addr} {n c : Nat} {bs : List UInt8} (h : Looks w A n c bs) (he : Ext w w') : Looks w' A n c bs := ⟨h.sl.ext he, h.nc, h.big⟩
theorem zoU {bs : List UInt8} (h : zC bs.length = 0) : yh bs = (vN, 2) := by unfold yh; rw [if_pos h]
theorem zof {bs : List UInt8} (h : zC bs.length ≠ 0) (h1 : (crc (bs.take (bs.length - 4))).toNat ≠ lev (bs.drop (bs.length - 4))) : yh bs = (vN, 10) := by unfold yh; rw [if_neg h, if_pos h1]
theorem zoV {bs : List UInt8} (h : zC bs.length ≠ 0) (h1 : (crc (bs.take (bs.length - 4))).toNat = lev (bs.drop (bs.length - 4))) (h2 : (lev ((bs.drop 2).take 2) : Int) > zC bs.length) : yh bs = (vN, 4) := by unfold yh; rw [if_neg h, if_neg (by simp [h1]), if_pos h2]
theorem zog {bs : List UInt8} (h : zC bs.length ≠ 0) (h1 : (crc (bs.take (bs.length - 4))).toNat = lev (bs.drop (bs.length - 4))) (h2 : ¬ (lev ((bs.drop 2).take 2) : Int) > zC bs.length) (h3 : xl bs.length (xf bs) ≠ (bs, 0)) : yh bs = (vN, 4) := by unfold yh; rw [if_neg h, if_neg (by simp [h1]), if_neg h2, if_neg h3]
theorem zoW {bs : List UInt8} (h : zC bs.length ≠ 0) (h1 : (crc (bs.take (bs.length - 4))).toNat = lev (bs.drop (bs.length - 4))) (h2 : ¬ (lev ((bs.drop 2).take 2) : Int) > zC bs.length) (h3 : xl bs.length (xf bs) = (bs, 0)) : yh bs = (xf bs, 0) := by unfold yh; rw [if_neg h, if_neg (by simp [h1]), if_neg h2, if_pos h3]
theorem zcv {bs : List UInt8} (h : bs.length <= 4) : lev bs < 4294967296 := by
 have := jw bs
 have : 256 ^ bs.length <= 256 ^ 4 := Nat.pow_le_pow_right (by omega) h
 omega
theorem ziZ (w : World) (s : ByteArray) (hs : s.size <= 9223372036854775807) : Calls Tryz.prog 174 #[.string s] w (Ret fun v w' => v = .tuple #[.agg (fV (yh (B s)).1).toArray, .int .i64 (yh (B s)).2] /\ Ext w w') := by
 apply zlG
 unfold S174
 have hsz := yg s
 refine zr fun r1 w1 hb1 he1 hr1 _ => ?_
 have hb1 : Blk w1 r1 (fV vN) 127 := hb1
 refine zb (jf w1 (s.size : Nat)) ?_
 rintro _ w2 ⟨rfl, he2⟩
 refine ⟨_, rfl, ?_⟩
 have hb1 := hb1.ext he2
 have he2 := he1.trans he2
 have hr1' : w.heap.size <= r1 := by omega
 have done : ∀ {w' : World} {f : Fra} {e : Int}, Ext w w' -> Blk w' r1 (fV f) 127 -> yh (B s) = (f, e) ->
   (zk fLs (aD r1) fun (u : Int × Int × ByteArray × Unit) => zd ((#[(.int .u8 u.1), (.int .u64 u.2.1), (.string u.2.2.1)] : Array Value).size = 3) <| zt (aD r1) [(.int .u8 u.1), (.int .u64 u.2.1), (.string u.2.2.1)] <| zk fLs (aD r1) fun (u : Int × Int × ByteArray × Unit) => fun w'' => Value.tuple #[(.agg #[(.int .u8 u.1), (.int .u64 u.2.1), (.string u.2.2.1)]), (.int .i64 e)] = .tuple #[.agg (fV (yh (B s)).1).toArray, .int .i64 (yh (B s)).2] /\ Ext w w'') w' := fun {w' f e} he hb hg =>
  zpx hb fun w'' hx => ⟨by rw [hg]; rfl, hx w he hr1'⟩
 rw [hsz] at hs ⊢
 rcases uA (B s).length with h0 | ⟨h0, h1, h2, hgeo⟩
 ·rw [h0]
  exact zf (by rfl) (done he2 hb1 (zoU h0))
 refine zc (by rw [beq_eq_false_iff_ne]; omega) ?_
 have hne : zC (B s).length ≠ 0 := by omega
 refine kN (u := .string) (e := 5) (by kernel_rfl) (by kernel_rfl) (by kernel_rfl) (by omega) ?_
 intro c w3 hsl he3 hs3 hc
 have hL : Looks w3 (some ⟨w2.heap.size, 0, none⟩) s.size c (B s) := ⟨hsl, hc, by omega⟩
 rw [hsz] at hL
 have hb1 := hb1.ext he3
 have he3 := he2.trans he3
 refine zK fun w4 he4 _ _ => ?_
 have hL := hL.ext he4
 have hb1 := hb1.ext he4
 have he4 := he3.trans he4
 dsimp only
 rw [hsz]
 generalize hA : (some (⟨w2.heap.size, 0, none⟩ : Addr)) = A at hL ⊢
 rw [wrap_i64 (x := ((B s).length : Int) - 4) (by omega) (by omega), show Int.toNat (((B s).length : Int) - 4) = (B s).length - 4 by omega]
 refine zJ ⟨by omega, by omega⟩ (zJ ⟨by omega, by omega⟩ ?_)
 refine zb (zfb hL.body) ?_
 rintro _ w5 ⟨rfl, he5⟩
 refine ⟨_, rfl, ?_⟩
 have hL := hL.ext he5
 have hb1 := hb1.ext he5
 have he5 := he4.trans he5
 refine zb (qJ hL.tail (by omega)) ?_
 rintro _ w6 ⟨rfl, he6⟩
 refine ⟨_, rfl, ?_⟩
 have hL := hL.ext he6
 have hb1 := hb1.ext he6
 have he6 := he5.trans he6
 have hclt := (crc ((B s).take ((B s).length - 4))).isLt
 rw [zy (by omega)]
 refine zg (fun hbad => ?_) (fun hok => ?_)
 ·have hbad := bne_iff_ne.1 hbad
  exact done he6 hb1 (zof hne (fun e => hbad (by rw [e])))
 have hok : (crc ((B s).take ((B s).length - 4))).toNat = lev ((B s).drop ((B s).length - 4)) := by have := bne_eq_false_iff_eq.1 hok; omega
 refine zJ ⟨by omega, by omega, by omega⟩ ?_
 have hp2 := hL.part (l := 2) (k := 2) (by omega) (by omega)
 refine zb (qJ (c := c - Int.toNat 2) hp2 (by omega)) ?_
 rintro _ w7 ⟨rfl, he7⟩
 refine ⟨_, rfl, ?_⟩
 have hL := hL.ext he7
 have hb1 := hb1.ext he7
 have he7 := he6.trans he7
 have hk := zcv (bs := ((B s).drop 2).take 2) (by simp; omega)
 rw [wrap_i64 (x := (lev (((B s).drop 2).take 2) : Int)) (by omega) (by omega)]
 refine zg (fun hbig => ?_) (fun hfit => ?_)
 ·exact done he7 hb1 (zoV hne hok (of_decide_eq_true hbig))
 have hfit := of_decide_eq_false hfit
 refine zK fun w8 he8 _ _ => ?_
 have hL := hL.ext he8
 have hb1 := hb1.ext he8
 have he8 := he7.trans he8
 refine zJ ⟨by omega, by omega⟩ ?_
 obtain ⟨a, ha, hcell⟩ := hL.sl.2.2 (by omega)
 refine ⟨a, ha, ?_⟩
 have h00 : w8.cell? (a.add (Int.toNat (0 : Int) * 1)) = some (.int .u8 (((B s).getD 0 0).toNat : Int)) := hcell 0 _ (by simp [bV, show 0 < (B s).length by omega])
 refine zaT (l := .int .u8) (x := (((B s).getD 0 0).toNat : Int)) h00 ?_
 rw [wrap_i64 (x := (12 : Int) + _) (by omega) (by omega), show Int.toNat ((12 : Int) + (lev (((B s).drop 2).take 2) : Int)) = 12 + lev (((B s).drop 2).take 2) by omega]
 refine zJ ⟨by omega, by omega, by have := hL.nc; omega⟩ (zJ ⟨by omega, by omega, by omega⟩ ?_)
 have hp4 := hL.part (l := 4) (k := 8) (by omega) (by omega)
 refine zb (qJ (c := c - Int.toNat 4) hp4 (by omega)) ?_
 rintro _ w9 ⟨rfl, he9⟩
 refine ⟨_, rfl, ?_⟩
 have hL := hL.ext he9
 have hb1 := hb1.ext he9
 have he9 := he8.trans he9
 refine zpl hL.sl ha (by omega) ?_
 have ed : s.extract (Int.toNat 12) (12 + lev (((B s).drop 2).take 2)) = ⟨(((B s).drop 12).take (lev (((B s).drop 2).take 2))).toArray⟩ := by
  apply ka
  rw [jy]
  show ((B s).drop 12).take _ = _
  rw [show Int.toNat 12 = 12 from rfl, Nat.add_sub_cancel_left, jx]
  rfl
 rw [ed]
 refine zmk (f := xf (B s)) hb1 rfl rfl ?_
 intro w10 hb1 hx10 _ _
 have he10 := hx10 w he9 hr1'
 refine zb (za1 w10 ((B s).length : Nat) (f := xf (B s)) (zd5 _)) ?_
 rintro _ w11 ⟨rfl, he11⟩
 refine ⟨(⟨(xl (B s).length (xf (B s))).1.toArray⟩, (xl (B s).length (xf (B s))).2, ()), rfl, ?_⟩
 have hb1 := hb1.ext he11
 have he11 := he10.trans he11
 dsimp only
 have bad : xl (B s).length (xf (B s)) ≠ (B s, 0) -> ∀ {w' : World}, Blk w' r1 (fV (xf (B s))) 127 -> Ext w w' ->
   (zd ((#[(.int .u8 (0 : Int)), (.int .u64 (0 : Int)), (.string ByteArray.empty)] : Array Value).size = 3) <| zt (aD r1) [(.int .u8 (0 : Int)), (.int .u64 (0 : Int)), (.string ByteArray.empty)] <| zk fLs (aD r1) fun (u : Int × Int × ByteArray × Unit) => fun w'' => Value.tuple #[(.agg #[(.int .u8 u.1), (.int .u64 u.2.1), (.string u.2.2.1)]), (.int .i64 4)] = .tuple #[.agg (fV (yh (B s)).1).toArray, .int .i64 (yh (B s)).2] /\ Ext w w'') w' := fun hne2 {w'} hb he =>
  zmk (f := vN) hb rfl rfl fun w'' _ hx _ _ => ⟨by rw [zog hne hok hfit hne2]; rfl, hx w he hr1'⟩
 refine zg (fun hz => ?_) (fun hz => ?_)
 ·have hz := bne_iff_ne.1 hz
  exact bad (fun e => hz (by rw [e])) hb1 he11
 have hz := bne_eq_false_iff_eq.1 hz
 refine zg (fun hq => ?_) (fun hq => ?_)
 ·refine bad (fun e => ?_) hb1 he11
  have : ((⟨(xl (B s).length (xf (B s))).1.toArray⟩ : ByteArray).toList == s.toList) = false := by simpa using hq
  rw [qV, jx, e] at this
  simp at this
 ·have : ((⟨(xl (B s).length (xf (B s))).1.toArray⟩ : ByteArray).toList == s.toList) = true := by simpa using hq
  rw [qV, jx] at this
  have hps := of_decide_eq_true this
  exact done he11 hb1 (zoW hne hok hfit (Prod.ext hps hz))
end V
/- Supers: plain. -/
namespace V
open Go Go.Proofs Go.RowKit Crc
structure Sup where
 gen : Nat
 size : Int
 blocks : Int
 root : Nat
 pages : List Nat
deriving DecidableEq
def zml : Sup := ⟨0, 0, 0, 0, []⟩
structure Sup.Fits (s : Sup) : Prop where
 gen : s.gen < 18446744073709551616
 size : -9223372036854775808 <= s.size /\ s.size < 9223372036854775808
 blocks : -9223372036854775808 <= s.blocks /\ s.blocks < 9223372036854775808
 root : s.root < 4294967296
 pages : ∀ p ∈ s.pages, p < 4294967296
theorem xY {size blocks : Int} (h : zT size blocks = true) : zC size = size - 16 /\ 128 <= size /\ size <= 4096 /\ 8 <= blocks /\ blocks <= 4096 := by
 unfold zT at h
 have h := of_decide_eq_true h
 have h8 : zT size 8 = true := by unfold zT; exact decide_eq_true (by omega)
 unfold zC
 rw [h8]
 exact ⟨rfl, by omega, by omega, by omega, by omega⟩
def kD (size blocks : Int) : Int := if zT size blocks = true then (2 * blocks + zC size - 1) / zC size else 0
theorem zi0 {size blocks : Int} : 0 <= kD size blocks /\ kD size blocks <= 20000 := by
 unfold kD
 split
 ·rename_i h
  obtain ⟨h0, h1, h2, h3, h4⟩ := xY h
  rw [h0]
  have := Int.ediv_le_self (a := 2 * blocks + (size - 16) - 1) (size - 16) (by omega)
  have := Int.ediv_nonneg (a := 2 * blocks + (size - 16) - 1) (b := size - 16) (by omega) (by omega)
  omega
 ·omega
def vE (blocks : Int) (n : Nat) : Bool := decide (2 <= n /\ (n : Int) < blocks)
def Sup.good (s : Sup) (j : Nat) : Prop := vE s.blocks (s.pages.getD j 0) = true /\ s.pages.getD j 0 ≠ s.root /\ s.pages.getD j 0 ∉ s.pages.take j
instance (s : Sup) (j : Nat) : Decidable (s.good j) := by unfold Sup.good; infer_instance
def Sup.head (s : Sup) : Prop := zT s.size s.blocks = true /\ s.gen ≠ 0 /\ (s.root = 0 \/ vE s.blocks s.root = true) /\ (s.pages.length : Int) = kD s.size s.blocks
instance (s : Sup) : Decidable s.head := by unfold Sup.head; infer_instance
def chk (s : Sup) : Int := if s.head then (if ∀ j, j < s.pages.length -> s.good j then (if 14 + 4 * (s.pages.length : Int) > zC s.size then 3 else 0) else 2) else 2
theorem zmm {s : Sup} (h : ¬ s.head) : chk s = 2 := by unfold chk; rw [if_neg h]
theorem zeG {s : Sup} {j : Nat} (hj : j < s.pages.length) (h : ¬ s.good j) : chk s = 2 := by
 unfold chk
 split
 ·rw [if_neg (fun hh => h (hh j hj))]
 ·rfl
theorem zgs {s : Sup} (h : s.head) (hg : ∀ j, j < s.pages.length -> s.good j) : chk s = if 14 + 4 * (s.pages.length : Int) > zC s.size then 3 else 0 := by
 unfold chk
 rw [if_pos h, if_pos hg]
theorem zaC {s : Sup} (h : chk s = 0) : s.head /\ (∀ j, j < s.pages.length -> s.good j) /\ 14 + 4 * (s.pages.length : Int) <= zC s.size := by
 unfold chk at h
 split at h
 ·rename_i h1
  split at h
  ·rename_i h2
   split at h
   ·cases h
   ·exact ⟨h1, h2, by omega⟩
  ·cases h
 ·cases h
def yo (ps : List Nat) : List UInt8 := ps.flatMap (le 4)
theorem xk (ps : List Nat) : (yo ps).length = 4 * ps.length := by
 induction ps with
 | nil => rfl
 | cons p r ih => simp only [yo, List.flatMap_cons, List.length_append, zv, List.length_cons] at ih ⊢; omega
def za5 (s : Sup) : List UInt8 := le 4 s.size.toNat ++ le 4 s.blocks.toNat ++ le 4 s.root ++ le 2 s.pages.length
def qP (s : Sup) : List UInt8 := za5 s ++ yo s.pages
theorem zb1 (s : Sup) : (za5 s).length = 14 := by simp [za5, zv]
theorem jB (s : Sup) : (qP s).length = 14 + 4 * s.pages.length := by rw [qP, List.length_append, zb1, xk]
def vl (s : Sup) : Fra := (1, s.gen, ⟨(qP s).toArray⟩)
def xu (s : Sup) : List UInt8 × Int := if chk s = 0 then xl s.size (vl s) else ([], chk s)
theorem zgt {s : Sup} (h : chk s ≠ 0) : xu s = ([], chk s) := if_neg h
theorem kE {s : Sup} (h : chk s = 0) : xu s = (yt s.size.toNat (vl s), 0) := by
 obtain ⟨h1, h2, h3⟩ := zaC h
 obtain ⟨g0, g1, g2, g3, g4⟩ := xY h1.1
 unfold xu xl
 have hl : ((B (vl s).2.2).length : Int) = 14 + 4 * s.pages.length := by
  show ((B ⟨(qP s).toArray⟩).length : Int) = _
  rw [jx, jB]
  omega
 rw [if_pos h, if_neg (by omega), if_neg (by omega)]
theorem zih {s : Sup} (h : (xu s).2 = 0) : chk s = 0 := by
 by_cases h1 : chk s = 0
 ·exact h1
 ·rw [zgt h1] at h
  exact h
theorem uQ (s : Sup) : B (vl s).2.2 = qP s := jx _
theorem zcT {s : Sup} (h : chk s = 0) : ((xu s).1.length : Int) = s.size /\ 128 <= s.size /\ s.size <= 4096 := by
 rw [kE h]
 obtain ⟨h1, h2, h3⟩ := zaC h
 obtain ⟨g0, g1, g2, g3, g4⟩ := xY h1.1
 have := j0 (size := s.size.toNat) (f := vl s) (by rw [uQ, jB]; omega)
 dsimp only
 omega
theorem zj7 {s : Sup} (h : chk s = 0) (hg : s.gen < 18446744073709551616) : uP (xu s).1 1 = (vl s, 0) := by
 rw [kE h]
 obtain ⟨h1, h2, h3⟩ := zaC h
 obtain ⟨g0, g1, g2, g3, g4⟩ := xY h1.1
 have hget := zfc (size := s.size.toNat) (f := vl s) (by rw [Int.toNat_of_nonneg (by omega)]; exact g0) (by omega) (by omega) (by rw [uQ, jB]; omega) hg
 unfold uP
 rw [hget, if_neg (by rintro ⟨_, h⟩; exact h rfl)]
def yH (n : Nat) (bs : List UInt8) : List Nat := (List.range n).map fun i => lev ((bs.drop (4 * i)).take 4)
theorem zeH (n : Nat) (bs : List UInt8) : (yH n bs).length = n := by simp [yH]
theorem zgu (n : Nat) (bs : List UInt8) : yH (n + 1) bs = yH n bs ++ [lev ((bs.drop (4 * n)).take 4)] := by simp [yH, List.range_succ]
theorem zi1 (n : Nat) (bs : List UInt8) : ∀ p ∈ yH n bs, p < 4294967296 := by
 intro p hp
 simp only [yH, List.mem_map] at hp
 obtain ⟨i, _, rfl⟩ := hp
 exact zcv (by rw [List.length_take]; omega)
theorem zgv {n : Nat} (h : n < 4294967296) : lev (le 4 n) = n := by rw [uv]; omega
theorem vm : ∀ (ps : List Nat), (∀ p ∈ ps, p < 4294967296) -> yH ps.length (yo ps) = ps
 | [], _ => rfl
 | p :: r, h => by
  have ih := vm r (fun q hq => h q (List.mem_cons_of_mem _ hq))
  have e : yo (p :: r) = le 4 p ++ yo r := rfl
  unfold yH at ih ⊢
  rw [List.length_cons, List.range_succ_eq_map, List.map_cons, List.map_map, e]
  congr 1
  ·rw [Nat.mul_zero, List.drop_zero, List.take_left' (zv 4 p)]
   exact zgv (h p List.mem_cons_self)
def zdm (f : Fra) : Sup := ⟨f.2.1, lev ((B f.2.2).take 4), lev (((B f.2.2).drop 4).take 4), lev (((B f.2.2).drop 8).take 4), yH (((B f.2.2).length - 14) / 4) ((B f.2.2).drop 14)⟩
theorem zhw (s : Sup) : (qP s).take 4 = le 4 s.size.toNat /\ ((qP s).drop 4).take 4 = le 4 s.blocks.toNat /\ ((qP s).drop 8).take 4 = le 4 s.root /\ ((qP s).drop 12).take 2 = le 2 s.pages.length /\ (qP s).drop 14 = yo s.pages := by
 have e : qP s = le 4 s.size.toNat ++ (le 4 s.blocks.toNat ++ (le 4 s.root ++ (le 2 s.pages.length ++ yo s.pages))) := by simp [qP, za5]
 have d4 : (qP s).drop 4 = le 4 s.blocks.toNat ++ (le 4 s.root ++ (le 2 s.pages.length ++ yo s.pages)) := by rw [e, List.drop_left' (zv _ _)]
 have d8 : (qP s).drop 8 = le 4 s.root ++ (le 2 s.pages.length ++ yo s.pages) := by rw [show 8 = 4 + 4 from rfl, <- List.drop_drop, d4, List.drop_left' (zv _ _)]
 have d12 : (qP s).drop 12 = le 2 s.pages.length ++ yo s.pages := by rw [show 12 = 8 + 4 from rfl, <- List.drop_drop, d8, List.drop_left' (zv _ _)]
 have d14 : (qP s).drop 14 = yo s.pages := by rw [show 14 = 12 + 2 from rfl, <- List.drop_drop, d12, List.drop_left' (zv _ _)]
 refine ⟨by rw [e, List.take_left' (zv _ _)], by rw [d4, List.take_left' (zv _ _)], by rw [d8, List.take_left' (zv _ _)], by rw [d12, List.take_left' (zv _ _)], d14⟩
theorem zmn {s : Sup} (h : chk s = 0) (hf : s.Fits) : zdm (vl s) = s := by
 obtain ⟨h1, h2, h3⟩ := zaC h
 obtain ⟨g0, g1, g2, g3, g4⟩ := xY h1.1
 obtain ⟨p1, p2, p3, p4, p5⟩ := zhw s
 unfold zdm
 rw [uQ, p1, p2, p3, p5, jB, zgv (by omega), zgv (by omega), zgv hf.root, show (14 + 4 * s.pages.length - 14) / 4 = s.pages.length by omega, vm _ hf.pages]
 cases s
 simp only [vl, Sup.mk.injEq, true_and, and_true]
 dsimp only at g1 g3
 omega
theorem zj8 {f : Fra} (h : f.2.1 < 18446744073709551616) : (zdm f).Fits := by
 have a : ∀ l : List UInt8, lev (l.take 4) < 4294967296 := fun l => zcv (by rw [List.length_take]; omega)
 have a1 := a (B f.2.2)
 have a2 := a ((B f.2.2).drop 4)
 exact ⟨h, by dsimp only [zdm]; omega, by dsimp only [zdm]; omega, a _, zi1 _ _⟩
def ky (bs : List UInt8) : Sup × Int :=
 if (uP bs 1).2 ≠ 0 then (zml, (uP bs 1).2)
 else if (B (uP bs 1).1.2.2).length < 14 then (zml, 4)
 else if xu (zdm (uP bs 1).1) = (bs, 0) then (zdm (uP bs 1).1, 0) else (zml, 4)
theorem zmo {s : Sup} {bs : List UInt8} (hf : s.Fits) (h : xu s = (bs, 0)) : ky bs = (s, 0) := by
 have hc := zih (s := s) (by rw [h])
 have hk := zj7 hc hf.gen
 rw [h] at hk
 dsimp only at hk
 have hl := jB s
 unfold ky
 rw [hk, if_neg (by simp), uQ, if_neg (by omega), zmn hc hf, if_pos h]
theorem zoh {bs : List UInt8} (h : (ky bs).2 = 0) : xu (ky bs).1 = (bs, 0) /\ (ky bs).1.Fits := by
 unfold ky at h ⊢
 split at h
 ·rename_i h1; exact absurd h h1
 ·rename_i h1
  rw [if_neg h1]
  split at h
  ·cases h
  ·rename_i h2
   rw [if_neg h2]
   split at h
   ·rename_i h3
    rw [if_pos h3]
    refine ⟨h3, zj8 ?_⟩
    unfold uP
    split
    ·decide
    ·exact zmc bs
   ·cases h
def other (slot : Int) : Int := if slot = 0 then 1 else 0
end V
/- Spaces: plain. -/
namespace V
open Go Go.Proofs Go.RowKit Crc
abbrev Page := UInt8 × List Nat × ByteArray
def yU : Page := (0, [], ByteArray.empty)
def pgB (p : Page) : List UInt8 := le 2 p.2.1.length ++ (yo p.2.1 ++ B p.2.2)
def j6 (d : List UInt8) : List Nat := yH (lev (d.take 2)) (d.drop 2)
def zaD (N : Nat) (d : List UInt8) : Prop := 2 <= d.length /\ 2 + 4 * lev (d.take 2) <= d.length /\ ∀ n ∈ j6 d, 2 <= n /\ n < N
instance (N : Nat) (d : List UInt8) : Decidable (zaD N d) := by unfold zaD; infer_instance
def xQ (N : Nat) (bs : List UInt8) : Page × Int :=
 if (yh bs).2 = 0 /\ 3 <= (yh bs).1.1.toNat /\ zaD N (B (yh bs).1.2.2) then
  (((yh bs).1.1, j6 (B (yh bs).1.2.2), mkB ((B (yh bs).1.2.2).drop (2 + 4 * lev ((B (yh bs).1.2.2).take 2)))), 0) else (yU, 10)
theorem zi2 {N size gen : Nat} {p : Page} (hr : zC size = (size : Int) - 16) (h1 : 128 <= size) (h2 : size <= 4096) (hd : (pgB p).length + 16 <= size) (hg : gen < 18446744073709551616)
  (ht : 3 <= p.1.toNat) (hk : ∀ n ∈ p.2.1, 2 <= n /\ n < N) (hN : N <= 4096) : xQ N (yt size (p.1, gen, mkB (pgB p))) = (p, 0) := by
 have e1 : yh (yt size (p.1, gen, mkB (pgB p))) = ((p.1, gen, mkB (pgB p)), 0) := zfc hr h1 h2 (by rw [show B (p.1, gen, mkB (pgB p)).2.2 = pgB p from jx _]; exact hd) hg
 unfold xQ
 rw [e1]
 dsimp only
 rw [show B (mkB (pgB p)) = pgB p from jx _]
 have hl : (pgB p).length = 2 + (4 * p.2.1.length + (B p.2.2).length) := by simp [pgB, zv, xk]
 have hkl : p.2.1.length < 65536 := by omega
 have e2 : (pgB p).take 2 = le 2 p.2.1.length := by rw [pgB, List.take_left' (zv _ _)]
 have e3 : (pgB p).drop 2 = yo p.2.1 ++ B p.2.2 := by rw [pgB, List.drop_left' (zv _ _)]
 have e4 : lev ((pgB p).take 2) = p.2.1.length := by rw [e2, zib hkl]
 have e5 : j6 (pgB p) = p.2.1 := by
  unfold j6
  rw [e4, e3]
  have hw := vm p.2.1 (fun n hn => by have := hk n hn; omega)
  have hcut : ∀ (n : Nat) (a b : List UInt8), 4 * n <= a.length -> yH n (a ++ b) = yH n a := by
   intro n a b hn
   unfold yH
   apply List.map_congr_left
   intro i hi
   have := List.mem_range.1 hi
   rw [List.drop_append_of_le_length (by omega), List.take_append_of_le_length (by rw [List.length_drop]; omega)]
  rw [hcut _ _ _ (by rw [xk]; omega)]
  exact hw
 have e6 : (pgB p).drop (2 + 4 * p.2.1.length) = B p.2.2 := by
  rw [<- List.drop_drop, e3, List.drop_left' (xk _)]
 rw [e4, e5, e6, if_pos ⟨rfl, ht, by rw [hl]; omega, by rw [e4, hl]; omega, by rw [e5]; exact hk⟩]
 rfl
structure Spa where
 dev : Dev
 sup : Sup
 slot : Int
 held : List Nat
 now : List Nat
 mark : Option (List Nat)
def cnt : Option (List Nat) -> Nat -> Nat
 | none, _ => 0
 | some l, n => l.getD n 0
namespace Spa
def N (S : Spa) : Nat := S.sup.blocks.toNat
def yq (S : Spa) (n : Nat) : Bool := S.now.getD n 0 == 0 && S.held.getD n 0 == 0 && cnt S.mark n == 0
def z8 (S : Spa) : List Nat := (List.range S.N).filter fun n => decide (2 <= n) && S.yq n
def zV (S : Spa) : Nat := S.z8.length
def asked (S : Spa) (n : Nat) : Bool := decide (2 <= n) && (decide (n < S.N) && !(decide (n ∈ S.sup.pages)))
def room (S : Spa) (k : Int) : Int := if k < 0 \/ k > (zC S.sup.size - 2) / 4 then 0 else zC S.sup.size - 2 - 4 * k
def zB (S : Spa) : Nat := (List.range S.now.length).findIdx S.yq
def takeN (S : Spa) : Nat := if S.zB < S.now.length then S.zB else 0
def yM (S : Spa) : Int := if S.zB < S.now.length then 0 else 9
def yN (S : Spa) : List Nat := if S.zB < S.now.length then S.now.set S.zB 1 else S.now
def page (S : Spa) (n : Nat) : Page × Int := xQ S.N (B (S.dev.read n).1)
def get (S : Spa) (n : Nat) : Page × Int := if S.asked n = false then (yU, 2) else if S.now.getD n 0 = 0 then (yU, 8) else S.page n
end Spa
def yj (d : Dev) (k : Int) (f : Fra) : Dev × Int := if (xl d.size f).2 ≠ 0 then (d, (xl d.size f).2) else d.write k (mkB (xl d.size f).1)
namespace Spa
def jC (S : Spa) (p : Page) : Int :=
 if p.1.toNat < 3 \/ p.2.1.length > 65535 \/ (∃ k ∈ p.2.1, S.asked k = false) then 2
 else if ∃ k ∈ p.2.1, S.now.getD k 0 = 0 then 8
 else if (p.2.1.length : Int) > S.room 0 / 4 \/ (p.2.2.size : Int) > S.room p.2.1.length then 3
 else if S.zV <= S.sup.pages.length then 9
 else 0
def frame (S : Spa) (p : Page) : Fra := (p.1, S.sup.gen + 1, mkB (pgB p))
def put (S : Spa) (p : Page) : Spa × Nat × Int :=
 if S.jC p ≠ 0 then (S, 0, S.jC p)
 else if S.yM ≠ 0 then (S, 0, S.yM)
 else if (yj S.dev S.takeN (S.frame p)).2 ≠ 0 then ({ S with now := S.yN, dev := (yj S.dev S.takeN (S.frame p)).1 }, 0, (yj S.dev S.takeN (S.frame p)).2)
 else ({ S with now := S.yN, dev := (yj S.dev S.takeN (S.frame p)).1 }, S.takeN, 0)
end Spa
end V
/- Contracts of the package counts. -/
namespace V
open Go Go.Proofs Go.RowKit
def uV (k : IntKind) (l : List Nat) : List Value := l.map fun (n : Nat) => Value.int k ((n : Nat) : Int)
structure Cnt (w : World) (b r : Nat) (size : Int) (q : List Value) (l : List Nat) : Prop where
 head : Blk w b [.int .i64 size, .int .i64 (l.length : Int), .slice (some ⟨r, 0, none⟩) l.length (l.length + q.length)] 193
 row : Blk w r (uV .u16 l ++ q) 194
 ne : b ≠ r
 len : 2 <= l.length /\ l.length <= 4096
 fits : ∀ n ∈ l, n < 65536
theorem zj9 {k : IntKind} {l : List Nat} {i : Nat} (h : i < l.length) : (uV k l)[i]? = some (.int k ((l.getD i 0 : Nat) : Int)) := by
 simp [uV, h]
theorem vn {k : IntKind} {l : List Nat} {q : List Value} {i : Nat} (h : i < l.length) : (uV k l ++ q)[i]? = some (.int k ((l.getD i 0 : Nat) : Int)) := by
 rw [List.getElem?_append_left (by simpa [uV] using h), zj9 h]
theorem kF (k : IntKind) (l : List Nat) : (uV k l).length = l.length := by simp [uV]
theorem zoX (k : IntKind) (l : List Nat) (i x : Nat) : (uV k l).set i (.int k (x : Int)) = uV k (l.set i x) := by simp [uV, List.map_set]
theorem Cnt.ext {w w' : World} {b r : Nat} {size : Int} {q : List Value} {l : List Nat} (h : Cnt w b r size q l) (he : Ext w w') : Cnt w' b r size q l := ⟨h.head.ext he, h.row.ext he, h.ne, h.len, h.fits⟩
theorem Cnt.kept {w w' : World} {b r k : Nat} {size : Int} {q : List Value} {l : List Nat} (h : Cnt w b r size q l) (hg : w.grownBy w' (some k)) (h1 : b ≠ k) (h2 : r ≠ k) : Cnt w' b r size q l :=
 ⟨h.head.grown hg (by simpa using h1), h.row.grown hg (by simpa using h2), h.ne, h.len, h.fits⟩
theorem Cnt.qY {w : World} {b r : Nat} {size : Int} {q : List Value} {l : List Nat} (h : Cnt w b r size q l) (i : Nat) : l.getD i 0 < 65536 := by
 rcases Nat.lt_or_ge i l.length with hi | hi
 ·rw [List.getD_eq_getElem?_getD, List.getElem?_eq_getElem hi]
  exact h.fits _ (List.getElem_mem hi)
 ·rw [List.getD_eq_getElem?_getD, List.getElem?_eq_none hi]
  simp
theorem Cnt.set {w : World} {b r i x : Nat} {size : Int} {q : List Value} {l : List Nat} (h : Cnt w b r size q l) (hi : i < l.length) (hx : x < 65536) :
  Cnt (w.setCell ⟨r, i, none⟩ (.int .u16 (x : Int))) b r size q (l.set i x) /\ w.grownBy (w.setCell ⟨r, i, none⟩ (.int .u16 (x : Int))) (some r) := by
 have hs := h.row.set i (.int .u16 (x : Int))
 rw [List.set_append_left _ _ (by rw [kF]; exact hi), zoX] at hs
 refine ⟨⟨by rw [List.length_set]; exact h.head.other (fun e => h.ne e.symm) _, hs, h.ne, by rw [List.length_set]; exact h.len, fun n hn => ?_⟩, ⟨rfl, rfl, rfl, by simp, fun k hk hne => Below.heap_setCell _ _ _ _ (fun e => hne (by rw [e]))⟩⟩
 rcases List.mem_or_eq_of_mem_set hn with h1 | h1
 ·exact h.fits n h1
 ·rw [h1]; exact hx
theorem uR {w : World} {b r : Nat} {size : Int} {q : List Value} {l : List Nat} (h : Cnt w b r size q l) (n : Nat) (hn : n < 4294967296) : Calls Tryz.prog 75 #[.pointer (some ⟨b, 0, none⟩), .int .u32 (n : Int)] w (Ret fun v w' => v = .int .i64 ((l.getD n 0 : Nat) : Int) /\ w' = w) := by
 apply zh9
 unfold S75
 have hl := h.len
 refine zc (by rfl) ?_
 refine zs ?_
 refine yV (o := 2) (x := (some ⟨r, 0, none⟩, l.length, l.length + q.length)) h.head (by rfl) ?_
 dsimp only
 rw [zy (by omega), zy (by omega)]
 refine zg (fun hh => ?_) (fun hh => ?_)
 ·have hh := of_decide_eq_true hh
  refine ⟨?_, rfl⟩
  rw [List.getD_eq_getElem?_getD, List.getElem?_eq_none (by omega)]
  rfl
 have hh := of_decide_eq_false hh
 refine zs ?_
 refine yV (o := 2) (x := (some ⟨r, 0, none⟩, l.length, l.length + q.length)) h.head (by rfl) ?_
 dsimp only
 refine zJ ⟨by omega, by omega⟩ (zs ?_)
 rw [Int.toNat_natCast, Nat.mul_one]
 refine yV h.row (vn (by omega)) ?_
 have := h.qY n
 rw [wrap_i64 (by omega) (by omega)]
 exact ⟨rfl, rfl⟩
theorem zb2 (w : World) (n : Nat) : Calls Tryz.prog 75 #[.pointer none, .int .u32 (n : Int)] w (Ret fun v w' => v = .int .i64 0 /\ w' = w) := by
 apply zh9
 unfold S75
 exact zf (by rfl) ⟨rfl, rfl⟩
def atE (l : List Nat) (n : Nat) : Int := if n < 2 \/ l.length <= n then 2 else if l.getD n 0 = 0 then 8 else 0
def atP (l : List Nat) (n r : Nat) : Option Addr := if atE l n = 0 then some ⟨r, n, none⟩ else none
theorem zgw {w : World} {b r : Nat} {size : Int} {q : List Value} {l : List Nat} (h : Cnt w b r size q l) (n : Nat) (hn : n < 4294967296) : Calls Tryz.prog 136 #[.pointer (some ⟨b, 0, none⟩), .int .u32 (n : Int)] w (Ret fun v w' => v = .tuple #[.pointer (atP l n r), .int .i64 (atE l n)] /\ w' = w) := by
 apply zli
 unfold S136 atP atE
 have hl := h.len
 refine zc (by rfl) ?_
 refine zg (fun hh => ?_) (fun hh => ?_)
 ·have hh := of_decide_eq_true hh
  rw [if_pos (show n < 2 \/ l.length <= n from .inl (by omega))]
  exact ⟨rfl, rfl⟩
 have hh := of_decide_eq_false hh
 refine zs ?_
 refine yV (o := 2) (x := (some ⟨r, 0, none⟩, l.length, l.length + q.length)) h.head (by rfl) ?_
 dsimp only
 rw [zy (by omega), zy (by omega)]
 refine zg (fun h2 => ?_) (fun h2 => ?_)
 ·have h2 := of_decide_eq_true h2
  rw [if_pos (show n < 2 \/ l.length <= n from .inr (by omega))]
  exact ⟨rfl, rfl⟩
 have h2 := of_decide_eq_false h2
 rw [if_neg (show ¬ (n < 2 \/ l.length <= n) by omega)]
 refine zs ?_
 refine yV (o := 2) (x := (some ⟨r, 0, none⟩, l.length, l.length + q.length)) h.head (by rfl) ?_
 dsimp only
 refine zJ ⟨by omega, by omega⟩ (zs ?_)
 rw [Int.toNat_natCast, Nat.mul_one]
 refine yV h.row (vn (by omega)) ?_
 refine zg (fun h3 => ?_) (fun h3 => ?_)
 ·have h3 : l.getD n 0 = 0 := by rw [beq_iff_eq] at h3; omega
  rw [if_pos h3]
  exact ⟨rfl, rfl⟩
 have h3 : ¬ l.getD n 0 = 0 := by rw [beq_eq_false_iff_ne] at h3; omega
 rw [if_neg h3]
 refine zs ?_
 refine yV (o := 2) (x := (some ⟨r, 0, none⟩, l.length, l.length + q.length)) h.head (by rfl) ?_
 dsimp only
 refine zJ ⟨by omega, by omega⟩ (zs ?_)
 rw [zz, Nat.zero_add]
 exact ⟨rfl, rfl⟩
def xg (l : List Nat) (n : Nat) : List Nat := if atE l n = 0 then l.set n (l.getD n 0 - 1) else l
def za6 (l : List Nat) (n : Nat) : Nat := if atE l n = 0 then l.getD n 0 - 1 else 0
theorem zb3 (l : List Nat) (n : Nat) : atE l n = 0 /\ 2 <= n /\ n < l.length /\ l.getD n 0 ≠ 0 \/ atE l n = 2 \/ atE l n = 8 := by
 unfold atE
 split
 ·exact .inr (.inl rfl)
 ·split
  ·exact .inr (.inr rfl)
  ·exact .inl ⟨rfl, by omega, by omega, by assumption⟩
theorem zka {w : World} {b r : Nat} {size : Int} {q : List Value} {l : List Nat} (h : Cnt w b r size q l) (n : Nat) (hn : n < 4294967296) : Calls Tryz.prog 87 #[.pointer (some ⟨b, 0, none⟩), .int .u32 (n : Int)] w (Ret fun v w' => v = .tuple #[.int .i64 (za6 l n : Int), .int .i64 (atE l n)] /\ Cnt w' b r size q (xg l n) /\ w.grownBy w' (some r)) := by
 apply zn4
 unfold S87
 refine zb (zgw h n hn) ?_
 rintro _ w1 ⟨rfl, hw⟩
 subst hw
 refine ⟨(atP l n r, atE l n, ()), rfl, ?_⟩
 dsimp only
 rcases zb3 l n with ⟨h0, h2, hl, hne⟩ | h0
 ·have hp : atP l n r = some ⟨r, n, none⟩ := by unfold atP; rw [if_pos h0]
  rw [hp, h0]
  refine zc (by rfl) ?_
  have hfit := h.qY n
  have hr : ∀ {K : Int -> WP}, K ((l.getD n 0 : Nat) : Int) w1 -> (zh (some (⟨r, n, none⟩ : Addr)) fun p => ldW (.int .u16) p K) w1 := fun {K} hk => ⟨_, rfl, zo h.row (vn hl) hk⟩
  refine hr ?_
  refine zs ?_
  refine zO h.row (by rw [List.length_append, kF]; omega) ?_
  rw [show IntKind.wrap .u16 (((l.getD n 0 : Nat) : Int) - 1) = ((l.getD n 0 - 1 : Nat) : Int) from by rw [wrap_u16]; omega]
  obtain ⟨hc, hg⟩ := h.set (x := l.getD n 0 - 1) hl (by omega)
  refine zs ?_
  refine zo hc.row (vn (by rw [List.length_set]; exact hl)) ?_
  have e : (l.set n (l.getD n 0 - 1)).getD n 0 = l.getD n 0 - 1 := by
   rw [List.getD_eq_getElem?_getD, List.getElem?_set_self hl]
   rfl
  rw [e, wrap_i64 (by omega) (by omega)]
  have e1 : za6 l n = l.getD n 0 - 1 := by unfold za6; rw [if_pos h0]
  have e2 : xg l n = l.set n (l.getD n 0 - 1) := by unfold xg; rw [if_pos h0]
  rw [e1, e2]
  exact ⟨rfl, hc, hg⟩
 ·have hne : atE l n ≠ 0 := by rcases h0 with h0 | h0 <;> rw [h0] <;> decide
  have e1 : za6 l n = 0 := by unfold za6; rw [if_neg hne]
  have e2 : xg l n = l := by unfold xg; rw [if_neg hne]
  rw [e1, e2]
  refine zf (by simpa using hne) ?_
  exact ⟨rfl, h, xy _ _⟩
def uD (l : List Nat) (n : Nat) : Int := if atE l n = 0 then (if l.getD n 0 = 65535 then 12 else 0) else atE l n
def uE (l : List Nat) (n : Nat) : List Nat := if uD l n = 0 then l.set n (l.getD n 0 + 1) else l
theorem zkb {w : World} {b r : Nat} {size : Int} {q : List Value} {l : List Nat} (h : Cnt w b r size q l) (n : Nat) (hn : n < 4294967296) : Calls Tryz.prog 139 #[.pointer (some ⟨b, 0, none⟩), .int .u32 (n : Int)] w (Ret fun v w' => v = .int .i64 (uD l n) /\ Cnt w' b r size q (uE l n) /\ w.grownBy w' (some r)) := by
 apply zll
 unfold S139
 refine zb (zgw h n hn) ?_
 rintro _ w1 ⟨rfl, hw⟩
 subst hw
 refine ⟨(atP l n r, atE l n, ()), rfl, ?_⟩
 dsimp only
 rcases zb3 l n with ⟨h0, h2, hl, hne⟩ | h0
 ·have hp : atP l n r = some ⟨r, n, none⟩ := by unfold atP; rw [if_pos h0]
  rw [hp, h0]
  refine zc (by rfl) ?_
  have hfit := h.qY n
  refine zs ?_
  refine zo h.row (vn hl) ?_
  refine zg (fun hm => ?_) (fun hm => ?_)
  ·have hm : l.getD n 0 = 65535 := by rw [beq_iff_eq] at hm; omega
   have e1 : uD l n = 12 := by unfold uD; rw [if_pos h0, if_pos hm]
   have e2 : uE l n = l := by unfold uE; rw [e1]; rfl
   rw [e1, e2]
   exact ⟨rfl, h, xy _ _⟩
  ·have hm : ¬ l.getD n 0 = 65535 := by rw [beq_eq_false_iff_ne] at hm; omega
   have e1 : uD l n = 0 := by unfold uD; rw [if_pos h0, if_neg hm]
   have e2 : uE l n = l.set n (l.getD n 0 + 1) := by unfold uE; rw [if_pos e1]
   rw [e1, e2]
   refine zs ?_
   refine zo h.row (vn hl) ?_
   refine zs ?_
   refine zO h.row (by rw [List.length_append, kF]; omega) ?_
   rw [show IntKind.wrap .u16 (((l.getD n 0 : Nat) : Int) + 1) = ((l.getD n 0 + 1 : Nat) : Int) from by rw [wrap_u16]; omega]
   obtain ⟨hc, hg⟩ := h.set (x := l.getD n 0 + 1) hl (by omega)
   exact ⟨rfl, hc, hg⟩
 ·have hne : atE l n ≠ 0 := by rcases h0 with h0 | h0 <;> rw [h0] <;> decide
  have e1 : uD l n = atE l n := by unfold uD; rw [if_neg hne]
  have e2 : uE l n = l := by unfold uE; rw [e1, if_neg hne]
  rw [e1, e2]
  refine zf (by simpa using hne) ?_
  exact ⟨rfl, h, xy _ _⟩
theorem zi3 (w : World) (a b c d : Int) : (Op.eqFields 9999 #[.int .i64 a, .int .i64 b] #[.int .i64 c, .int .i64 d] (Tryz.prog.fieldsOf 72).toList).run Tryz.prog w = .ok (a == c && (b == d && true)) w := by
 have hf : (Tryz.prog.fieldsOf 72).toList = [(Tryz.prog.fieldsOf 72).getD 0 default, (Tryz.prog.fieldsOf 72).getD 1 default] := by kernel_rfl
 rw [hf]
 refine xW (of_decide_eq_true (by kernel_rfl)) (a := .int .i64 a) (b := .int .i64 c) (by kernel_rfl) (by kernel_rfl) (run_equalIn_int w 9998 _ .i64 .i64 _ _ (by kernel_rfl)) ?_
 refine xW (of_decide_eq_true (by kernel_rfl)) (a := .int .i64 b) (b := .int .i64 d) (by kernel_rfl) (by kernel_rfl) (run_equalIn_int w 9998 _ .i64 .i64 _ _ (by kernel_rfl)) ?_
 rfl
theorem zoi (w : World) (a b : Int) (x y : Operand) : (eqS .neq 72 x y (.agg #[.int .i64 a, .int .i64 b]) (.agg #[.int .i64 a, .int .i64 b])).run Tryz.prog w = .ok (.bool false) w := by
 have := zez (x := x) (y := y) (by kernel_rfl) (by kernel_rfl) (by kernel_rfl) (zi3 w a b a b)
 simpa using this
def zmS (w : World) (x : Option Addr) (b r : Nat) (size : Int) (len : Nat) (hl : List Nat) : Prop :=
 (x = none /\ hl = []) \/ ∃ b2 r2, x = some ⟨b2, 0, none⟩ /\ (∃ q2, Cnt w b2 r2 size q2 hl) /\ hl.length = len /\ b2 ≠ r /\ r2 ≠ r
def qz (l hl : List Nat) (i : Nat) : Bool := l.getD i 0 == 0 && hl.getD i 0 == 0
def zB (l hl : List Nat) : Nat := (List.range l.length).findIdx (qz l hl)
def takeN (l hl : List Nat) : Nat := if zB l hl < l.length then zB l hl else 0
def yM (l hl : List Nat) : Int := if zB l hl < l.length then 0 else 9
def yN (l hl : List Nat) : List Nat := if zB l hl < l.length then l.set (zB l hl) 1 else l
theorem zb4 {l hl : List Nat} {i : Nat} (h : i < zB l hl) : qz l hl i = false := by
 have := List.not_of_lt_findIdx (p := qz l hl) (xs := List.range l.length) h
 simpa using this
theorem zdn {l hl : List Nat} (h : zB l hl < l.length) : qz l hl (zB l hl) = true := by
 have := List.findIdx_getElem (p := qz l hl) (xs := List.range l.length) (w := by rw [List.length_range]; exact h)
 rw [List.getElem_range] at this
 exact this
theorem zd7 {w : World} {b r : Nat} {size : Int} {q : List Value} {l hl : List Nat} {x : Option Addr} (h : Cnt w b r size q l) (hh : zmS w x b r size l.length hl) :
  Calls Tryz.prog 116 #[.pointer (some ⟨b, 0, none⟩), .pointer x] w (Ret fun v w' => v = .tuple #[.int .u32 ((takeN l hl : Nat) : Int), .int .i64 (yM l hl)] /\ Cnt w' b r size q (yN l hl) /\ w.grownBy w' (some r)) := by
 apply zk5
 unfold S116
 have hlen := h.len
 refine yB (fun _ w' => w' = w.drew) ?_ (fun J hJ => ?_)
 ·rintro _ w1 hw1
  have hcw : Cnt w1 b r size q l := by rw [hw1]; exact h.ext (Ext.refl w).drew
  have hg0 : w.grownBy w1 (some r) := by rw [hw1]; exact xL (Ext.refl w).drew _
  have hh1 : zmS w1 x b r size l.length hl := by
   rcases hh with hh | ⟨b2, r2, h1, h2, h3⟩
   ·exact .inl hh
   ·obtain ⟨q2, h2⟩ := h2
    exact .inr ⟨b2, r2, h1, ⟨q2, by rw [hw1]; exact h2.ext (Ext.refl w).drew⟩, h3⟩
  refine zs ?_
  refine yV (o := 2) (x := (some ⟨r, 0, none⟩, l.length, l.length + q.length)) hcw.head (by rfl) ?_
  dsimp only
  refine zx (fun y w' => w' = w1 /\ ∃ i : Nat, i <= l.length /\ y = ((i : Int), ()) /\ i <= zB l hl) (fun y => (l.length - y.1).toNat) ⟨rfl, 0, by omega, rfl, by omega⟩ ?_
  rintro _ _ ⟨rfl, i, hi, rfl, hti⟩
  dsimp only
  rename_i w1
  by_cases hlt : i < l.length
  ·refine zf (decide_eq_true (by omega)) ?_
   refine zJ ⟨by omega, by omega⟩ (zs ?_)
   rw [Int.toNat_natCast, Nat.mul_one]
   refine yV hcw.row (vn hlt) ?_
   rw [uu (by omega), wrap_i64 (x := (i : Int) + 1) (by omega) (by omega)]
   have next : qz l hl i = false -> i + 1 <= zB l hl := fun hf => by
    rcases Nat.lt_or_ge i (zB l hl) with h1 | h1
    ·omega
    ·have hii : zB l hl = i := by omega
     have := zdn (l := l) (hl := hl) (by omega)
     rw [hii, hf] at this
     cases this
   refine zg (fun hz => ?_) (fun hz => ?_)
   ·have hz : l.getD i 0 = 0 := by rw [beq_iff_eq] at hz; omega
    have hget : Calls Tryz.prog 75 #[.pointer x, .int .u32 (i : Int)] w1 (Ret fun v w' => v = .int .i64 ((hl.getD i 0 : Nat) : Int) /\ w' = w1) := by
     rcases hh1 with ⟨rfl, rfl⟩ | ⟨b2, r2, rfl, ⟨q2, hc2⟩, _⟩
     ·exact zb2 w1 i
     ·exact uR hc2 i (by omega)
    refine zb hget ?_
    rintro _ w2 ⟨rfl, hw2⟩
    subst hw2
    refine ⟨_, rfl, ?_⟩
    refine zg (fun hz2 => ?_) (fun hz2 => ?_)
    ·have hz2 : hl.getD i 0 = 0 := by rw [beq_iff_eq] at hz2; omega
     have hfr : qz l hl i = true := by unfold qz; rw [hz, hz2]; rfl
     have htake : zB l hl = i := by
      rcases Nat.lt_or_ge i (zB l hl) with h1 | h1
      ·rw [zb4 h1] at hfr; cases hfr
      ·omega
     refine zs ?_
     refine yV (o := 2) (x := (some ⟨r, 0, none⟩, l.length, l.length + q.length)) hcw.head (by rfl) ?_
     dsimp only
     refine zJ ⟨by omega, by omega⟩ (zs ?_)
     rw [zz, Nat.zero_add]
     refine zO hcw.row (by rw [List.length_append, kF]; omega) ?_
     obtain ⟨hc, hg⟩ := hcw.set (x := 1) hlt (by omega)
     have e1 : takeN l hl = i := by unfold takeN; rw [htake, if_pos hlt]
     have e2 : yM l hl = 0 := by unfold yM; rw [htake, if_pos hlt]
     have e3 : yN l hl = l.set i 1 := by unfold yN; rw [htake, if_pos hlt]
     rw [e1, e2, e3]
     exact ⟨rfl, hc, xa hg0 hg (fun j hj => .inl hj)⟩
    ·have hz2 : ¬ hl.getD i 0 = 0 := by rw [beq_eq_false_iff_ne] at hz2; omega
     refine ⟨⟨rfl, i + 1, by omega, rfl, next ?_⟩, by omega⟩
     unfold qz
     rw [Bool.and_eq_false_iff]
     right
     rw [beq_eq_false_iff_ne]
     exact hz2
   ·have hz : ¬ l.getD i 0 = 0 := by rw [beq_eq_false_iff_ne] at hz; omega
    refine ⟨⟨rfl, i + 1, by omega, rfl, next ?_⟩, by omega⟩
    unfold qz
    rw [Bool.and_eq_false_iff]
    left
    rw [beq_eq_false_iff_ne]
    exact hz
  ·obtain rfl : i = l.length := by omega
   refine zc (decide_eq_false (by omega)) ?_
   have hno : ¬ zB l hl < l.length := by omega
   have e1 : takeN l hl = 0 := by unfold takeN; rw [if_neg hno]
   have e2 : yM l hl = 9 := by unfold yM; rw [if_neg hno]
   have e3 : yN l hl = l := by unfold yN; rw [if_neg hno]
   rw [e1, e2, e3]
   exact ⟨rfl, hcw, hg0⟩
 ·refine zc (by rfl) ?_
  show (za _ _ _) w.drew
  rcases hh with ⟨rfl, rfl⟩ | ⟨b2, r2, rfl, ⟨q2, hc2⟩, hl2, _, _⟩
  ·exact zc (by rfl) (hJ _ _ rfl)
  ·refine zf (by rfl) ?_
   have hcd := h.ext (Ext.refl w).drew
   have hcd2 := hc2.ext (Ext.refl w).drew
   refine zs ?_
   have rd : ∀ {b r : Nat} {q : List Value} {l : List Nat} {K : (Int × Int × Unit) -> WP}, Cnt w.drew b r size q l -> K (size, (l.length : Int), ()) w.drew -> zk [(.int .i64), (.int .i64)] ⟨b, 0, none⟩ K w.drew := fun {b r q l K} hc hk => by
    refine qv (ls := [(.int .i64), (.int .i64)]) (x := (size, (l.length : Int), ())) ?_ hk
    have := hc.head.jm
    exact ⟨this.1, this.2.1, trivial⟩
   refine rd hcd2 ?_
   refine zs ?_
   refine rd hcd ?_
   rw [hl2]
   refine ⟨false, fun w' => zoi w' _ _ _ _, ?_⟩
   exact zc rfl (hJ _ _ rfl)
theorem zgx : Elem Tryz.prog 191 194 (.int .u16 0) 2 := by
 refine ⟨by kernel_rfl, by kernel_rfl, rfl⟩
theorem zoY (k : IntKind) (xs : List Nat) : ∀ v ∈ uV k xs, v.oneCell' = true := by
 intro v hv
 obtain ⟨t, _, rfl⟩ := List.mem_map.1 hv
 rfl
theorem zfB {w : World} {r n cc : Nat} {l : List Nat} (h : Sl w (some ⟨r, 0, none⟩) n (uV .u16 l)) (hm : n <= 4096) : Calls Tryz.prog 144 #[.slice (some ⟨r, 0, none⟩) n cc] w (Ret fun v w' => ∃ A c, v = .slice A n c /\ Own 194 w' w.heap.size A n c (uV .u16 l) /\ Ext w w') := by
 apply zlp
 unfold S144
 refine zc (by rfl) ?_
 apply yz
 have ho : Own 194 (w.alloc (.cells #[] 194)) w.heap.size (some ⟨w.heap.size, 0, none⟩) 0 0 [] := Own.lit (cs := #[]) (Nat.le_refl _) (by simp)
 have he : Ext w (w.alloc (.cells #[] 194)) := (Ext.refl w).alloc _
 have hs : Sl (w.alloc (.cells #[] 194)) (some ⟨r, 0, none⟩) n (uV .u16 l) := h.ext he
 refine uO (c := 0) (n := 0) (m := n) zgx ho he.size hs (zoY .u16 l) (by omega) (by omega) ?_
 intro A' c' w' ho' hg _
 rw [List.nil_append, Nat.zero_add] at ho'
 rw [Nat.zero_add]
 exact ⟨A', c', rfl, ho', he.grown hg.grown (ho.row')⟩
def zb5 (n : Nat) : List Nat := 1 :: 1 :: List.replicate (n - 2) 0
theorem zkc (w : World) (size blocks : Int) : Calls Tryz.prog 114 #[.agg #[.int .i64 size, .int .i64 blocks]] w (Ret fun v w' => ∃ x : Option Addr, v = .tuple #[.pointer x, .int .i64 (if zT size blocks then 0 else 2)] /\ (if zT size blocks then ∃ b r, x = some ⟨b, 0, none⟩ /\ Cnt w' b r size [] (zb5 blocks.toNat) /\ w.heap.size <= b /\ w.heap.size <= r else x = none) /\ Ext w w') := by
 apply zk4
 unfold S114
 apply yz
 have hb : Blk (w.alloc (.cells #[(.int .i64 size), (.int .i64 blocks)] 72)) w.heap.size [(.int .i64 size), (.int .i64 blocks)] 72 := Blk.new w _ _
 have he : Ext w (w.alloc (.cells #[(.int .i64 size), (.int .i64 blocks)] 72)) := (Ext.refl w).alloc _
 generalize w.alloc (.cells #[(.int .i64 size), (.int .i64 blocks)] 72) = w1 at hb he ⊢
 refine zau (ls := [(.int .i64), (.int .i64)]) (x := (size, blocks, ())) hb rfl ?_
 refine zb (qg w1 size blocks) ?_
 rintro _ w2 ⟨rfl, he2⟩
 refine ⟨_, rfl, ?_⟩
 have he02 := he.trans he2
 have hb2 := hb.ext he2
 cases hok : zT size blocks with
 | false =>
  rw [if_neg (by simp)]
  refine zf (by rfl) ?_
  exact ⟨none, rfl, by rw [if_neg (by simp)], he02⟩
 | true =>
  rw [if_pos rfl]
  refine zc (by rfl) ?_
  unfold zT at hok
  have hok := of_decide_eq_true hok
  obtain ⟨n, rfl⟩ : ∃ n : Nat, blocks = n := ⟨blocks.toNat, by omega⟩
  have he3 := he02.drew
  have hb3 := hb2.drew
  show (zk _ _ _) w2.drew
  generalize w2.drew = w3 at he3 hb3 ⊢
  refine zau (ls := [(.int .i64), (.int .i64)]) (x := (size, (n : Int), ())) hb3 rfl ?_
  refine yV (o := 1) (x := (n : Int)) hb3 (by rfl) ?_
  refine zaR (B := w3.heap.size) zgx rfl (Nat.le_refl _) (by omega) (by omega) ?_
  intro w4 ho4 hg4
  have he4 : Ext w w4 := he3.none hg4
  have h34 : Ext w3 w4 := (Ext.refl w3).none hg4
  have hrow : Blk w4 w3.heap.size (List.replicate n (.int .u16 0)) 194 := zdj ho4
  have hr1 : w.heap.size <= w3.heap.size := he3.size
  generalize w3.heap.size = r at hrow hr1 ⊢
  have hb4 := hb3.ext h34
  refine ⟨fun ls hls p hp => ?_, ?_⟩
  ·simp only [List.mem_singleton] at hls
   subst hls
   have hc := hb4.jm
   rcases List.mem_cons.1 hp with rfl | hp
   ·exact hc.1
   ·rcases List.mem_cons.1 hp with rfl | hp
    ·exact hc.2.1
    ·cases hp
  apply yz
  have hnb : Blk (w4.alloc (.cells #[(.int .i64 size), (.int .i64 (n : Int)), (.slice (some ⟨r, 0, none⟩) n n)] 193)) w4.heap.size [(.int .i64 size), (.int .i64 (n : Int)), (.slice (some ⟨r, 0, none⟩) n n)] 193 := Blk.new w4 _ _
  have hrow5 := hrow.alloc (.cells #[(.int .i64 size), (.int .i64 (n : Int)), (.slice (some ⟨r, 0, none⟩) n n)] 193)
  have he5 := he4.alloc (.cells #[(.int .i64 size), (.int .i64 (n : Int)), (.slice (some ⟨r, 0, none⟩) n n)] 193)
  have hrlt := hrow.lt
  have hb1 := he4.size
  dsimp only at hnb hrow5 he5 ⊢
  generalize w4.alloc (.cells #[(.int .i64 size), (.int .i64 (n : Int)), (.slice (some ⟨r, 0, none⟩) n n)] 193) = w5 at hnb hrow5 he5 ⊢
  generalize w4.heap.size = b at hnb hrlt hb1 ⊢
  have he6 := he5.drew
  have hnb6 := hnb.drew
  have hrow6 := hrow5.drew
  show (zh _ _) w5.drew
  generalize w5.drew = w6 at he6 hnb6 hrow6 ⊢
  refine zs ?_
  refine yV (o := 2) (x := (some ⟨r, 0, none⟩, n, n)) hnb6 (by rfl) ?_
  refine zs ?_
  refine yV (o := 2) (x := (some ⟨r, 0, none⟩, n, n)) hnb6 (by rfl) ?_
  dsimp only
  refine zJ ⟨by omega, by omega⟩ (zs ?_)
  rw [show ((aD r).add (Int.toNat 0 * 1)) = ⟨r, 0, none⟩ by rw [zz]; rfl]
  refine zO hrow6 (by rw [List.length_replicate]; omega) ?_
  have hrow7 := hrow6.set 0 (.int .u16 1)
  have hnb7 := hnb6.other (p := ⟨r, 0, none⟩) (by simp only; omega) (.int .u16 1)
  have he7 := he6.set (p := ⟨r, 0, none⟩) hr1 (.int .u16 1)
  refine zJ ⟨by omega, by omega⟩ (zs ?_)
  rw [show ((aD r).add (Int.toNat 1 * 1)) = ⟨r, 1, none⟩ by rw [zz]; rfl]
  refine zO hrow7 (by rw [List.length_set, List.length_replicate]; omega) ?_
  have hrow8 := hrow7.set 1 (.int .u16 1)
  have hnb8 := hnb7.other (p := ⟨r, 1, none⟩) (by simp only; omega) (.int .u16 1)
  have he8 := he7.set (p := ⟨r, 1, none⟩) hr1 (.int .u16 1)
  refine ⟨some ⟨b, 0, none⟩, rfl, ?_, he8⟩
  rw [if_pos rfl]
  have hlen : (zb5 (Int.toNat (n : Int))).length = n := by simp [zb5]; omega
  have hcells : ((List.replicate n (Value.int .u16 0)).set 0 (.int .u16 1)).set 1 (.int .u16 1) = uV .u16 (zb5 (Int.toNat (n : Int))) ++ [] := by
   rw [List.append_nil, Int.toNat_natCast]
   obtain ⟨m, rfl⟩ : ∃ m, n = m + 2 := ⟨n - 2, by omega⟩
   simp [zb5, uV, List.replicate_succ]
  rw [hcells] at hrow8
  refine ⟨b, r, rfl, ⟨by rw [hlen]; exact hnb8, hrow8, by omega, by rw [hlen]; omega, fun x hx => ?_⟩, hb1, hr1⟩
  simp only [zb5, List.mem_cons, List.mem_replicate] at hx
  omega
theorem zmp {e : TypeId} {w : World} {B n c : Nat} {A : Option Addr} {vs : List Value} (h : Own e w B A n c vs) (hn : 0 < n) : ∃ g q, A = some ⟨g, 0, none⟩ /\ Blk w g (vs ++ q) e /\ c = n + q.length /\ B <= g := by
 rcases h.2 with ⟨h1, h2⟩ | ⟨g, cap, cur, hv, hbg, hg, hnc, hcm, hcs, htake⟩
 ·omega
 ·injection hv with hv1 hv2 hv3
  subst hv1 hv3
  refine ⟨g, cur.toList.drop n, rfl, ?_, by rw [List.length_drop, Array.length_toList, hcs]; omega, hbg⟩
  rw [<- htake, Nat.mul_one, List.take_append_drop]
  show w.heap[g]? = _
  rw [hg]
theorem zeI {w : World} {b r : Nat} {size : Int} {q : List Value} {l : List Nat} (h : Cnt w b r size q l) : Calls Tryz.prog 96 #[.pointer (some ⟨b, 0, none⟩)] w (Ret fun v w' => (∃ b2 r2 q2, v = .pointer (some ⟨b2, 0, none⟩) /\ Cnt w' b2 r2 size q2 l /\ w.heap.size <= b2 /\ w.heap.size <= r2) /\ Ext w w') := by
 apply zn9
 unfold S96
 have hl := h.len
 refine zc (by rfl) ?_
 have he1 := (Ext.refl w).drew
 have h1 := h.ext he1
 show (zh _ _) w.drew
 generalize w.drew = w1 at he1 h1 ⊢
 refine zs ?_
 have hc := h1.head.jm
 refine qv (ls := [(.int .i64), (.int .i64)]) (x := (size, (l.length : Int), ())) ⟨hc.1, hc.2.1, trivial⟩ ?_
 refine zs ?_
 refine yV (o := 2) (x := (some ⟨r, 0, none⟩, l.length, l.length + q.length)) h1.head (by rfl) ?_
 dsimp only
 have hsl : Sl w1 (some ⟨r, 0, none⟩) l.length (uV .u16 l) := ⟨by rw [kF], by omega, fun _ => ⟨_, rfl, fun j v hj => by
  have hjl : j < (uV .u16 l).length := (List.getElem?_eq_some_iff.1 hj).1
  rw [zz, h1.row.cell, Nat.zero_add, List.getElem?_append_left hjl]
  exact hj⟩⟩
 refine zb (zfB hsl (by omega)) ?_
 rintro _ w2 ⟨A, c, rfl, ho, he2⟩
 refine ⟨(A, l.length, c), rfl, ?_⟩
 dsimp only
 obtain ⟨g, q2, rfl, hg, rfl, hBg⟩ := zmp ho (by omega)
 have h2 := h1.ext he2
 have hc2 := h2.head.jm
 refine ⟨fun ls hls p hp => ?_, ?_⟩
 ·simp only [List.mem_singleton] at hls
  subst hls
  rcases List.mem_cons.1 hp with rfl | hp
  ·exact hc2.1
  ·rcases List.mem_cons.1 hp with rfl | hp
   ·exact hc2.2.1
   ·cases hp
 apply yz
 have hnb : Blk (w2.alloc (.cells #[(.int .i64 size), (.int .i64 (l.length : Int)), (.slice (some ⟨g, 0, none⟩) l.length (l.length + q2.length))] 193)) w2.heap.size [(.int .i64 size), (.int .i64 (l.length : Int)), (.slice (some ⟨g, 0, none⟩) l.length (l.length + q2.length))] 193 := Blk.new w2 _ _
 have hgl := hg.lt
 have hs1 := he1.size
 have hs2 := he2.size
 exact ⟨⟨w2.heap.size, g, q2, rfl, ⟨hnb, hg.alloc _, by omega, hl, h.fits⟩, by omega, by omega⟩, (he1.trans he2).alloc _⟩
end V
/- Contracts of counts.Pages and what it calls. -/
namespace V
open Go Go.Proofs Go.RowKit
theorem zkd : jN Tryz.prog 158 9 (.string ByteArray.empty) xz.k 16 := by
 refine ⟨by kernel_rfl, by kernel_rfl, rfl⟩
theorem Owni.qh {α : Type} {E : Enc α} {e : TypeId} {w w' : World} {B a b n c : Nat} {A : Option Addr} {xs : List α} (h : Owni E e w B A n c xs) (hs : yO a b w w') (ha : a < B) (hb : b < B) : Owni E e w' B A n c xs := by
 refine ⟨h.1, ?_⟩
 rcases h.2 with h1 | ⟨g, cap, cur, hv, hB, hg, r⟩
 ·exact .inl h1
 ·exact .inr ⟨g, cap, cur, hv, hB, (hs.2.2.2.2 g (by omega) (by omega)).trans hg, r⟩
theorem Ext.qh {w0 w w' : World} {a b : Nat} (h : Ext w0 w) (hs : yO a b w w') (ha : w0.heap.size <= a) (hb : w0.heap.size <= b) : Ext w0 w' :=
 ⟨hs.1.trans h.os, hs.2.1.trans h.tape, hs.2.2.1.trans h.output, by have := h.size; have := hs.2.2.2.1; omega, fun k hk => (hs.2.2.2.2 k (by omega) (by omega)).trans (h.block k hk)⟩
def zcw (l : List Nat) (per i : Nat) : List UInt8 := ((l.drop (i * per)).take per).flatMap (le 2)
def zQ (l : List Nat) (per : Nat) : List ByteArray := (List.range (yl l.length per)).map fun i => ⟨(zcw l per i).toArray⟩
def zH (size : Int) : Nat := (Int.tdiv (zC size) 2).toNat
theorem jQ {size : Int} (hs : zT size 8 = true) : 56 <= zH size /\ zH size <= 2040 /\ IntKind.wrap .i64 (Int.tdiv (zC size) 2) = ((zH size : Nat) : Int) := by
 unfold zH zC
 rw [if_pos hs]
 unfold zT at hs
 have hs := of_decide_eq_true hs
 have e : Int.tdiv (size - 16) 2 = (size - 16) / 2 := Int.tdiv_eq_ediv_of_nonneg (by omega)
 rw [e, wrap_i64 (by omega) (by omega)]
 omega
theorem zpm {w : World} {r n : Nat} {l : List Nat} {q : List Value} {k : IntKind} {t : TypeId} (h : Blk w r (uV k l ++ q) t) (hn : l.length = n) (hm : n <= 4096) : Sl w (some ⟨r, 0, none⟩) n (uV k l) :=
 ⟨by rw [kF, hn], by omega, fun _ => ⟨_, rfl, fun j v hj => by
  have hjl : j < (uV k l).length := (List.getElem?_eq_some_iff.1 hj).1
  rw [zz, h.cell, Nat.zero_add, List.getElem?_append_left hjl]
  exact hj⟩⟩
theorem zoj (k : IntKind) (l : List Nat) (i : Nat) : (uV k l).drop i = uV k (l.drop i) := by simp [uV, List.map_drop]
theorem zok (k : IntKind) (l : List Nat) (i : Nat) : (uV k l).take i = uV k (l.take i) := by simp [uV, List.map_take]
theorem zhx {w : World} {b r : Nat} {size : Int} {q : List Value} {l : List Nat} (h : Cnt w b r size q l) (hs : zT size 8 = true) : Calls Tryz.prog 141 #[.pointer (some ⟨b, 0, none⟩)] w (Ret fun v w' => ∃ x : SLC, v = .slice x.1 x.2.1 x.2.2 /\ Owni xz 9 w' w.heap.size x.1 x.2.1 x.2.2 (zQ l (zH size)) /\ Ext w w') := by
 apply zlm
 unfold S141
 have hl := h.len
 obtain ⟨hp1, hp2, hper⟩ := jQ hs
 apply yz
 have hr1 := Blk.new w #[.slice none 0 0] 158
 have he1 := (Ext.refl w).alloc (.cells #[.slice none 0 0] 158)
 generalize w.alloc (.cells #[.slice none 0 0] 158) = w1 at hr1 he1 ⊢
 generalize hrr : w.heap.size = r1 at hr1 ⊢
 refine zc (by rfl) ?_
 have he1 := he1.drew
 have hr1 := hr1.drew
 have h1 := h.ext he1
 show (zh _ _) w1.drew
 generalize w1.drew = w2 at he1 hr1 h1 ⊢
 refine zs ?_
 refine yV (o := 2) (x := (some ⟨r, 0, none⟩, l.length, l.length + q.length)) h1.head (by rfl) ?_
 dsimp only
 refine zs ?_
 refine zo (x := size) h1.head (by rfl) ?_
 refine zb (jf w2 size) ?_
 rintro _ w3 ⟨rfl, he3⟩
 refine ⟨_, rfl, ?_⟩
 have he03 := he1.trans he3
 have hr3 := hr1.ext he3
 have h3 := h1.ext he3
 refine ⟨fun ls hls p hp => ?_, ?_⟩
 ·simp only [List.mem_singleton] at hls
  subst hls
  simp only [List.mem_singleton] at hp
  subst hp
  exact h3.head.jm.2.2.1
 rw [hper]
 refine zb (zfA (by omega) (by omega) (by omega)) ?_
 rintro v w4 ⟨hit, hRc, hs4, he4⟩
 refine ⟨v, rfl, ?_⟩
 have he04 := he03.trans he4
 have hr4 := hr3.ext he4
 have h4 := h3.ext he4
 have hsz := he03.size
 have hr3lt := hr3.lt
 generalize hper2 : zH size = per at *
 refine zaw (R := za0 w3.heap.size (w3.heap.size + 1) (some ⟨r, 0, none⟩) l.length (l.length + q.length) per) (fun i w' => Ext w w' /\ za0 w3.heap.size (w3.heap.size + 1) (some ⟨r, 0, none⟩) l.length (l.length + q.length) per w' /\ ∃ A c, Blk w' r1 [.slice A i c] 158 /\ Owni xz 9 w' (w4.heap.size + 2) A i c ((zQ l per).take i)) hit (fun i w' hI => hI.2.1) (fun i w' hI => ⟨hI.1.drew, hI.2⟩) ?_ ?_ ?_ ?_
 ·rintro i w' w'' hsb ⟨e1, ⟨e2, e3⟩, A, c, e4, e5⟩
  exact ⟨e1.qh hsb (by omega) (by omega), ⟨(hsb.2.2.2.2 _ (by omega) (by omega)).trans e2, (hsb.2.2.2.2 _ (by omega) (by omega)).trans e3⟩, A, c, (hsb.2.2.2.2 _ (by omega) (by omega)).trans e4, e5.qh hsb (by omega) (by omega)⟩
 ·intro o
  exact ⟨(he04.alloc _).alloc _, ⟨(hRc.1.alloc _).alloc _, (hRc.2.alloc _).alloc _⟩, none, 0, (hr4.alloc _).alloc _, Owni.nil _ _ _⟩
 ·rintro i hi w' N jump ⟨e1, ⟨e2, e3⟩, A, c, e4, e5⟩ hsz' hN
  rw [xA] at hi
  have hin := (ux (by omega)).1 hi
  refine ⟨((zm (some ⟨r, 0, none⟩) (i * per) (i * per + min per (l.length - i * per)) 1, min per (l.length - i * per), min per (l.length - i * per)), ()), by simp [qm], ?_⟩
  dsimp only
  have hcut : Sl w' (zm (some ⟨r, 0, none⟩) (i * per) (i * per + min per (l.length - i * per)) 1) (min per (l.length - i * per)) (uV .u16 ((l.drop (i * per)).take per)) := by
   have := (zpm (h.ext e1).row rfl hl.2).cut (l := i * per) (k := min per (l.length - i * per)) (m := i * per + min per (l.length - i * per)) (by omega) (by omega)
   rw [zoj, zok] at this
   have e : (l.drop (i * per)).take (min per (l.length - i * per)) = (l.drop (i * per)).take per := by
    rcases Nat.le_total per (l.length - i * per) with h | h
    ·rw [Nat.min_eq_left h]
    ·rw [Nat.min_eq_right h, List.take_of_length_le (by simp), List.take_of_length_le (by simpa using h)]
   rw [e] at this
   exact this
  have hml : ((l.drop (i * per)).take per).length = min per (l.length - i * per) := by simp
  generalize min per (l.length - i * per) = m at hcut hml ⊢
  generalize zm (some ⟨r, 0, none⟩) (i * per) (i * per + m) 1 = X at hcut ⊢
  have hpage : zcw l per i = ((l.drop (i * per)).take per).flatMap (le 2) := rfl
  have hcs : ∀ x ∈ (l.drop (i * per)).take per, x < 65536 := fun x hx => h.fits x (List.mem_of_mem_drop (List.mem_of_mem_take hx))
  have hm : m <= 4096 := by have : ((l.drop (i * per)).take per).length <= l.length := by simp; omega
                            omega
  generalize (l.drop (i * per)).take per = cs at hcut hml hpage hcs
  refine zx (fun y w2 => Ext w' w2 /\ ∃ (j : Nat) (A2 : Option Addr) (c2 : Nat), j <= m /\ y = ((A2, 2 * j, c2), (j : Int), ()) /\ Own 5 w2 w'.heap.size A2 (2 * j) c2 (bV ((cs.take j).flatMap (le 2)))) (fun y => (m - y.2.1).toNat) ⟨Ext.refl w', 0, none, 0, by omega, rfl, Own.nil _ _ _⟩ ?_
  rintro _ w5 ⟨e6, j, A2, c2, hj, rfl, ho⟩
  dsimp only
  by_cases hlt : j < m
  ·refine zf (decide_eq_true (by omega)) ?_
   have hcut5 := hcut.ext e6
   refine zJ ⟨by omega, by omega⟩ ?_
   obtain ⟨a, ha, hcell⟩ := hcut5.2.2 (by omega)
   refine ⟨a, ha, ?_⟩
   rw [Int.toNat_natCast, Nat.mul_one]
   refine zaT (x := ((cs.getD j 0 : Nat) : Int)) (hcell j _ (zj9 (by omega))) ?_
   have hx : cs.getD j 0 < 65536 := by
    rw [List.getD_eq_getElem?_getD, List.getElem?_eq_getElem (by omega)]
    exact hcs _ (List.getElem_mem _)
   rw [zy (by omega)]
   refine zb (xe (k := 2) ho e6.size (by omega) (by omega) (by omega) (by omega)) ?_
   rintro _ w6 ⟨x, rfl, ho6, hg6⟩
   refine ⟨x, rfl, ?_⟩
   rw [wrap_i64 (by omega) (by omega)]
   have hlen : x.2.1 = 2 * (j + 1) := by
    have := ho6.sl.blen
    rw [List.length_append, zv] at this
    have := ho.sl.blen
    omega
   obtain ⟨x1, x2, x3⟩ := x
   dsimp only at hlen ho6 hg6 ⊢
   subst hlen
   refine ⟨⟨e6.grown hg6.grown ho.row', j + 1, x1, x3, by omega, rfl, ?_⟩, by omega⟩
   have e : (cs.take (j + 1)).flatMap (le 2) = (cs.take j).flatMap (le 2) ++ le 2 (cs.getD j 0) := by
    rw [List.take_succ_eq_append_getElem (by omega), List.flatMap_append, List.getD_eq_getElem?_getD, List.getElem?_eq_getElem (by omega)]
    simp
   rw [e]
   exact ho6
  ·obtain rfl : j = m := by omega
   refine zc (decide_eq_false (by omega)) ?_
   rw [List.take_of_length_le (by omega), <- hpage] at ho
   refine zo (x := (A, i, c)) (e4.ext e6) (by rfl) ?_
   dsimp only
   refine qI (e := 5) (by kernel_rfl) (by kernel_rfl) (by kernel_rfl) ho.sl ?_
   have hii : i <= 4096 := by
    have : i * 1 <= i * per := Nat.mul_le_mul_left _ (by omega)
    omega
   refine yZ (E := xz) (ys := [(⟨(zcw l per i).toArray⟩ : ByteArray)]) (by rfl) rfl zkd (e5.ext e6) (by have := e6.size; omega) (by omega) (by omega) ?_
   intro A3 c3 w6 ho3 hg3
   have e46 : Blk w6 r1 [.slice A i c] 158 := (e4.ext e6).grown hg3.grown (by intro hh; have := e5.row _ hh.symm; omega)
   refine zO e46 (by simp) ?_
   have hset := e46.set 0 (.slice A3 (i + 1) c3)
   have e7 := e1.trans e6
   have e8 : Ext w w6 := e7.grown hg3.grown (fun j hj => by have := e5.row j hj; omega)
   have hx6 : ∀ k, k < w4.heap.size + 2 -> w6.heap[k]? = w'.heap[k]? := fun k hk => by
    rw [hg3.grown.block k (by have := e6.size; omega) (fun hh => by have := e5.row _ hh.symm; omega)]
    exact e6.block k (by omega)
   refine hN _ ⟨e8.set (by simp only; omega) _, ⟨?_, ?_⟩, A3, c3, hset, ?_⟩ ?_ ?_
   ·exact Blk.other (show Blk w6 _ _ _ from (hx6 _ (by omega)).trans e2) (by simp only; omega) _
   ·exact Blk.other (show Blk w6 _ _ _ from (hx6 _ (by omega)).trans e3) (by simp only; omega) _
   ·have e9 : (zQ l per).take (i + 1) = (zQ l per).take i ++ [(⟨(zcw l per i).toArray⟩ : ByteArray)] := by
     rw [List.take_succ_eq_append_getElem (by simpa [zQ] using hi)]
     simp [zQ]
    rw [e9]
    refine ho3.grown (row := some r1) ⟨rfl, rfl, rfl, by simp, fun k hk hne => Below.heap_setCell _ _ _ _ (fun e => hne (by rw [e]))⟩ (fun j hj he => ?_)
    injection hj with hj
    have := ho3.row _ he
    omega
   ·have := hg3.grown.size
    have := e6.size
    simp
    omega
   ·intro k hk
    rw [Below.heap_setCell _ _ _ _ (by simp only; omega)]
    exact hx6 k (by omega)
 ·rintro w' ⟨e1, ⟨e2, e3⟩, A, c, e4, e5⟩ hsz' hd
  have elen : (zQ l per).length = yl l.length per := by simp [zQ]
  rw [xA] at e4 e5
  rw [List.take_of_length_le (by omega)] at e5
  show (ldW _ _ _) w'
  refine zo (x := (A, yl l.length per, c)) e4 (by rfl) ?_
  dsimp only
  refine zO e4 (by simp) ?_
  have hset := e4.set 0 (.slice A (yl l.length per) c)
  refine jn (by rw [Below.heap_setCell _ _ _ _ (by simp only; omega)]; exact hd) ?_
  show (ldW _ _ _) _
  refine zo (x := (A, yl l.length per, c)) (show Blk _ r1 [.slice A (yl l.length per) c] 158 from (zL (by omega)).trans hset) (by rfl) ?_
  refine ⟨(A, yl l.length per, c), rfl, ?_, (e1.set (by simp only; omega) _).yr (by omega) _⟩
  have e6 := e5.grown (w' := w'.setCell ⟨r1, 0, none⟩ (.slice A (yl l.length per) c)) (row := some r1) ⟨rfl, rfl, rfl, by simp, fun k hk hne => Below.heap_setCell _ _ _ _ (fun e => hne (by rw [e]))⟩ (fun j hj he => by
   injection hj with hj
   have := e5.row _ he
   omega)
  have e7 : Owni xz 9 (yr (w'.setCell ⟨r1, 0, none⟩ (.slice A (yl l.length per) c)) w4.heap.size (.deferred none)) (w4.heap.size + 2) A (yl l.length per) c (zQ l per) :=
   e6.qh (zX (b := w4.heap.size) (.inl rfl)) (by omega) (by omega)
  exact e7.lower (by omega)
end V
/- Pages of counts, read again: plain. -/
namespace V
open Go
end V
/- Contracts of counts.Load and of the reference's counts. -/
namespace V
open Go Go.Proofs Go.RowKit
theorem zpn (a b : Nat) : Int.tdiv (a : Int) (b : Int) = ((a / b : Nat) : Int) := rfl
theorem zdo {size : Int} (hs : zT size 8 = true) : zC size = ((2 * zH size : Nat) : Int) := by
 unfold zH zC
 rw [if_pos hs]
 unfold zT at hs
 have hs := of_decide_eq_true hs
 have e : Int.tdiv (size - 16) 2 = (size - 16) / 2 := Int.tdiv_eq_ediv_of_nonneg (by omega)
 have e2 : Int.tmod size 64 = size % 64 := Int.tmod_eq_emod_of_nonneg (by omega)
 rw [e]
 omega
theorem zdp {size blocks : Int} (h : zT size blocks = true) : zT size 8 = true /\ ∃ n : Nat, blocks = n /\ 8 <= n /\ n <= 4096 := by
 unfold zT at h ⊢
 have h := of_decide_eq_true h
 exact ⟨decide_eq_true (by omega), blocks.toNat, by omega⟩
def spages (size blocks : Int) : Int := if zT size blocks then ((yl blocks.toNat (zH size) : Nat) : Int) else 0
theorem zgy (w : World) (size blocks : Int) : Calls Tryz.prog 115 #[.agg #[.int .i64 size, .int .i64 blocks]] w (Ret fun v w' => v = .int .i64 (spages size blocks) /\ Ext w w') := by
 apply zge
 unfold S115 spages
 apply yz
 have hb : Blk (w.alloc (.cells #[(.int .i64 size), (.int .i64 blocks)] 72)) w.heap.size [(.int .i64 size), (.int .i64 blocks)] 72 := Blk.new w _ _
 have he : Ext w (w.alloc (.cells #[(.int .i64 size), (.int .i64 blocks)] 72)) := (Ext.refl w).alloc _
 generalize w.alloc (.cells #[(.int .i64 size), (.int .i64 blocks)] 72) = w1 at hb he ⊢
 refine zau (ls := [(.int .i64), (.int .i64)]) (x := (size, blocks, ())) hb rfl ?_
 refine zb (qg w1 size blocks) ?_
 rintro _ w2 ⟨rfl, he2⟩
 refine ⟨_, rfl, ?_⟩
 have he02 := he.trans he2
 have hb2 := hb.ext he2
 cases hok : zT size blocks with
 | false => rw [if_neg (by simp), if_neg (by simp)]; exact zf (by rfl) ⟨rfl, he02⟩
 | true =>
  rw [if_pos rfl, if_pos rfl]
  refine zc (by rfl) ?_
  obtain ⟨h8, n, rfl, hn1, hn2⟩ := zdp hok
  refine zo (x := size) hb2 (by rfl) ?_
  refine zb (jf w2 size) ?_
  rintro _ w3 ⟨rfl, he3⟩
  refine ⟨_, rfl, ?_⟩
  refine yV (o := 1) (x := (n : Int)) (hb2.ext he3) (by rfl) ?_
  obtain ⟨hp1, hp2, _⟩ := jQ h8
  rw [zdo h8, Int.toNat_natCast]
  generalize zH size = per at hp1 hp2 ⊢
  refine zJ (by omega) ⟨?_, he02.trans he3⟩
  rw [wrap_i64 (x := (2 : Int) * (n : Int)) (by omega) (by omega), wrap_i64 (x := (2 : Int) * (n : Int) + ((2 * per : Nat) : Int)) (by omega) (by omega), wrap_i64 (x := (2 : Int) * (n : Int) + ((2 * per : Nat) : Int) - 1) (by omega) (by omega)]
  rw [show (2 : Int) * (n : Int) + ((2 * per : Nat) : Int) - 1 = ((2 * n + 2 * per - 1 : Nat) : Int) by omega, zpn]
  have e : (2 * n + 2 * per - 1) / (2 * per) = yl n per := by
   unfold yl
   rw [<- Nat.div_div_eq_div_mul]
   congr 1
   omega
  rw [e]
  have : yl n per <= n := by
   unfold yl
   rw [Nat.div_le_iff_le_mul_add_pred (by omega)]
   have : 1 * n <= per * n := Nat.mul_le_mul_right _ (by omega)
   omega
  rw [wrap_i64 (by omega) (by omega)]
end V
/- Contracts of the package super, and of the document's answer (11): pages, checks, blocks. -/
namespace V
open Go Go.Proofs Go.RowKit Crc
theorem zmT {ls : List Lf} {w : World} {b o : Nat} {cs rest : List Value} {t : TypeId} {K : LT ls -> WP} (x : LT ls) (h : Blk w b cs t) (hx : cs.drop o = LT.vals ls x ++ rest) (hK : K x w) : zk ls ((aD b).add o) K w := by
 refine qv (x := x) ?_ hK
 refine zaS (a := ⟨b, 0, none⟩) rfl (vs := LT.vals ls x) (o := o) ?_ _ 0 rfl
 intro j v hj
 rw [zz, h.cell, Nat.zero_add, <- List.getElem?_drop, hx, List.getElem?_append_left]
 ·exact hj
 ·exact (List.getElem?_eq_some_iff.1 hj).1
theorem zmU {l : Lf} {w : World} {b : Nat} {cs : List Value} {t : TypeId} {K : l.T -> WP} (x : l.T) (h : Blk w b cs t) (hx : cs[2]? = some (l.val x)) (hK : K x w) : ldW l (((aD b).add 1).add 1) K w := by
 rw [show (((aD b).add 1).add 1) = (aD b).add 2 by simp only [zz]]
 exact zn 2 x h hx hK
theorem zpo {w : World} {a : Addr} {v : Value} {K : WP} (h : w.cell? a = some v) (hK : K w) : zq [[(a, v)]] K w := by
 refine ⟨fun l hl p hp => ?_, hK⟩
 simp only [List.mem_singleton] at hl
 subst hl
 simp only [List.mem_singleton] at hp
 subst hp
 exact h
theorem zfM {w : World} {b o : Nat} {cs : List Value} {t : TypeId} {v : Value} {K : WP} (h : Blk w b cs t) (hv : cs[o]? = some v) (hK : K w) : zq [[((aD b).add o, v)]] K w :=
 zpo (by rw [zz, h.cell, Nat.zero_add]; exact hv) hK
abbrev sLs : List Lf := [.int .u64, .int .i64, .int .i64, .int .u32, .slc]
def sT (s : Sup) (x : SLC) : Int × Int × Int × Int × SLC × Unit := ((s.gen : Int), s.size, s.blocks, (s.root : Int), x, ())
def sV (s : Sup) (x : SLC) : List Value := [.int .u64 (s.gen : Int), .int .i64 s.size, .int .i64 s.blocks, .int .u32 (s.root : Int), .slice x.1 x.2.1 x.2.2]
theorem zoZ (s : Sup) (x : SLC) : ∀ v ∈ sV s x, v.oneCell' = true := by
 intro v hv
 simp only [sV, List.mem_cons, List.not_mem_nil, or_false] at hv
 rcases hv with rfl | rfl | rfl | rfl | rfl <;> rfl
structure Pg (w : World) (x : SLC) (ps : List Nat) : Prop where
 sl : Sli (zu .u32) w x.1 x.2.1 ps
 nc : x.2.1 <= x.2.2
theorem Pg.ext {w w' : World} {x : SLC} {ps : List Nat} (h : Pg w x ps) (he : Ext w w') : Pg w' x ps := ⟨h.sl.ext he, h.nc⟩
theorem Pg.len {w : World} {x : SLC} {ps : List Nat} (h : Pg w x ps) : ps.length = x.2.1 := h.sl.len
theorem zdq (w : World) (size blocks : Int) : Calls Tryz.prog 115 #[.agg #[.int .i64 size, .int .i64 blocks]] w (Ret fun v w' => v = .int .i64 (kD size blocks) /\ Ext w w') := by
 apply zge
 unfold S115 kD
 refine zr fun r1 w1 hb1 he1 _ _ => ?_
 refine zW (ls := [.int .i64, .int .i64]) (size, blocks, ()) hb1 rfl ?_
 refine zb (qg w1 size blocks) ?_
 rintro _ w2 ⟨rfl, he2⟩
 refine ⟨_, rfl, ?_⟩
 have hb1 := hb1.ext he2
 have he := he1.trans he2
 cases hg : zT size blocks with
 | false => exact zf (by rfl) ⟨rfl, he⟩
 | true =>
  obtain ⟨h0, h1, h2, h3, h4⟩ := xY hg
  refine zc (by rfl) ?_
  refine zE size hb1 (by rfl) ?_
  refine zb (jf w2 size) ?_
  rintro _ w3 ⟨rfl, he3⟩
  refine ⟨_, rfl, ?_⟩
  have hb1 := hb1.ext he3
  refine zn 1 blocks hb1 (by rfl) (zJ (by omega) ?_)
  rw [if_pos rfl]
  have hd : Int.tdiv (2 * blocks + zC size - 1) (zC size) = (2 * blocks + zC size - 1) / zC size := Int.tdiv_eq_ediv_of_nonneg (by omega)
  have hle := Int.ediv_le_self (a := 2 * blocks + zC size - 1) (zC size) (by omega)
  have h0' := Int.ediv_nonneg (a := 2 * blocks + zC size - 1) (b := zC size) (by omega) (by omega)
  rw [wrap_i64 (x := 2 * blocks) (by omega) (by omega), wrap_i64 (x := 2 * blocks + zC size) (by omega) (by omega), wrap_i64 (x := 2 * blocks + zC size - 1) (by omega) (by omega), hd, wrap_i64 (by omega) (by omega)]
  exact ⟨rfl, he.trans he3⟩
theorem zd8 {w : World} {b : Nat} {s : Sup} {x : SLC} {t : TypeId} {n : Nat} (hb : Blk w b (sV s x) t) (hn : n < 4294967296) (h0 : 0 <= s.blocks) (h1 : s.blocks < 9223372036854775808) :
  Calls Tryz.prog 161 #[.int .u32 (n : Int), .pointer (some ⟨b, 0, none⟩)] w (Ret fun v w' => v = .bool (vE s.blocks n) /\ w' = w) := by
 apply zlu
 unfold S161 vE
 refine zg (fun h => ?_) (fun h => ?_)
 ·have h := of_decide_eq_true h
  refine zmU s.blocks hb (by rfl) ?_
  obtain ⟨k, hk⟩ : ∃ k : Nat, s.blocks = k := ⟨s.blocks.toNat, by omega⟩
  rw [hk, zy (by omega), zy (by omega)]
  refine ⟨?_, rfl⟩
  congr 1
  exact decide_eq_decide.2 (by omega)
 ·have h := of_decide_eq_false h
  refine ⟨?_, rfl⟩
  congr 1
  exact (decide_eq_false (by omega)).symm
theorem zhy {w : World} {A : Option Addr} {n c : Nat} {xs : List Nat} {y : Nat} (h : Sli (zu .u32) w A n xs) :
  Calls Tryz.prog 164 #[.slice A n c, .int .u32 (y : Int)] w (Ret fun v w' => (∃ k : Int, v = .int .i64 k /\ (0 <= k ↔ y ∈ xs)) /\ w' = w) := by
 apply zlx
 unfold S164
 have hl := h.len
 have hle := h.le
 refine zx (fun z w' => ∃ i : Nat, i <= n /\ z = ((i : Int), ()) /\ w' = w /\ y ∉ xs.take i) (fun z => (n - z.1).toNat) ⟨0, by omega, rfl, rfl, by simp⟩ ?_
 rintro _ _ ⟨i, hi, rfl, rfl, hno⟩
 dsimp only
 by_cases hlt : i < n
 ·refine zf (decide_eq_true (by omega)) ?_
  refine zR h (by omega) (by omega) ?_
  rw [Int.toNat_natCast]
  have e : xs[i]? = some (xs.getD i 0) := by rw [List.getD_eq_getElem?_getD, List.getElem?_eq_getElem (by omega)]; rfl
  refine zg (fun hq => ?_) (fun hq => ?_)
  ·have hq := beq_iff_eq.1 hq
   refine ⟨⟨_, rfl, by constructor <;> intro _; · exact List.mem_of_getElem? (i := i) (by rw [e]; congr 1; omega)
                       ·omega⟩, rfl⟩
  ·have hq := beq_eq_false_iff_ne.1 hq
   refine ⟨⟨i + 1, by omega, by rw [wrap_i64 (by omega) (by omega)]; rfl, rfl, ?_⟩, by rw [wrap_i64 (by omega) (by omega)]; omega⟩
   rw [List.take_add_one, e]
   simp only [Option.toList_some, List.mem_append, List.mem_singleton]
   rintro (hh | hh)
   ·exact hno hh
   ·exact hq (by rw [hh])
 ·refine zc (decide_eq_false (by omega)) ?_
  refine ⟨⟨_, rfl, by constructor; · intro hh; omega
                      ·intro hh; rw [List.take_of_length_le (by omega)] at hno; exact absurd hh hno⟩, rfl⟩
theorem zaE {w : World} {A : Option Addr} {n c : Nat} {xs : List Nat} {y : Nat} (h : Sli (zu .u32) w A n xs) :
  Calls Tryz.prog 120 #[.slice A n c, .int .u32 (y : Int)] w (Ret fun v w' => v = .bool (decide (y ∈ xs)) /\ w' = w) := by
 apply zk9
 unfold S120
 refine zb (zhy (c := c) h) ?_
 rintro _ _ ⟨⟨k, rfl, hk⟩, rfl⟩
 refine ⟨k, rfl, ?_, rfl⟩
 congr 1
 exact decide_eq_decide.2 (by rw [<- hk])
theorem Sup.Fits.at_ {s : Sup} (h : s.Fits) (i : Nat) : s.pages.getD i 0 < 4294967296 := by
 by_cases hi : i < s.pages.length
 ·rw [List.getD_eq_getElem?_getD, List.getElem?_eq_getElem hi]
  exact h.pages _ (List.getElem_mem hi)
 ·rw [List.getD_eq_getElem?_getD, List.getElem?_eq_none (by omega)]
  show 0 < 4294967296
  decide
theorem zcU {w : World} {s : Sup} {x : SLC} (hf : s.Fits) (hp : Pg w x s.pages) :
  Calls Tryz.prog 117 #[.agg (sV s x).toArray] w (Ret fun v w' => v = .int .i64 (chk s) /\ Ext w w') := by
 apply zk6
 unfold S117
 have hlen := hp.len
 refine zr fun r1 w1 hb1 he1 _ _ => ?_
 have hb1 : Blk w1 r1 (sV s x) 79 := hb1
 have hp := hp.ext he1
 refine yB (fun _ w' => s.head /\ Ext w1 w') ?_ (fun J hJ => ?_)
 ·rintro _ w2 ⟨hh, he2⟩
  have hb1 := hb1.ext he2
  have hp := hp.ext he2
  have he2 := he1.trans he2
  obtain ⟨h0, h1, h2, h3, h4⟩ := xY hh.1
  have hpl := zi0 (size := s.size) (blocks := s.blocks)
  have hln : (s.pages.length : Int) <= 20000 := by have := hh.2.2.2; omega
  refine zn 4 x hb1 (by rfl) ?_
  refine zx (fun y w' => ∃ i : Nat, i <= x.2.1 /\ y = ((i : Int), ()) /\ Ext w2 w' /\ ∀ j, j < i -> s.good j) (fun y => (x.2.1 - y.1).toNat) ⟨0, by omega, rfl, Ext.refl w2, fun j hj => by omega⟩ ?_
  rintro _ w3 ⟨i, hi, rfl, he3, hgood⟩
  have hb1 := hb1.ext he3
  have hp := hp.ext he3
  have he3' := he2.trans he3
  dsimp only
  by_cases hlt : i < x.2.1
  ·refine zf (decide_eq_true (by omega)) ?_
   refine zR hp.sl (by omega) (by omega) ?_
   rw [Int.toNat_natCast]
   refine xT (by kernel_rfl) ?_
   refine zb (zd8 hb1 (hf.at_ i) (by omega) (by omega)) ?_
   rintro _ w4 ⟨rfl, hw⟩
   subst hw
   refine ⟨_, rfl, ?_⟩
   cases hpo : vE s.blocks (s.pages.getD i 0) with
   | false => exact zf (by rfl) ⟨by rw [zeG (s := s) (j := i) (by omega) (fun h => by rw [h.1] at hpo; cases hpo)], he3'⟩
   | true =>
    refine zc (by rfl) ?_
    refine zn 3 (s.root : Int) hb1 (by rfl) ?_
    refine zg (fun hq => ?_) (fun hq => ?_)
    ·have hq := beq_iff_eq.1 hq
     exact ⟨by rw [zeG (s := s) (j := i) (by omega) (fun h => h.2.1 (by omega))], he3'⟩
    have hq := beq_eq_false_iff_ne.1 hq
    refine zn 4 x hb1 (by rfl) (zJ ⟨by omega, by have := hp.nc; omega⟩ ?_)
    have hcut := hp.sl.zey (k := i) (m := x.2.2) (z := 1) rfl (by omega) (by have := hp.nc; omega)
    refine zb (zaE (c := x.2.2) hcut) ?_
    rintro _ w4 ⟨rfl, hw⟩
    subst hw
    refine ⟨_, rfl, ?_⟩
    by_cases hm : s.pages.getD i 0 ∈ s.pages.take i
    ·exact zf (decide_eq_true hm) ⟨by rw [zeG (s := s) (j := i) (by omega) (fun h => h.2.2 hm)], he3'⟩
    ·refine zc (decide_eq_false hm) ?_
     refine ⟨⟨i + 1, by omega, by rw [wrap_i64 (by omega) (by omega)]; rfl, he3, fun j hj => ?_⟩, by rw [wrap_i64 (by omega) (by omega)]; omega⟩
     by_cases hji : j = i
     ·subst hji; exact ⟨hpo, fun e => hq (by rw [e]), hm⟩
     ·exact hgood j (by omega)
  ·refine zc (decide_eq_false (by omega)) ?_
   refine zK fun w4 he4 _ _ => ?_
   have hb1 := hb1.ext he4
   have he4 := he3'.trans he4
   refine zn 4 x hb1 (by rfl) (zn 1 s.size hb1 (by rfl) ?_)
   refine zb (jf w4 s.size) ?_
   rintro _ w5 ⟨rfl, he5⟩
   refine ⟨_, rfl, ?_⟩
   have hb1 := hb1.ext he5
   refine zfM hb1 (by rfl) ?_
   rw [wrap_i64 (x := 4 * (x.2.1 : Int)) (by omega) (by omega), wrap_i64 (by omega) (by omega), zgs hh (fun j hj => hgood j (by omega)), hlen]
   refine zg (fun hq => ?_) (fun hq => ?_)
   ·rw [if_pos (of_decide_eq_true hq)]; exact ⟨rfl, he4.trans he5⟩
   ·rw [if_neg (of_decide_eq_false hq)]; exact ⟨rfl, he4.trans he5⟩
 ·have bad : ∀ {w' : World}, ¬ s.head -> Ext w w' -> (Value.int .i64 2 = .int .i64 (chk s) /\ Ext w w') := fun h he => ⟨by rw [zmm h], he⟩
  refine zK fun w2 he2 _ _ => ?_
  have hb1 := hb1.ext he2
  refine zmT (ls := [.int .i64, .int .i64]) (s.size, s.blocks, ()) hb1 (by rfl) ?_
  refine zb (qg w2 s.size s.blocks) ?_
  rintro _ w3 ⟨rfl, he3⟩
  refine ⟨_, rfl, ?_⟩
  have hb1 := hb1.ext he3
  have he3 := he2.trans he3
  cases hg : zT s.size s.blocks with
  | false => exact zf (by rfl) (bad (fun h => by rw [h.1] at hg; cases hg) (he1.trans he3))
  | true =>
   obtain ⟨h0, h1, h2, h3, h4⟩ := xY hg
   refine zc (by rfl) ?_
   refine zE (s.gen : Int) hb1 (by rfl) ?_
   refine zg (fun hq => ?_) (fun hq => ?_)
   ·exact bad (fun h => h.2.1 (by have := beq_iff_eq.1 hq; omega)) (he1.trans he3)
   have hgen := beq_eq_false_iff_ne.1 hq
   refine zn 3 (s.root : Int) hb1 (by rfl) ?_
   have last : ∀ {w' : World}, Blk w' r1 (sV s x) 79 -> Ext w1 w' -> (s.root = 0 \/ vE s.blocks s.root = true) ->
     (ldW .slc ((aD r1).add 4) fun (u : SLC) => zk [.int .i64, .int .i64] ((aD r1).add 1) fun (v : Int × Int × Unit) => ze Tryz.prog 115 [.agg #[.int .i64 v.1, .int .i64 v.2.1]] (.one (.one (.int .i64))) fun (z : Int) =>
      zq [[((aD r1).add 4, .slice u.1 u.2.1 u.2.2)]] <| za (((u.2.1 : Nat) : Int) != z) (fun w' => Value.int .i64 (2 : Int) = .int .i64 (chk s) /\ Ext w w') (J ())) w' := by
    intro w' hb1 he hr
    refine zn 4 x hb1 (by rfl) (zmT (ls := [.int .i64, .int .i64]) (s.size, s.blocks, ()) hb1 (by rfl) ?_)
    refine zb (zdq w' s.size s.blocks) ?_
    rintro _ w5 ⟨rfl, he5⟩
    refine ⟨_, rfl, ?_⟩
    refine zfM (hb1.ext he5) (by rfl) ?_
    refine zg (fun hq => ?_) (fun hq => ?_)
    ·exact bad (fun h => bne_iff_ne.1 hq (by rw [<- h.2.2.2, hlen])) ((he1.trans he).trans he5)
    ·have hq := bne_eq_false_iff_eq.1 hq
     exact hJ _ _ ⟨⟨hg, by omega, hr, by rw [hlen]; exact hq⟩, he.trans he5⟩
   refine zg (fun hq => ?_) (fun hq => ?_)
   ·refine zn 3 (s.root : Int) hb1 (by rfl) (xT (by kernel_rfl) ?_)
    refine zb (zd8 hb1 hf.root (by omega) (by omega)) ?_
    rintro _ w4 ⟨rfl, hw⟩
    subst hw
    refine ⟨_, rfl, ?_⟩
    cases hpo : vE s.blocks s.root with
    | false => exact zf (by rfl) (bad (fun h => by
      rcases h.2.2.1 with h | h
      ·exact bne_iff_ne.1 hq (by rw [h]; rfl)
      ·rw [h] at hpo; cases hpo) (he1.trans he3))
    | true => exact zc (by rfl) (last hb1 he3 (.inr hpo))
   ·have hq := bne_eq_false_iff_eq.1 hq
    exact last hb1 he3 (.inl (by omega))
theorem zcV {ps : List Nat} {i : Nat} (h : i < ps.length) : yo (ps.take (i + 1)) = yo (ps.take i) ++ le 4 (ps.getD i 0) := by
 have e : ps[i]? = some (ps.getD i 0) := by rw [List.getD_eq_getElem?_getD, List.getElem?_eq_getElem h]; rfl
 rw [List.take_add_one, e]
 simp [yo]
theorem zi4 {w : World} {s : Sup} {x : SLC} (hf : s.Fits) (hp : Pg w x s.pages) :
  Calls Tryz.prog 143 #[.agg (sV s x).toArray] w (Ret fun v w' => v = .tuple #[.string ⟨(xu s).1.toArray⟩, .int .i64 (xu s).2] /\ Ext w w') := by
 apply zlo
 unfold S143
 have hlen := hp.len
 refine zr fun r1 w1 hb1 he1 _ _ => ?_
 have hb1 : Blk w1 r1 (sV s x) 79 := hb1
 have hp := hp.ext he1
 refine zW (ls := sLs) (sT s x) hb1 rfl ?_
 refine zb (zcU hf hp) ?_
 rintro _ w2 ⟨rfl, he2⟩
 refine ⟨_, rfl, ?_⟩
 have hb1 := hb1.ext he2
 have hp := hp.ext he2
 have he2 := he1.trans he2
 refine zg (fun hq => ?_) (fun hq => ?_)
 ·rw [zgt (bne_iff_ne.1 hq)]; exact ⟨rfl, he2⟩
 have hc := bne_eq_false_iff_eq.1 hq
 obtain ⟨hh, hgd, h14⟩ := zaC hc
 obtain ⟨g0, g1, g2, g3, g4⟩ := xY hh.1
 have hroot := hf.root
 have hn : s.pages.length <= 4080 := by omega
 obtain ⟨sz, hsz⟩ : ∃ k : Nat, s.size = k := ⟨s.size.toNat, by omega⟩
 obtain ⟨nb, hnb⟩ : ∃ k : Nat, s.blocks = k := ⟨s.blocks.toNat, by omega⟩
 refine zn 1 s.size hb1 (by rfl) (zmU s.blocks hb1 (by rfl) (zn 3 (s.root : Int) hb1 (by rfl) ?_))
 rw [hsz, hnb, zy (by omega), zy (by omega), zy (by omega)]
 refine zr fun r7 w3 hb7 he3 _ _ => ?_
 have hb7 : Blk w3 r7 ((zu .u64).flat [sz, nb, s.root]) 42 := hb7
 have hs7 : Sli (zu .u64) w3 (some ⟨r7, 0, none⟩) 3 [sz, nb, s.root] := Sli.xJ hb7 rfl (by omega)
 have hb1 := hb1.ext he3
 have hp := hp.ext he3
 have he3 := he2.trans he3
 have hb3 := hb1
 have hp3 := hp
 have grow : ∀ {w' w'' : World} {A A' : Option Addr} {n c : Nat} {bs : List UInt8}, Ext w3 w' -> Own 5 w' w3.heap.size A n c (bV bs) -> Grew w' w'' (orow A) (orow A') -> Ext w3 w'' := fun he ho hg => he.grown hg.grown (fun j hj => ho.row' j hj)
 refine zx (fun y w' => ∃ i : Nat, i <= 3 /\ y.2.1 = (i : Int) /\ Own 5 w' w3.heap.size y.1.1 y.1.2.1 y.1.2.2 (bV (yo ([sz, nb, s.root].take i))) /\ Ext w3 w') (fun y => (3 - y.2.1).toNat) ⟨0, by omega, rfl, Own.nil _ _ _, Ext.refl _⟩ ?_
 rintro ⟨⟨A, n, c⟩, _, _⟩ w4 ⟨i, hi, hiy, ho, he4⟩
 dsimp only at hiy ho ⊢
 subst hiy
 have hs7 := hs7.ext he4
 have lo := ho.sl.blen
 rw [xk, List.length_take] at lo
 simp only [List.length_cons, List.length_nil] at lo
 by_cases hlt : i < 3
 ·refine zf (decide_eq_true (by omega)) ?_
  refine zR hs7 (by omega) (by omega) ?_
  rw [Int.toNat_natCast]
  have hv : [sz, nb, s.root].getD i 0 < 18446744073709551616 := by
   match i, hlt with
   | 0, _ => show sz < _; omega
   | 1, _ => show nb < _; omega
   | 2, _ => show s.root < _; omega
  refine zb (xe (k := 4) ho he4.size (by omega) hv (by omega) (by omega)) ?_
  rintro _ w5 ⟨⟨A5, n5, c5⟩, rfl, ho5, hg5⟩
  refine ⟨(A5, n5, c5), rfl, ?_⟩
  refine ⟨⟨i + 1, by omega, by rw [wrap_i64 (by omega) (by omega)]; rfl, ?_, grow he4 ho hg5⟩, by rw [wrap_i64 (by omega) (by omega)]; omega⟩
  have e : [sz, nb, s.root].take (i + 1) = [sz, nb, s.root].take i ++ [[sz, nb, s.root].getD i 0] := by
   match i, hlt with
   | 0, _ => rfl
   | 1, _ => rfl
   | 2, _ => rfl
  rw [e]
  have e2 : yo ([sz, nb, s.root].take i ++ [[sz, nb, s.root].getD i 0]) = yo ([sz, nb, s.root].take i) ++ le 4 ([sz, nb, s.root].getD i 0) := by simp [yo]
  rw [e2]
  exact ho5
 ·obtain rfl : i = 3 := by omega
  refine zc (decide_eq_false (by omega)) ?_
  have hb1 := hb1.ext he4
  have hp := hp.ext he4
  refine zn 4 x hb1 (by rfl) ?_
  rw [zy (by omega)]
  refine zb (xe (k := 2) ho he4.size (by omega) (by omega) (by omega) (by omega)) ?_
  rintro _ w5 ⟨⟨A5, n5, c5⟩, rfl, ho5, hg5⟩
  refine ⟨(A5, n5, c5), rfl, ?_⟩
  have he5 := grow he4 ho hg5
  dsimp only at ho5 ⊢
  have eh : yo ([sz, nb, s.root].take 3) ++ le 2 x.2.1 = za5 s := by
   unfold za5
   rw [hsz, hnb, hlen, Int.toNat_natCast, Int.toNat_natCast]
   simp [yo]
  rw [eh] at ho5
  have hb5 := hb3.ext he5
  refine zn 4 x hb5 (by rfl) ?_
  refine zx (fun y w' => ∃ i : Nat, i <= x.2.1 /\ y.2.1 = (i : Int) /\ Own 5 w' w3.heap.size y.1.1 y.1.2.1 y.1.2.2 (bV (za5 s ++ yo (s.pages.take i))) /\ Ext w3 w') (fun y => (x.2.1 - y.2.1).toNat) ⟨0, by omega, rfl, by simpa [yo] using ho5, he5⟩ ?_
  rintro ⟨⟨A6, n6, c6⟩, _, _⟩ w6 ⟨i, hi, hiy, ho6, he6⟩
  dsimp only at hiy ho6 ⊢
  subst hiy
  have l6 := ho6.sl.blen
  rw [List.length_append, zb1, xk, List.length_take] at l6
  have hp6 := hp3.ext he6
  by_cases hlt : i < x.2.1
  ·refine zf (decide_eq_true (by omega)) ?_
   refine zR hp6.sl (by omega) (by omega) ?_
   rw [Int.toNat_natCast]
   have hv := hf.at_ i
   rw [zy (by omega)]
   refine zb (xe (k := 4) ho6 he6.size (by omega) (by omega) (by omega) (by omega)) ?_
   rintro _ w7 ⟨⟨A7, n7, c7⟩, rfl, ho7, hg7⟩
   refine ⟨(A7, n7, c7), rfl, ?_⟩
   refine ⟨⟨i + 1, by omega, by rw [wrap_i64 (by omega) (by omega)]; rfl, ?_, grow he6 ho6 hg7⟩, by rw [wrap_i64 (by omega) (by omega)]; omega⟩
   rw [zcV (by omega), <- List.append_assoc]
   exact ho7
  ·obtain rfl : i = x.2.1 := by omega
   refine zc (decide_eq_false (by omega)) ?_
   rw [List.take_of_length_le (by omega)] at ho6
   have hb6 := hb3.ext he6
   refine zn 1 s.size hb6 (by rfl) (zE (s.gen : Int) hb6 (by rfl) ?_)
   refine qI (e := 5) (by kernel_rfl) (by kernel_rfl) (by kernel_rfl) ho6.sl ?_
   refine zb (za1 w6 s.size (f := vl s) hf.gen) ?_
   rintro _ w7 ⟨rfl, he7⟩
   refine ⟨(⟨(xl s.size (vl s)).1.toArray⟩, (xl s.size (vl s)).2, ()), rfl, ?_⟩
   unfold xu
   rw [if_pos hc]
   exact ⟨rfl, he3.trans (he6.trans he7)⟩
end V
/- Contracts of the package super: Get. -/
namespace V
open Go Go.Proofs Go.RowKit Crc
theorem zo0 {w : World} {t : TypeId} {s : Sup} {x : SLC} {K : Nat -> WP} {us : Array Value} (hu : us.size = 5) (hK : ∀ r w', Blk w' r (sV s x) t -> Ext w w' -> w.heap.size <= r -> K r w') :
  (zi (.cells #[(.int .u64 (0 : Int)), (.int .i64 (0 : Int)), (.int .i64 (0 : Int)), (.int .u32 (0 : Int)), (.slice none 0 0)] t) fun r => zd (us.size = 5) <| zt (aD r) (sV s x) (K r)) w :=
 yE (vs := sV s x) (by rfl) (zoZ s x) (fun r w' hb he hr => hK r w' hb he hr) hu
theorem zke (bs : List UInt8) : (rd bs 4).1 < 4294967296 := by
 unfold rd
 split
 ·show (0 : Nat) < 4294967296; decide
 ·exact zcv (by rw [List.length_take]; omega)
theorem jD : jN Tryz.prog 54 41 (.int .u32 0) 1 4 := ⟨by kernel_rfl, by kernel_rfl, by kernel_rfl⟩
theorem zfd (k : IntKind) (l : List Nat) : (zu k).flat l = l.map fun n : Nat => (.int k (n : Int) : Value) := by
 induction l with
 | nil => rfl
 | cons a r ih => rw [List.map_cons, <- ih]; rfl
theorem zmq (k : IntKind) (l : List Nat) (i v : Nat) : ((zu k).flat l).set i (.int k (v : Int)) = (zu k).flat (l.set i v) := by
 rw [zfd, zfd, List.map_set]
theorem zo1 (bs : List UInt8) : (rd bs 2).1 < 65536 := by
 unfold rd
 split
 ·show (0 : Nat) < 65536; decide
 ·have h := jw (bs.take 2)
  have h2 : (bs.take 2).length <= 2 := by rw [List.length_take]; omega
  have : 256 ^ (bs.take 2).length <= 256 ^ 2 := Nat.pow_le_pow_right (by omega) h2
  dsimp only
  omega
end V
/- Contracts of the document's answer (11): Get. -/
namespace V
open Go Go.Proofs Go.RowKit Crc
end V
/- Contracts of the package super and of the document's answer (11): Choose, Other, Same. -/
namespace V
open Go Go.Proofs Go.RowKit Crc
theorem Sli.grown {α : Type} {E : Enc α} {w w' : World} {A : Option Addr} {n : Nat} {xs : List α} {row : Option Nat} (h : Sli E w A n xs) (hg : w.grownBy w' row) (hr : ∀ a, A = some a -> some a.block ≠ row) : Sli E w' A n xs := by
 refine ⟨h.1, h.2.1, fun hn => ?_⟩
 obtain ⟨a, ha, hs, hc⟩ := h.2.2 hn
 refine ⟨a, ha, hs, fun j v hj => hg.cell (hc j v hj) ?_⟩
 have : (a.add j).block = a.block := by unfold Addr.add; split <;> rfl
 rw [this]
 exact hr a ha
end V
/- Spaces in memory. -/
namespace V
open Go Go.Proofs Go.RowKit Crc
theorem qK {l : Lf} {w : World} {b : Nat} {a : Addr} {cs : List Value} {t : TypeId} {K : l.T -> WP} (o : Nat) (x : l.T) (h : Blk w b cs t) (ha : a = ⟨b, o, none⟩) (hx : cs[o]? = some (l.val x)) (hK : K x w) : ldW l a K w := by
 subst ha
 exact zo h hx hK
abbrev MkL := Option (Nat × Nat)
def zi5 : MkL -> Option Addr
 | none => none
 | some a => some ⟨a.1, 0, none⟩
def zb6 : MkL -> List Nat
 | none => []
 | some a => [a.1, a.2]
def zi6 (w : World) (size : Int) : MkL -> Option (List Nat) -> Prop
 | none, none => True
 | some a, some l => ∃ q, Cnt w a.1 a.2 size q l
 | _, _ => False
theorem Cnt.only {F : Nat -> Prop} {w w' : World} {b r : Nat} {size : Int} {q : List Value} {l : List Nat} (h : Cnt w b r size q l) (k : Only F w w') (h1 : ¬ F b) (h2 : ¬ F r) : Cnt w' b r size q l := ⟨h.head.only k h1, h.row.only k h2, h.ne, h.len, h.fits⟩
theorem zi6.only {F : Nat -> Prop} {w w' : World} {size : Int} {m : MkL} {l : Option (List Nat)} (h : zi6 w size m l) (k : Only F w w') (hk : ∀ j ∈ zb6 m, ¬ F j) : zi6 w' size m l := by
 cases m with
 | none => cases l with
  | none => trivial
  | some _ => exact h.elim
 | some a => cases l with
  | none => exact h.elim
  | some l =>
   obtain ⟨q, h⟩ := h
   exact ⟨q, h.only k (hk _ (by simp [zb6])) (hk _ (by simp [zb6]))⟩
theorem Sli.only {α : Type} {E : Enc α} {F : Nat -> Prop} {w w' : World} {A : Option Addr} {n : Nat} {xs : List α} (h : Sli E w A n xs) (k : Only F w w') (hr : ∀ a, A = some a -> ¬ F a.block) : Sli E w' A n xs := by
 refine ⟨h.1, h.2.1, fun hn => ?_⟩
 obtain ⟨a, e1, e2, e3⟩ := h.2.2 hn
 refine ⟨a, e1, e2, fun j v hj => ?_⟩
 have hc := e3 j v hj
 have hab : (a.add j).block = a.block := by unfold Addr.add; split <;> rfl
 have hlt := World.block_lt_of_cell? w _ hc
 unfold World.cell? at hc ⊢
 rw [k.2.2.2.2 _ hlt (by rw [hab]; exact hr a e1)]
 exact hc
def zae (x : SLC) : List Nat := (x.1.map fun a => a.block).toList
def yJ (b hb hr nb nr : Nat) (x : SLC) (m : MkL) : List Nat := b :: hb :: hr :: nb :: nr :: (zae x ++ zb6 m)
def spV (db : Nat) (s : Sup) (x : SLC) (slot : Int) (hb nb : Nat) (m : MkL) : List Value :=
 [.pointer (some ⟨db, 0, none⟩), .int .u64 (s.gen : Int), .int .i64 s.size, .int .i64 s.blocks, .int .u32 (s.root : Int), .slice x.1 x.2.1 x.2.2, .int .i64 slot, .pointer (some ⟨hb, 0, none⟩), .pointer (some ⟨nb, 0, none⟩), .pointer (zi5 m)]
structure Spa.Ok (S : Spa) : Prop where
 size : S.sup.size = S.dev.size
 blocks : S.sup.blocks = S.dev.blocks
 fits : S.sup.Fits
 held : S.held.length = S.N
 now : S.now.length = S.N
 mark : ∀ l, S.mark = some l -> l.length = S.N
structure SpM (w : World) (b db : Nat) (S : Spa) (F Fd : Nat -> Prop) (x : SLC) (hb hr nb nr : Nat) (m : MkL) : Prop where
 box : ∃ t, Blk w b (spV db S.sup x S.slot hb nb m) t
 dev : xb w db S.dev Fd
 pgs : Pg w x S.sup.pages
 heldC : ∃ q, Cnt w hb hr S.sup.size q S.held
 nowC : ∃ q, Cnt w nb nr S.sup.size q S.now
 markC : zi6 w S.sup.size m S.mark
 own : ∀ k, F k ↔ Fd k \/ k ∈ yJ b hb hr nb nr x m
 nodup : (yJ b hb hr nb nr x m).Nodup
 apart : ∀ k ∈ yJ b hb hr nb nr x m, ¬ Fd k
 rowlt : ∀ k ∈ zae x, k < w.heap.size
 ok : S.Ok
variable {w w' : World} {b db : Nat} {S : Spa} {F Fd : Nat -> Prop} {x : SLC} {hb hr nb nr : Nat} {m : MkL}
theorem SpM.lt (h : SpM w b db S F Fd x hb hr nb nr m) : ∀ k, F k -> k < w.heap.size := by
 intro k hk
 rcases (h.own k).1 hk with hk | hk
 ·exact h.dev.lt k hk
 obtain ⟨t, hbx⟩ := h.box
 obtain ⟨q1, c1⟩ := h.heldC
 obtain ⟨q2, c2⟩ := h.nowC
 simp only [yJ, List.mem_cons, List.mem_append] at hk
 rcases hk with rfl | rfl | rfl | rfl | rfl | hk | hk
 ·exact hbx.lt
 ·exact c1.head.lt
 ·exact c1.row.lt
 ·exact c2.head.lt
 ·exact c2.row.lt
 ·exact h.rowlt k hk
 ·have hm := h.markC
  cases m with
  | none => cases hk
  | some a =>
   cases hS : S.mark with
   | none => rw [hS] at hm; exact hm.elim
   | some l =>
    rw [hS] at hm
    obtain ⟨q, hm⟩ := hm
    simp only [zb6, List.mem_cons, List.not_mem_nil, or_false] at hk
    rcases hk with rfl | rfl
    ·exact hm.head.lt
    ·exact hm.row.lt
theorem SpM.only {G : Nat -> Prop} (h : SpM w b db S F Fd x hb hr nb nr m) (k : Only G w w') (hFG : ∀ j, F j -> ¬ G j) : SpM w' b db S F Fd x hb hr nb nr m := by
 have hF : ∀ j ∈ yJ b hb hr nb nr x m, ¬ G j := fun j hj => hFG j ((h.own j).2 (.inr hj))
 obtain ⟨t, hbx⟩ := h.box
 obtain ⟨q1, c1⟩ := h.heldC
 obtain ⟨q2, c2⟩ := h.nowC
 refine ⟨⟨t, hbx.only k (hF b (by simp [yJ]))⟩, h.dev.apart k (fun j hj => hFG j ((h.own j).2 (.inl hj))), ⟨h.pgs.sl.only k (fun a ha => hF _ (by simp [yJ, zae, ha])), h.pgs.nc⟩, ⟨q1, c1.only k (hF _ (by simp [yJ])) (hF _ (by simp [yJ]))⟩,
  ⟨q2, c2.only k (hF _ (by simp [yJ])) (hF _ (by simp [yJ]))⟩, h.markC.only k (fun j hj => hF j (by simp [yJ, hj])), h.own, h.nodup, h.apart, fun j hj => Nat.lt_of_lt_of_le (h.rowlt j hj) k.2.2.2.1, h.ok⟩
theorem SpM.ext (h : SpM w b db S F Fd x hb hr nb nr m) (he : Ext w w') : SpM w' b db S F Fd x hb hr nb nr m :=
 h.only (G := fun _ => False) (Only.zG he) (fun _ _ h => h)
theorem SpM.j7 {l : List Nat} {q : List Value} (h : SpM w b db S F Fd x hb hr nb nr m) (hg : w.grownBy w' (some nr)) (hc : Cnt w' nb nr S.sup.size q l) (hl : l.length = S.now.length) :
  SpM w' b db { S with now := l } F Fd x hb hr nb nr m := by
 have hnd := h.nodup
 have hO : Only (fun k => k = nr) w w' := Only.z7 hg (fun j hj => .inl (by injection hj with hj; exact hj.symm))
 have hne : ∀ j ∈ yJ b hb hr nb nr x m, j ≠ nr -> ¬ (fun k => k = nr) j := fun j _ h => h
 simp only [yJ, List.nodup_cons, List.mem_cons, not_or] at hnd
 obtain ⟨⟨h1, h2, h3, h4, h5⟩, ⟨h6, h7, h8, h9⟩, ⟨h10, h11, h12⟩, ⟨h13, h14⟩, h15, h16⟩ := hnd
 obtain ⟨t, hbx⟩ := h.box
 obtain ⟨q1, c1⟩ := h.heldC
 refine ⟨⟨t, hbx.only hO h4⟩, h.dev.apart hO (fun j hj e => h.apart nr (by simp [yJ]) (by rw [<- show j = nr from e]; exact hj)), ⟨h.pgs.sl.only hO (fun a ha e => h15 (List.mem_append_left _ (by rw [<- show a.block = nr from e]; simp [zae, ha]))), h.pgs.nc⟩,
  ⟨q1, c1.only hO h8 h11⟩, ⟨q, hc⟩, h.markC.only hO (fun j hj e => h15 (List.mem_append_right _ (by rw [<- show j = nr from e]; exact hj))), h.own, h.nodup, h.apart, fun j hj => Nat.lt_of_lt_of_le (h.rowlt j hj) hg.size, ⟨h.ok.size, h.ok.blocks, h.ok.fits, h.ok.held, hl.trans h.ok.now, h.ok.mark⟩⟩
theorem SpM.zo2 {d' : Dev} (h : SpM w b db S F Fd x hb hr nb nr m) (hst : Step w db Fd d' w') (hd : d'.size = S.dev.size /\ d'.blocks = S.dev.blocks) :
  ∃ F' Fd', SpM w' b db { S with dev := d' } F' Fd' x hb hr nb nr m /\ (∀ k, F' k -> F k \/ w.heap.size <= k) /\ Only F w w' := by
 obtain ⟨Fd', hD, hF, hO⟩ := hst
 have hap := h.apart
 have hlt := h.lt
 have hin : ∀ j ∈ yJ b hb hr nb nr x m, F j := fun j hj => (h.own j).2 (.inr hj)
 obtain ⟨t, hbx⟩ := h.box
 obtain ⟨q1, c1⟩ := h.heldC
 obtain ⟨q2, c2⟩ := h.nowC
 refine ⟨fun k => Fd' k \/ k ∈ yJ b hb hr nb nr x m, Fd', ⟨⟨t, hbx.only hO (hap b (by simp [yJ]))⟩, hD, ⟨h.pgs.sl.only hO (fun a ha => hap _ (by simp [yJ, zae, ha])), h.pgs.nc⟩, ⟨q1, c1.only hO (hap _ (by simp [yJ])) (hap _ (by simp [yJ]))⟩,
  ⟨q2, c2.only hO (hap _ (by simp [yJ])) (hap _ (by simp [yJ]))⟩, h.markC.only hO (fun j hj => hap j (by simp [yJ, hj])), fun _ => Iff.rfl, h.nodup, fun j hj hf => ?_, fun j hj => Nat.lt_of_lt_of_le (h.rowlt j hj) hO.2.2.2.1, ⟨h.ok.size.trans hd.1.symm, h.ok.blocks.trans hd.2.symm, h.ok.fits, h.ok.held, h.ok.now, h.ok.mark⟩⟩, ?_, ?_⟩
 ·rcases hF j hf with x | x
  ·exact hap j hj x
  ·have := hlt j (hin j hj); omega
 ·rintro j (hj | hj)
  ·rcases hF j hj with x | x
   ·exact .inl ((h.own j).2 (.inl x))
   ·exact .inr x
  ·exact .inl (hin j hj)
 ·obtain ⟨o1, o2, o3, o4, o5⟩ := hO
  exact ⟨o1, o2, o3, o4, fun j hj hf => o5 j hj (fun e => hf ((h.own j).2 (.inl e)))⟩
def ya (w : World) (b db : Nat) (S : Spa) (F : Nat -> Prop) : Prop := ∃ Fd x hb hr nb nr m, SpM w b db S F Fd x hb hr nb nr m
def yx (w : World) (b db : Nat) (F : Nat -> Prop) (S' : Spa) (w' : World) : Prop := ∃ F', ya w' b db S' F' /\ (∀ k, F' k -> F k \/ w.heap.size <= k) /\ Only F w w'
theorem SpM.zeJ (h : SpM w b db S F Fd x hb hr nb nr m) : ya w b db S F := ⟨Fd, x, hb, hr, nb, nr, m, h⟩
theorem ya.ext (h : ya w b db S F) (he : Ext w w') : ya w' b db S F := by
 obtain ⟨Fd, x, hb, hr, nb, nr, m, h⟩ := h
 exact ⟨Fd, x, hb, hr, nb, nr, m, h.ext he⟩
theorem ya.lt (h : ya w b db S F) : ∀ k, F k -> k < w.heap.size := by
 obtain ⟨Fd, x, hb, hr, nb, nr, m, h⟩ := h
 exact h.lt
theorem ya.only {G : Nat -> Prop} (h : ya w b db S F) (k : Only G w w') (hFG : ∀ j, F j -> ¬ G j) : ya w' b db S F := by
 obtain ⟨Fd, x, hb, hr, nb, nr, m, h⟩ := h
 exact ⟨Fd, x, hb, hr, nb, nr, m, h.only k hFG⟩
theorem yx.ext (h : ya w b db S F) (he : Ext w w') : yx w b db F S w' := ⟨F, h.ext he, fun k hk => .inl hk, Only.zG he⟩
theorem yx.trans {w0 : World} {F' : Nat -> Prop} {S' : Spa} (hO : Only F w0 w) (hF : ∀ k, F' k -> F k \/ w0.heap.size <= k) (h : yx w b db F' S' w') : yx w0 b db F S' w' := by
 obtain ⟨F2, h1, h2, h3⟩ := h
 refine ⟨F2, h1, fun k hk => ?_, Only.trans hO h3 hF⟩
 rcases h2 k hk with x | x
 ·exact hF k x
 ·exact .inr (Nat.le_trans hO.2.2.2.1 x)
end V
/- Contracts of the package catalog: Check. -/
namespace V
open Go Go.Proofs Go.RowKit Crc
abbrev Raw := ByteArray × SLC × Nat × Nat × Int
def yi : Raw := (ByteArray.empty, (none, 0, 0), 0, 0, 0)
def zS : Ent := (ByteArray.empty, [], 0, 0, 0)
def yb : Snp := (ByteArray.empty, 0)
def yn : Enc Raw where
 k := 5
 f e := [.string e.1, .slice e.2.1.1 e.2.1.2.1 e.2.1.2.2, .int .u32 (e.2.2.1 : Int), .int .u64 (e.2.2.2.1 : Int), .int .i64 e.2.2.2.2]
 len _ := rfl
 one _ := by
  intro v hv
  simp only [List.mem_cons, List.not_mem_nil, or_false] at hv
  rcases hv with rfl | rfl | rfl | rfl | rfl <;> rfl
 pos := by decide
def xv : Enc Snp where
 k := 2
 f e := [.string e.1, .int .u32 (e.2 : Int)]
 len _ := rfl
 one _ := by
  intro v hv
  simp only [List.mem_cons, List.not_mem_nil, or_false] at hv
  rcases hv with rfl | rfl <;> rfl
 pos := by decide
abbrev zd9 : List Lf := [.str, .slc, .int .u32, .int .u64, .int .i64]
def za7 (e : Raw) : ByteArray × SLC × Int × Int × Int × Unit := (e.1, e.2.1, (e.2.2.1 : Int), (e.2.2.2.1 : Int), e.2.2.2.2, ())
abbrev zfN : List Lf := [.str, .int .u32]
def zdr (e : Snp) : ByteArray × Int × Unit := (e.1, (e.2 : Int), ())
structure zcx (w : World) (r : Raw) (e : Ent) : Prop where
 name : r.1 = e.1
 rest : r.2.2 = e.2.2
 cols : Sli xM w r.2.1.1 r.2.1.2.1 e.2.1
 cap : r.2.1.2.1 <= r.2.1.2.2
theorem zcx.ext {w w' : World} {r : Raw} {e : Ent} (h : zcx w r e) (he : Ext w w') : zcx w' r e := ⟨h.name, h.rest, h.cols.ext he, h.cap⟩
structure uF (w : World) (x : SLC) (raws : List Raw) (es : List Ent) : Prop where
 sl : Sli yn w x.1 x.2.1 raws
 len : raws.length = es.length
 at_ : ∀ i, i < es.length -> zcx w (raws.getD i yi) (es.getD i zS)
theorem uF.ext {w w' : World} {x : SLC} {raws : List Raw} {es : List Ent} (h : uF w x raws es) (he : Ext w w') : uF w' x raws es := ⟨h.sl.ext he, h.len, fun i hi => (h.at_ i hi).ext he⟩
def qA (w : World) (x y : SLC) (c : Cat) : Prop := (∃ raws, uF w x raws c.1) /\ Sli xv w y.1 y.2.1 c.2 /\ x.2.1 <= x.2.2 /\ y.2.1 <= y.2.2
theorem qA.ext {w w' : World} {x y : SLC} {c : Cat} (h : qA w x y c) (he : Ext w w') : qA w' x y c := by
 obtain ⟨⟨raws, h1⟩, h2, h3⟩ := h
 exact ⟨⟨raws, h1.ext he⟩, h2.ext he, h3⟩
def zY (x y : SLC) : List Value := [.slice x.1 x.2.1 x.2.2, .slice y.1 y.2.1 y.2.2]
theorem qk (x y : SLC) : ∀ v ∈ zY x y, v.oneCell' = true := by
 intro v hv
 simp only [zY, List.mem_cons, List.not_mem_nil, or_false] at hv
 rcases hv with rfl | rfl <;> rfl
abbrev xV : List Lf := [.slc, .slc]
def xZ (x y : SLC) : SLC × SLC × Unit := (x, y, ())
theorem zbu : ∀ a b : List UInt8, Op.bytesLess a b = ltB a b
 | _, [] => by cases ‹List UInt8› <;> rfl
 | [], _ :: _ => rfl
 | x :: a, y :: b => by
  rw [Op.bytesLess, ltB, zbu a b]
  congr 1
theorem zgz (a b : ByteArray) : Op.bytesLess a.toList b.toList = ltB (B a) (B b) := by
 rw [ByteArray.toList_eq, ByteArray.toList_eq, zbu]
 rfl
theorem zaf {α : Type} {f : α -> ByteArray} : ∀ {l : List α} {i : Nat} {x y : α}, l[i]? = some x -> l[i + 1]? = some y -> yC f (l.take (i + 2)) = (yC f (l.take (i + 1)) && ltB (B (f x)) (B (f y)))
 | [], _, _, _, h, _ => by simp at h
 | [a], i, x, y, h, h2 => by simp at h2
 | a :: c :: r, 0, x, y, h, h2 => by
  simp only [List.getElem?_cons_zero, List.getElem?_cons_succ, Option.some.injEq] at h h2
  subst h h2
  simp [yC]
 | a :: c :: r, i + 1, x, y, h, h2 => by
  have ih := zaf (f := f) (l := c :: r) (i := i) (x := x) (y := y) (by simpa using h) (by simpa using h2)
  simp only [List.take_succ_cons, yC] at ih ⊢
  rw [ih, Bool.and_assoc]
theorem zds (s : ByteArray) : zeC s = true ↔ yT (B s) = 0 := by unfold zeC; rw [decide_eq_true_iff]
theorem zb7 {α : Type} {f : α -> ByteArray} {l : List α} {x : α} (h : x ∈ l) (hx : yT (B (f x)) ≠ 0) : yu f l = false := by
 cases hq : yu f l with
 | false => rfl
 | true =>
  unfold yu at hq
  rw [Bool.and_eq_true, List.all_eq_true] at hq
  exact absurd ((zds _).1 (hq.1 x h)) hx
theorem za8 {α : Type} {f : α -> ByteArray} : ∀ {l : List α} (n : Nat), yC f l = true -> yC f (l.take n) = true
 | [], n, _ => by simp [yC]
 | [a], n, _ => by cases n <;> simp [yC]
 | a :: c :: r, 0, _ => rfl
 | a :: c :: r, 1, _ => rfl
 | a :: c :: r, n + 2, h => by
  simp only [yC, Bool.and_eq_true] at h
  have ih := za8 (f := f) (l := c :: r) (n + 1) h.2
  simp only [List.take_succ_cons, yC, Bool.and_eq_true] at ih ⊢
  exact ⟨h.1, ih⟩
variable {w : World}
theorem zag {r : Raw} : Calls Tryz.prog 58 #[.agg (yn.f r).toArray] w (Ret fun v w' => v = .string r.1 /\ Ext w w') := by
 apply znE
 unfold S58
 refine zr fun r1 w1 hb1 he1 hr1 hz1 => ?_
 exact zE r.1 hb1 (by rfl) ⟨rfl, he1⟩
theorem zah {r : Snp} : Calls Tryz.prog 60 #[.agg (xv.f r).toArray] w (Ret fun v w' => v = .string r.1 /\ Ext w w') := by
 apply znG
 unfold S60
 refine zr fun r1 w1 hb1 he1 hr1 hz1 => ?_
 exact zE r.1 hb1 (by rfl) ⟨rfl, he1⟩
theorem zfC {x : SLC} {l : List Raw} (h : Sli yn w x.1 x.2.1 l) : Calls Tryz.prog 57 #[.slice x.1 x.2.1 x.2.2, .func (.func 58) #[] #[]] w (Ret fun v w' => v = .bool (yu (fun e : Raw => e.1) l) /\ Ext w w') := by
 have hl := h.len
 have hle := h.le
 apply znD
 unfold S57
 refine zx (fun q w' => ∃ i : Nat, i <= l.length /\ q = ((i : Int), ()) /\ Ext w w' /\ (∀ e ∈ l.take i, yT (B e.1) = 0) /\ yC (fun e : Raw => e.1) (l.take i) = true) (fun q => (l.length - q.1).toNat) ⟨0, by omega, rfl, Ext.refl w, by simp, rfl⟩ ?_
 rintro _ w1 ⟨i, hi, rfl, he1, hn, hr⟩
 dsimp only
 by_cases hlt : i < l.length
 ·refine zf (decide_eq_true (by omega)) ?_
  refine vS (E := yn) za7 yi (h.ext he1) (fun _ => rfl) rfl (by omega) (by omega) ?_
  rw [Int.toNat_natCast]
  have eg : l[i]? = some (l.getD i yi) := by rw [List.getD_eq_getElem?_getD, List.getElem?_eq_getElem hlt]; rfl
  have hmem := List.mem_of_getElem? eg
  have htk : l.take (i + 1) = l.take i ++ [l.getD i yi] := by rw [List.take_succ_eq_append_getElem hlt, List.getD_eq_getElem?_getD, List.getElem?_eq_getElem hlt]; rfl
  refine yE (vs := yn.f (l.getD i yi)) (by rfl) (yn.one _) (fun r5 w2 hb2 he2 hr2 => ?_) (by rfl)
  refine zK fun w3 he3 hz3 hh3 => ?_
  have hb3 := hb2.ext he3
  refine zW (ls := zd9) (za7 (l.getD i yi)) hb3 (by rfl) ?_
  refine xT (by kernel_rfl) ?_
  refine zb zag ?_
  rintro _ w4 ⟨rfl, he4⟩
  refine ⟨_, rfl, ?_⟩
  refine zb (zaX w4 _) ?_
  rintro _ w5 ⟨rfl, he5⟩
  refine ⟨_, rfl, ?_⟩
  have he35 := he4.trans he5
  have he05 := ((he1.trans he2).trans he3).trans he35
  refine zg (fun hq => ?_) (fun hq => ?_)
  ·have hq := bne_iff_ne.1 hq
   exact ⟨by rw [zb7 hmem hq], he05⟩
  have hq := bne_eq_false_iff_eq.1 hq
  have hn' : ∀ e ∈ l.take (i + 1), yT (B e.1) = 0 := fun e he => by
   rw [htk] at he
   rcases List.mem_append.1 he with e1 | e1
   ·exact hn e e1
   ·rw [List.mem_singleton.1 e1]; exact hq
  have hw : IntKind.wrap .i64 ((i : Int) + 1) = ((i + 1 : Nat) : Int) := by rw [wrap_i64 (by omega) (by omega)]; rfl
  rw [hw]
  by_cases h0 : i = 0
  ·subst h0
   refine zc (by rfl) ?_
   refine ⟨⟨1, by omega, rfl, he05, hn', ?_⟩, by omega⟩
   rw [htk]; rfl
  ·refine zf (decide_eq_true (by omega)) ?_
   rw [show IntKind.wrap .i64 ((i : Int) - 1) = ((i - 1 : Nat) : Int) by rw [wrap_i64 (by omega) (by omega)]; omega]
   refine vS (E := yn) za7 yi (h.ext he05) (fun _ => rfl) rfl (by omega) (by omega) ?_
   rw [Int.toNat_natCast]
   have hb5 := hb3.ext he35
   refine zW (ls := zd9) (za7 (l.getD i yi)) hb5 (by rfl) ?_
   refine xT (by kernel_rfl) ?_
   refine zb (zag (r := l.getD (i - 1) yi)) ?_
   rintro _ w6 ⟨rfl, he6⟩
   refine ⟨_, rfl, ?_⟩
   have hb6 := hb5.ext he6
   refine xC (fun p hp => ?_) ?_
   ·simp only [List.mem_cons, List.not_mem_nil, or_false] at hp
    rcases hp with rfl | rfl | rfl | rfl | rfl <;> simp only [zz, hb6.cell] <;> rfl
   refine xT (by kernel_rfl) ?_
   refine zb (zag (r := l.getD i yi)) ?_
   rintro _ w7 ⟨rfl, he7⟩
   refine ⟨_, rfl, ?_⟩
   have he07 := (he05.trans he6).trans he7
   rw [zgz]
   have eg1 : l[i - 1]? = some (l.getD (i - 1) yi) := by rw [List.getD_eq_getElem?_getD, List.getElem?_eq_getElem (by omega)]; rfl
   have hst := zaf (f := fun e : Raw => e.1) eg1 (by rw [show i - 1 + 1 = i by omega]; exact eg)
   rw [show i - 1 + 2 = i + 1 by omega, show i - 1 + 1 = i by omega, hr, Bool.true_and] at hst
   refine zg (fun hq2 => ?_) (fun hq2 => ?_)
   ·refine ⟨?_, he07⟩
    have hq2 : ltB (B (l.getD (i - 1) yi).1) (B (l.getD i yi).1) = false := by simpa using hq2
    have : yu (fun e : Raw => e.1) l = false := by
     cases hz : yu (fun e : Raw => e.1) l with
     | false => rfl
     | true =>
      unfold yu at hz
      rw [Bool.and_eq_true] at hz
      have := za8 (i + 1) hz.2
      rw [hst, hq2] at this
      cases this
    rw [this]
   ·have hq2 : ltB (B (l.getD (i - 1) yi).1) (B (l.getD i yi).1) = true := by simpa using hq2
    exact ⟨⟨i + 1, by omega, rfl, he07, hn', by rw [hst, hq2]⟩, by omega⟩
 ·obtain rfl : i = l.length := by omega
  refine zc (decide_eq_false (by omega)) ?_
  rw [List.take_of_length_le (by omega)] at hn hr
  refine ⟨?_, he1⟩
  have : yu (fun e : Raw => e.1) l = true := by
   unfold yu
   rw [hr, Bool.and_true, List.all_eq_true]
   exact fun e he => (zds _).2 (hn e he)
  rw [this]
end V
/- Catalogs that came in, opened. -/
set_option maxRecDepth 100000
namespace V
open Go Go.ChangeShapes Go.WideShapes Go.ChangeAt Go.RowKit Go.Deep Go.Proofs
section
variable {H : Type} {enc : TypeId × Value -> H} {w : World} {base : Nat} {held : Bool}
def zmr (w : World) (r : Raw) : Prop := (∃ cols : List Col, Sli xM w r.2.1.1 r.2.1.2.1 cols /\ ∀ c ∈ cols, (B c.1).length <= 9223372036854775807) /\ r.2.1.2.1 <= r.2.1.2.2 /\ r.1.size <= 9223372036854775807 /\ r.2.2.1 < 4294967296 /\ r.2.2.2.1 < 18446744073709551616 /\ -9223372036854775808 <= r.2.2.2.2 /\ r.2.2.2.2 < 9223372036854775808
theorem zol {n : Nat} {cs : List Value} {x : DataW H × List MemPlace} (h : DataW.trod enc Tryz.prog w base (fun _ => true) held n 44 cs = some x) : ∃ r : Raw, yn.f r = cs /\ zmr w r := by
 obtain ⟨hl, m0, y0, h0⟩ := qw 0 0 1 9 (by kernel_rfl) (by kernel_rfl) h
 obtain ⟨_, m1, y1, h1⟩ := qw 1 1 1 40 (by kernel_rfl) (by kernel_rfl) h
 obtain ⟨_, m2, y2, h2⟩ := qw 2 2 1 41 (by kernel_rfl) (by kernel_rfl) h
 obtain ⟨_, m3, y3, h3⟩ := qw 3 3 1 42 (by kernel_rfl) (by kernel_rfl) h
 obtain ⟨_, m4, y4, h4⟩ := qw 4 4 1 3 (by kernel_rfl) (by kernel_rfl) h
 have hl5 : cs.length = 5 := hl.trans (by kernel_rfl)
 match cs, hl5 with
 | [a, b, c, d, e], _ =>
  obtain ⟨s, hs, hsl⟩ := vR (by kernel_rfl) h0
  obtain ⟨A, k, cc, xs, hz1, hxs, hnc, hq⟩ := zaV (e := 62) (E := xM) (Q := fun c => (B c.1).length <= 9223372036854775807) (by kernel_rfl) (by kernel_rfl) (fun n cs x h => zoa h) h1
  obtain ⟨z2, hz2, hw2⟩ := zav (k := .u32) (by kernel_rfl) h2
  obtain ⟨z3, hz3, hw3⟩ := zav (k := .u64) (by kernel_rfl) h3
  obtain ⟨z4, hz4, hw4⟩ := zav (k := .i64) (by kernel_rfl) h4
  have g2 := zh6 hw2
  have g3 := znc hw3
  have g4 := znd hw4
  cases hs; cases hz1; cases hz2; cases hz3; cases hz4
  refine ⟨(s, (A, k, cc), z2.toNat, z3.toNat, z4), ?_, ⟨xs, hxs, hq⟩, hnc, by simpa [maxLen] using hsl, by dsimp only; omega, by dsimp only; omega, g4⟩
  show [Value.string s, Value.slice A k cc, Value.int .u32 ((z2.toNat : Nat) : Int), Value.int .u64 ((z3.toNat : Nat) : Int), Value.int .i64 z4] = _
  rw [show ((z2.toNat : Nat) : Int) = z2 by omega, show ((z3.toNat : Nat) : Int) = z3 by omega]
theorem zom {n : Nat} {cs : List Value} {x : DataW H × List MemPlace} (h : DataW.trod enc Tryz.prog w base (fun _ => true) held n 46 cs = some x) : ∃ s : Snp, xv.f s = cs /\ s.1.size <= 9223372036854775807 /\ s.2 < 4294967296 := by
 obtain ⟨hl, m0, y0, h0⟩ := qw 0 0 1 9 (by kernel_rfl) (by kernel_rfl) h
 obtain ⟨_, m1, y1, h1⟩ := qw 1 1 1 41 (by kernel_rfl) (by kernel_rfl) h
 have hl2 : cs.length = 2 := hl.trans (by kernel_rfl)
 match cs, hl2 with
 | [a, b], _ =>
  obtain ⟨s, hs, hsl⟩ := vR (by kernel_rfl) h0
  obtain ⟨z, hz, hw⟩ := zav (k := .u32) (by kernel_rfl) h1
  have g := zh6 hw
  cases hs; cases hz
  refine ⟨(s, z.toNat), ?_, by simpa [maxLen] using hsl, by dsimp only; omega⟩
  show [Value.string s, Value.int .u32 ((z.toNat : Nat) : Int)] = _
  rw [show ((z.toNat : Nat) : Int) = z by omega]
def zo3 (c : Cat) : Prop := (∀ e ∈ c.1, e.1.size <= 9223372036854775807 /\ (∀ k ∈ e.2.1, (B k.1).length <= 9223372036854775807) /\ e.2.2.1 < 4294967296 /\ e.2.2.2.1 < 18446744073709551616 /\ -9223372036854775808 <= e.2.2.2.2 /\ e.2.2.2.2 < 9223372036854775808) /\ ∀ s ∈ c.2, s.1.size <= 9223372036854775807 /\ s.2 < 4294967296
theorem zfe {w : World} : ∀ {raws : List Raw}, (∀ r ∈ raws, zmr w r) -> ∃ es : List Ent, raws.length = es.length /\ (∀ i, i < es.length -> zcx w (raws.getD i yi) (es.getD i zS)) /\ ∀ e ∈ es, e.1.size <= 9223372036854775807 /\ (∀ k ∈ e.2.1, (B k.1).length <= 9223372036854775807) /\ e.2.2.1 < 4294967296 /\ e.2.2.2.1 < 18446744073709551616 /\ -9223372036854775808 <= e.2.2.2.2 /\ e.2.2.2.2 < 9223372036854775808
 | [], _ => ⟨[], rfl, fun i hi => (by cases hi), fun e he => (by cases he)⟩
 | r :: l, h => by
  obtain ⟨es, h1, h2, h3⟩ := zfe (raws := l) (fun x hx => h x (List.mem_cons_of_mem _ hx))
  obtain ⟨⟨cols, q1, q2⟩, q3, q4, q5⟩ := h r List.mem_cons_self
  refine ⟨(r.1, cols, r.2.2) :: es, by simp [h1], fun i hi => ?_, fun e he => ?_⟩
  ·cases i with
   | zero => exact ⟨rfl, rfl, q1, q3⟩
   | succ i => exact h2 i (by simpa using hi)
  ·rcases List.mem_cons.1 he with rfl | he
   ·exact ⟨q4, q2, q5⟩
   ·exact h3 e he
theorem zms {v : Value} {d : DataW H} {ps : List MemPlace} {r : Reach} {b0 : Nat} (hv : Value.okWide Tryz.prog w r b0 25 v) (h : DataW.Trod enc Tryz.prog w base (fun _ => true) held 25 v d ps) :
  ∃ (c : Cat) (x y : SLC), v = .agg (zY x y).toArray /\ qA w x y c /\ zo3 c := by
 obtain ⟨cs, rfl, hsz⟩ := okWide_struct (show Tryz.prog.underlying 25 = some (.struct (fieldsOf Tryz.prog 25)) by kernel_rfl) hv
 obtain ⟨fuel, hf⟩ := h
 have hf' : DataW.trod enc Tryz.prog w base (fun _ => true) held fuel 25 cs.toList = some (d, ps) := hf
 obtain ⟨hl, m0, y0, h0⟩ := qw 0 0 1 22 (by kernel_rfl) (by kernel_rfl) hf'
 obtain ⟨_, m1, y1, h1⟩ := qw 1 1 1 23 (by kernel_rfl) (by kernel_rfl) hf'
 have hl2 : cs.toList.length = 2 := hl.trans (by kernel_rfl)
 match hcs : cs.toList, hl2 with
 | [a, b], _ =>
  rw [hcs] at h0 h1
  obtain ⟨A, n, k, raws, hz0, hsl, hnc, hq⟩ := zaV (e := 44) (E := yn) (Q := zmr w) (by kernel_rfl) (by kernel_rfl) (fun n cs x h => zol h) h0
  obtain ⟨A2, n2, k2, ss, hz1, hsl2, hnc2, hq2⟩ := zaV (e := 46) (E := xv) (Q := fun s => s.1.size <= 9223372036854775807 /\ s.2 < 4294967296) (by kernel_rfl) (by kernel_rfl) (fun n cs x h => zom h) h1
  cases hz0
  cases hz1
  obtain ⟨es, e1, e2, e3⟩ := zfe hq
  refine ⟨(es, ss), (A, n, k), (A2, n2, k2), ?_, ⟨⟨raws, hsl, e1, e2⟩, hsl2, hnc, hnc2⟩, e3, hq2⟩
  congr 1
  apply Array.toList_inj.1
  rw [hcs]
  rfl
end
end V
/- Contracts of the package space: what may be asked for, Room, what is free. -/
namespace V
open Go Go.Proofs Go.RowKit Crc
variable {w w' : World} {b db : Nat} {S : Spa} {F Fd : Nat -> Prop} {x : SLC} {hb hr nb nr : Nat} {m : MkL}
structure uG (S : Spa) : Prop where
 geo : zT S.sup.size S.sup.blocks = true
 room : zC S.sup.size = S.sup.size - 16
 size : 128 <= S.sup.size /\ S.sup.size <= 4096
 blocks : S.sup.blocks = (S.N : Int)
 n : 8 <= S.N /\ S.N <= 4096
theorem SpM.dims (h : SpM w b db S F Fd x hb hr nb nr m) : uG S := by
 have hg := h.dev.ok.geo
 rw [<- h.ok.size, <- h.ok.blocks] at hg
 obtain ⟨g1, g2, g3, g4, g5⟩ := xY hg
 have : S.sup.blocks = (S.N : Int) := by unfold Spa.N; omega
 exact ⟨hg, g1, ⟨g2, g3⟩, this, by omega⟩
theorem zo4 (h : SpM w b db S F Fd x hb hr nb nr m) (n : Nat) : S.now.getD n 0 < 65536 /\ S.held.getD n 0 < 65536 /\ cnt S.mark n < 65536 := by
 obtain ⟨q1, c1⟩ := h.heldC
 obtain ⟨q2, c2⟩ := h.nowC
 refine ⟨c2.qY n, c1.qY n, ?_⟩
 have hm := h.markC
 cases hS : S.mark with
 | none => simp [cnt]
 | some l =>
  rw [hS] at hm
  cases m with
  | none => exact hm.elim
  | some a =>
   obtain ⟨q, hm⟩ := hm
   exact hm.qY n
theorem vy (h : SpM w b db S F Fd x hb hr nb nr m) {n : Nat} (hn : n < 4294967296) :
  Calls Tryz.prog 73 #[.pointer (some ⟨b, 0, none⟩), .int .u32 (n : Int)] w (Ret fun v w' => v = .bool (S.asked n) /\ w' = w) := by
 obtain ⟨t, hbx⟩ := h.box
 have hd := h.dims
 have hb2 := hd.blocks
 have hn2 := hd.n
 apply znR
 unfold S73 Spa.asked
 refine zg (fun hz => ?_) (fun hz => ?_)
 ·have hz := of_decide_eq_true hz
  refine zs (qK 3 S.sup.blocks hbx (by rfl) (by rfl) ?_)
  have eb : IntKind.wrap .u64 S.sup.blocks = (S.N : Int) := by rw [hb2, zy (by omega)]
  rw [zy (by omega), eb]
  refine zg (fun hq => ?_) (fun hq => ?_)
  ·have hq := of_decide_eq_true hq
   refine zs (qK (l := .slc) 5 x hbx (by rfl) (by rfl) ?_)
   refine zb (zaE (c := x.2.2) h.pgs.sl) ?_
   rintro _ w1 ⟨rfl, rfl⟩
   refine ⟨_, rfl, ?_, rfl⟩
   rw [decide_eq_true (show 2 <= n by omega), decide_eq_true (show n < S.N by omega)]
   rfl
  ·have hq := of_decide_eq_false hq
   refine ⟨?_, rfl⟩
   rw [decide_eq_false (show ¬ n < S.N by omega)]
   simp
 ·have hz := of_decide_eq_false hz
  refine ⟨?_, rfl⟩
  rw [decide_eq_false (show ¬ 2 <= n by omega)]
  rfl
theorem qL (h : SpM w b db S F Fd x hb hr nb nr m) {k : Int} (hk0 : -9223372036854775808 <= k) (hk : k < 9223372036854775808) :
  Calls Tryz.prog 76 #[.pointer (some ⟨b, 0, none⟩), .int .i64 k] w (Ret fun v w' => v = .int .i64 (S.room k) /\ Ext w w') := by
 obtain ⟨t, hbx⟩ := h.box
 have hd := h.dims
 have h1 := hd.room
 have h2 := hd.size
 apply znT
 unfold S76 Spa.room
 refine zc (by rfl) (zs (qK 2 S.sup.size hbx (by rfl) (by rfl) ?_))
 refine zb (jf w S.sup.size) ?_
 rintro _ w1 ⟨rfl, he⟩
 refine ⟨_, rfl, ?_⟩
 have e1 : IntKind.wrap .i64 (zC S.sup.size - 2) = zC S.sup.size - 2 := wrap_i64 (by omega) (by omega)
 have e2 : IntKind.wrap .i64 (Int.tdiv (zC S.sup.size - 2) 4) = (zC S.sup.size - 2) / 4 := by
  rw [Int.tdiv_eq_ediv_of_nonneg (by omega), wrap_i64 (by omega) (by omega)]
 rw [e1, e2]
 refine zg (fun hz => ?_) (fun hz => ?_)
 ·rw [if_pos (.inl (of_decide_eq_true hz))]
  exact ⟨rfl, he⟩
 have hz := of_decide_eq_false hz
 refine zg (fun hq => ?_) (fun hq => ?_)
 ·rw [if_pos (.inr (of_decide_eq_true hq))]
  exact ⟨rfl, he⟩
 have hq := of_decide_eq_false hq
 rw [if_neg (by omega), wrap_i64 (x := 4 * k) (by omega) (by omega), wrap_i64 (by omega) (by omega)]
 exact ⟨rfl, he⟩
theorem zbv (h : SpM w b db S F Fd x hb hr nb nr m) (n : Nat) (hn : n < 4294967296) :
  Calls Tryz.prog 75 #[.pointer (zi5 m), .int .u32 (n : Int)] w (Ret fun v w' => v = .int .i64 ((cnt S.mark n : Nat) : Int) /\ w' = w) := by
 have hm := h.markC
 cases hS : S.mark with
 | none =>
  rw [hS] at hm
  cases m with
  | none => exact zb2 w n
  | some a => exact hm.elim
 | some l =>
  rw [hS] at hm
  cases m with
  | none => exact hm.elim
  | some a =>
   obtain ⟨q, hm⟩ := hm
   exact uR hm n hn
theorem kQ (h : SpM w b db S F Fd x hb hr nb nr m) (n : Nat) (hn : n < 4294967296) :
  Calls Tryz.prog 75 #[.pointer (some ⟨nb, 0, none⟩), .int .u32 (n : Int)] w (Ret fun v w' => v = .int .i64 ((S.now.getD n 0 : Nat) : Int) /\ w' = w) := by
 obtain ⟨q, c⟩ := h.nowC
 exact uR c n hn
theorem zfD (h : SpM w b db S F Fd x hb hr nb nr m) (n : Nat) (hn : n < 4294967296) :
  Calls Tryz.prog 75 #[.pointer (some ⟨hb, 0, none⟩), .int .u32 (n : Int)] w (Ret fun v w' => v = .int .i64 ((S.held.getD n 0 : Nat) : Int) /\ w' = w) := by
 obtain ⟨q, c⟩ := h.heldC
 exact uR c n hn
theorem zon {K : WP} {w : World} (h : K w.drew) : zA K w := h
theorem zb8 {w : World} {A : Option Addr} {n c : Nat} {xs : List Nat} {g : FuncId} {cap : Array Value} {q : Nat -> Bool} (h : Sli (zu .u32) w A n xs) (hen : enterable Tryz.prog g = true)
  (hq : ∀ y ∈ xs, Calls Tryz.prog g ([Value.int .u32 (y : Int)] ++ cap.toList).toArray w (Ret fun v w' => v = .bool (q y) /\ w' = w)) :
  Calls Tryz.prog 71 #[.slice A n c, .func (.func g) #[] cap] w (Ret fun v w' => v = .bool (xs.any q) /\ w' = w) := by
 apply znP
 unfold S71
 have hl := h.len
 have hle := h.le
 have hi : Calls Tryz.prog 119 #[.slice A n c, .func (.func g) #[] cap] w (Ret fun v w' => (∃ k : Int, v = .int .i64 k /\ (0 <= k ↔ xs.any q = true)) /\ w' = w) := by
  apply zk8
  unfold S119
  refine zx (fun y w' => w' = w /\ ∃ i : Nat, i <= n /\ y = ((i : Int), ()) /\ (xs.take i).any q = false) (fun y => (n - y.1).toNat) ⟨rfl, 0, by omega, rfl, rfl⟩ ?_
  rintro _ w1 ⟨rfl, i, hi, rfl, hno⟩
  dsimp only
  by_cases hlt : i < n
  ·refine zf (decide_eq_true (by omega)) ?_
   refine zR h (by omega) (by omega) ?_
   rw [Int.toNat_natCast]
   have e : xs[i]? = some (xs.getD i 0) := by rw [List.getD_eq_getElem?_getD, List.getElem?_eq_getElem (by omega)]; rfl
   refine xT hen (zb (hq (xs.getD i 0) (List.mem_of_getElem? e)) ?_)
   rintro _ w2 ⟨rfl, rfl⟩
   refine ⟨_, rfl, ?_⟩
   have e2 : (xs.take (i + 1)).any q = q (xs.getD i 0) := by
    rw [List.take_add_one, e, List.any_append, hno]
    simp
   refine zg (fun hz => ?_) (fun hz => ?_)
   ·refine ⟨⟨i, rfl, fun _ => ?_, fun _ => by omega⟩, rfl⟩
    rw [List.any_eq_true]
    exact ⟨_, List.mem_of_getElem? e, hz⟩
   ·refine ⟨⟨rfl, i + 1, by omega, by rw [wrap_i64 (by omega) (by omega)]; rfl, by rw [e2]; exact hz⟩, by rw [wrap_i64 (by omega) (by omega)]; omega⟩
  ·obtain rfl : i = n := by omega
   refine zc (decide_eq_false (by omega)) ?_
   rw [List.take_of_length_le (by omega)] at hno
   refine ⟨⟨-1, rfl, fun h => by omega, fun h => by rw [hno] at h; cases h⟩, rfl⟩
 refine zb hi ?_
 rintro _ w1 ⟨⟨k, rfl, hk⟩, rfl⟩
 refine ⟨k, rfl, ?_, rfl⟩
 have e : decide (k >= 0) = xs.any q := by rw [Bool.eq_iff_iff, decide_eq_true_iff]; exact hk
 rw [<- e]
def kR (S : Spa) : List (List Value) := S.z8.map fun n : Nat => [.int .u32 (n : Int)]
def jg (S : Spa) (n : Nat) : List Nat := (List.range n).filter fun n => decide (2 <= n) && S.yq n
theorem qB (S : Spa) (n : Nat) : jg S (n + 1) = if (decide (2 <= n) && S.yq n) = true then jg S n ++ [n] else jg S n := by
 unfold jg
 rw [List.range_succ, List.filter_append]
 simp only [List.filter_cons, List.filter_nil]
 split <;> simp
theorem zii (S : Spa) : ∀ (k n : Nat), (jg S n) <+: (jg S (n + k))
 | 0, n => List.prefix_refl _
 | k + 1, n => by
  refine (zii S k n).trans ?_
  rw [<- Nat.add_assoc, qB]
  split
  ·exact List.prefix_append _ _
  ·exact List.prefix_refl _
theorem zkf {S : Spa} {n : Nat} (hn : n < S.N) (hf : (decide (2 <= n) && S.yq n) = true) : S.z8[(jg S n).length]? = some n := by
 have h1 : jg S (n + 1) <+: S.z8 := by
  have := zii S (S.N - (n + 1)) (n + 1)
  rw [show n + 1 + (S.N - (n + 1)) = S.N by omega] at this
  exact this
 rw [qB, if_pos hf] at h1
 obtain ⟨r, hr⟩ := h1
 rw [<- hr]
 simp
def zi7 (b r : Nat) (P : WP) : WP := fun w => Blk w r [.pointer (some ⟨b, 0, none⟩)] 48 /\ P w
theorem zi8 (h : SpM w b db S F Fd x hb hr nb nr m) :
  Calls Tryz.prog 84 #[.pointer (some ⟨b, 0, none⟩)] w (Ret fun v w' => Iter Tryz.prog v (kR S) (zi7 b w.heap.size fun w => SpM w b db S F Fd x hb hr nb nr m) /\ zi7 b w.heap.size (fun w => SpM w b db S F Fd x hb hr nb nr m) w' /\ w'.heap.size = w.heap.size + 1 /\ Ext w w') := by
 apply zn1
 unfold S84
 apply yz
 have he := (Ext.refl w).alloc (.cells #[.pointer (some ⟨b, 0, none⟩)] 48)
 have hdim := h.dims
 have hN := hdim.n
 have hbl := hdim.blocks
 refine ⟨⟨_, _, rfl, by kernel_rfl, fun l J w1 hJ hR hdr hY => ?_⟩, ⟨Blk.new w _ _, h.ext he⟩, by simp, he⟩
 apply zle
 unfold S130
 have hlen : (kR S).length = S.z8.length := by simp [kR]
 refine zx (fun y w' => ∃ n : Nat, 2 <= n /\ n <= S.N /\ y = ((n : Int), ()) /\ J (jg S n).length w') (fun y => (S.N - y.1).toNat) ⟨2, by omega, by omega, rfl, ?_⟩ ?_
 ·have : (jg S 2).length = 0 := by rw [qB, if_neg (by simp), qB, if_neg (by simp)]; rfl
  rw [this]
  exact hJ
 rintro _ w2 ⟨n, h2, hn, rfl, hJ2⟩
 dsimp only
 have hR2 := hR _ _ hJ2
 obtain ⟨hbk, hS⟩ := hR2
 obtain ⟨t, hbx⟩ := hS.box
 refine zo (x := some ⟨b, 0, none⟩) hbk (by rfl) (zs (qK 3 S.sup.blocks hbx (by rfl) (by rfl) ?_))
 rw [wrap_i64 (by omega) (by omega)]
 by_cases hlt : n < S.N
 ·refine zf (decide_eq_true (by omega)) ?_
  have hJ3 := hdr _ _ hJ2
  have hlt32 : n < 4294967296 := by omega
  refine zon ?_
  generalize w2.drew = w3 at hJ3 ⊢
  obtain ⟨hbk, hS⟩ := hR _ _ hJ3
  obtain ⟨t, hbx⟩ := hS.box
  obtain ⟨c1, c2, c3⟩ := zo4 hS n
  refine zo (x := some ⟨b, 0, none⟩) hbk (by rfl) (zs (qK (l := .ptr) 8 (some ⟨nb, 0, none⟩) hbx (by rfl) (by rfl) ?_))
  refine zo (x := some ⟨b, 0, none⟩) hbk (by rfl) (zs (qK (l := .ptr) 7 (some ⟨hb, 0, none⟩) hbx (by rfl) (by rfl) ?_))
  refine zo (x := some ⟨b, 0, none⟩) hbk (by rfl) (zs (qK (l := .ptr) 9 (zi5 m) hbx (by rfl) (by rfl) ?_))
  refine zb (kQ hS n hlt32) ?_
  rintro _ w4 ⟨rfl, rfl⟩
  refine ⟨_, rfl, ?_⟩
  refine ⟨?_, zb (zfD hS n hlt32) ?_⟩
  ·intro p hp q hq
   simp only [List.mem_cons, List.not_mem_nil, or_false] at hp
   rcases hp with rfl | rfl | rfl | rfl <;> (simp only [List.mem_cons, List.not_mem_nil, or_false] at hq; subst hq)
   ·exact (hbx.cell 9).trans rfl
   ·exact (hbk.cell 0).trans rfl
   ·exact (hbx.cell 7).trans rfl
   ·exact (hbk.cell 0).trans rfl
  rintro _ w5 ⟨rfl, rfl⟩
  refine ⟨_, rfl, ?_⟩
  refine ⟨?_, zb (zbv hS n hlt32) ?_⟩
  ·intro p hp q hq
   simp only [List.mem_cons, List.not_mem_nil, or_false] at hp
   rcases hp with rfl | rfl <;> (simp only [List.mem_cons, List.not_mem_nil, or_false] at hq; subst hq)
   ·exact (hbx.cell 9).trans rfl
   ·exact (hbk.cell 0).trans rfl
  rintro _ w6 ⟨rfl, rfl⟩
  refine ⟨_, rfl, ?_⟩
  rw [wrap_i64 (x := (S.now.getD n 0 : Int) + _) (by omega) (by omega), wrap_i64 (by omega) (by omega)]
  have hfree : S.yq n = true ↔ S.now.getD n 0 = 0 /\ S.held.getD n 0 = 0 /\ cnt S.mark n = 0 := by simp [Spa.yq, and_assoc]
  have hnx : IntKind.wrap .u32 ((n : Int) + 1) = ((n + 1 : Nat) : Int) := by rw [show (n : Int) + 1 = ((n + 1 : Nat) : Int) by omega, uu (by omega)]
  refine zg (fun hz => ?_) (fun hz => ?_)
  ·have hz := beq_iff_eq.1 hz
   have hf : (decide (2 <= n) && S.yq n) = true := by
    rw [hfree.2 (by omega), decide_eq_true h2]; rfl
   have hget := zkf hlt hf
   have hidx : (jg S n).length < (kR S).length := by
    rw [hlen]
    exact (List.getElem?_eq_some_iff.1 hget).1
   refine .inr ⟨l, rfl, ?_⟩
   have hy := hY _ w6 hidx hJ3
   have el : (kR S)[(jg S n).length] = [.int .u32 (n : Int)] := by
    obtain ⟨h1, h2⟩ := List.getElem?_eq_some_iff.1 hget
    simp [kR, h2]
   rw [el] at hy
   obtain ⟨fn, tmps, asg, bd, hy1, hy2⟩ := hy
   refine ⟨fn, tmps, asg, bd, hy1, RoundIn.mono hy2 ?_⟩
   rintro (v | c | _) w7 hv
   ·obtain ⟨rfl, hJ7⟩ := hv
    refine ⟨true, rfl, zc (by rfl) ?_⟩
    rw [hnx]
    refine ⟨⟨n + 1, by omega, by omega, rfl, ?_⟩, by omega⟩
    rw [qB, if_pos hf, List.length_append]
    exact hJ7
   ·exact hv
   ·exact hv
  ·have hz := beq_eq_false_iff_ne.1 hz
   rw [hnx]
   refine ⟨⟨n + 1, by omega, by omega, rfl, ?_⟩, by omega⟩
   rw [qB, if_neg (by
    intro hh
    simp only [Bool.and_eq_true, hfree] at hh
    omega)]
   exact hJ3
 ·refine zc (decide_eq_false (by omega)) ?_
  obtain rfl : n = S.N := by omega
  rw [hlen]
  exact hJ2
end V
/- Contracts of the package space: Free, take. -/
namespace V
open Go Go.Proofs Go.RowKit Crc
variable {w w' : World} {b db : Nat} {S : Spa} {F Fd : Nat -> Prop} {x : SLC} {hb hr nb nr : Nat} {m : MkL}
theorem SpM.qh {a c : Nat} (h : SpM w b db S F Fd x hb hr nb nr m) (hs : yO a c w w') (h1 : ¬ F a) (h2 : ¬ F c) : SpM w' b db S F Fd x hb hr nb nr m := by
 refine h.only (G := fun k => k = a \/ k = c) ⟨hs.1, hs.2.1, hs.2.2.1, Nat.le_of_eq hs.2.2.2.1.symm, fun k hk hg => hs.2.2.2.2 k (fun e => hg (.inl e)) (fun e => hg (.inr e))⟩ ?_
 rintro j hj (rfl | rfl)
 ·exact h1 hj
 ·exact h2 hj
theorem zmt (S : Spa) : S.zV <= S.N := by
 unfold Spa.zV Spa.z8
 exact Nat.le_trans (List.length_filter_le _ _) (by simp)
theorem zhz (h : SpM w b db S F Fd x hb hr nb nr m) :
  Calls Tryz.prog 26 #[.pointer (some ⟨b, 0, none⟩)] w (Ret fun v w' => v = .int .i64 (S.zV : Int) /\ Ext w w') := by
 have hdim := h.dims
 have hN := hdim.n
 have hle := zmt S
 apply znp
 unfold S26
 refine zr fun r1 w1 hb1 he1 hr1 hs1 => ?_
 refine zc (by rfl) ?_
 refine zb (zi8 (h.ext he1)) ?_
 rintro v w2 ⟨hit, hR2, hs2, he2⟩
 refine ⟨v, rfl, ?_⟩
 have hlt := (h.ext he1).lt
 have h12 := he2.size
 have hr2 := hR2.1.lt
 have hlen : (kR S).length = S.zV := by simp [kR, Spa.zV]
 refine zaw (fun i w' => zi7 b w1.heap.size (fun w => SpM w b db S F Fd x hb hr nb nr m) w' /\ Blk w' r1 [.int .i64 (i : Int)] 3 /\ Ext w w') hit (fun i w' hI => hI.1) ?_ ?_ ?_ ?_ ?_
 ·rintro i w' ⟨⟨g1, g2⟩, g3, g4⟩
  have hx := (Ext.refl w').drew
  exact ⟨⟨g1.ext hx, g2.ext hx⟩, g3.ext hx, g4.trans hx⟩
 ·rintro i w' w'' hs ⟨⟨g1, g2⟩, g3, g4⟩
  refine ⟨⟨hs.blk g1 (by omega), g2.qh hs (fun hf => ?_) (fun hf => ?_)⟩, hs.blk g3 (by omega), hs.ext g4 (by have := he1.size; omega)⟩
  ·have := hlt _ hf; omega
  ·have := hlt _ hf; omega
 ·intro o
  have hx : Ext w2 ((w2.alloc (.deferred (some []))).alloc o) := ((Ext.refl w2).alloc _).alloc _
  exact ⟨⟨hR2.1.ext hx, hR2.2.ext hx⟩, (hb1.ext he2).ext hx, (he1.trans he2).trans hx⟩
 ·rintro i hi w' N jump ⟨⟨g1, g2⟩, g3, g4⟩ hsz hN'
  have hi' : i < S.z8.length := by have : (kR S).length = S.z8.length := by simp [kR]
                                   omega
  refine ⟨((S.z8[i] : Nat), ()), by simp [kR], ?_⟩
  refine zo (x := (i : Int)) g3 (by rfl) ?_
  rw [wrap_i64 (by omega) (by omega)]
  refine zO g3 (by show 0 < 1; omega) ?_
  have hg := yF w' r1 0 (.int .i64 ((i : Int) + 1))
  refine hN' _ ⟨⟨g1.other (p := ⟨r1, 0, none⟩) (by show r1 ≠ w1.heap.size; omega) _, ?_⟩, g3.set 0 (.int .i64 ((i : Int) + 1)), g4.set (p := ⟨r1, 0, none⟩) (by show w.heap.size <= r1; omega) _⟩ (by simp) (fun k hk => Below.heap_setCell _ _ _ _ (by show k ≠ r1; omega))
  refine g2.only (Only.z7 (F := fun k => k = r1) hg (fun j hj => .inl (by injection hj with hj; exact hj.symm))) (fun j hj e => ?_)
  have hF := h.lt j hj
  have : j = r1 := e
  omega
 ·rintro w' ⟨⟨g1, g2⟩, g3, g4⟩ hsz hdf
  rw [jd]
  rw [hlen] at g3
  refine zo (x := (S.zV : Int)) g3 (by rfl) ?_
  refine zO g3 (by show 0 < 1; omega) ?_
  have g5 := g3.set 0 (.int .i64 (S.zV : Int))
  refine jn ?_ ?_
  ·rw [Below.heap_setCell _ _ _ _ (by show w2.heap.size ≠ r1; omega)]
   exact hdf
  have hsb := zX (a := w2.heap.size) (b := w2.heap.size + 1) (w := w'.setCell ⟨r1, 0, none⟩ (.int .i64 (S.zV : Int))) (o := .deferred none) (.inl rfl)
  refine zo (x := (S.zV : Int)) (hsb.blk g5 (by omega)) (by rfl) ?_
  refine ⟨rfl, hsb.ext (g4.set (p := ⟨r1, 0, none⟩) (by show w.heap.size <= r1; omega) _) (by have := he1.size; omega)⟩
def subs (l : List Nat) : List Nat -> List Nat
 | [] => l
 | n :: r => subs (xg l n) r
theorem zcW (l : List Nat) : ∀ a c : List Nat, subs l (a ++ c) = subs (subs l a) c
 | [], _ => rfl
 | n :: r, c => zcW (xg l n) r c
theorem zcX (l : List Nat) (n : Nat) : (xg l n).length = l.length := by unfold xg; split <;> simp
theorem zai : ∀ (a l : List Nat), (subs l a).length = l.length
 | [], l => rfl
 | n :: r, l => by rw [subs, zai r, zcX]
theorem zcy (h : SpM w b db S F Fd x hb hr nb nr m) {n : Nat} (hn : n < 4294967296) :
  Calls Tryz.prog 87 #[.pointer (some ⟨nb, 0, none⟩), .int .u32 (n : Int)] w (Ret fun v w' => v = .tuple #[.int .i64 (za6 S.now n : Int), .int .i64 (atE S.now n)] /\ SpM w' b db { S with now := xg S.now n } F Fd x hb hr nb nr m /\ w.grownBy w' (some nr)) := by
 obtain ⟨q, c⟩ := h.nowC
 refine (zka c n hn).mono (Ret.mono ?_)
 rintro v w' ⟨rfl, hc, hg⟩
 exact ⟨rfl, h.j7 hg hc (zcX _ _), hg⟩
theorem zeK {A : Option Addr} {n c r1 r2 : Nat} {ns : List Nat} (h : SpM w b db S F Fd x hb hr nb nr m) (h1 : Blk w r1 [.slice A n c] 54) (h2 : Blk w r2 [.pointer (some ⟨b, 0, none⟩)] 48) (hs : Sli (zu .u32) w A n ns)
  (hns : ∀ k ∈ ns, k < 4294967296) (hf1 : r1 ≠ nr) (hf2 : r2 ≠ nr) (hA : ∀ a, A = some a -> a.block ≠ nr) :
  ui Tryz.prog 122 [.pointer (some ⟨r1, 0, none⟩), .pointer (some ⟨r2, 0, none⟩)] w fun _ w' => SpM w' b db { S with now := subs S.now ns } F Fd x hb hr nb nr m /\ w.grownBy w' (some nr) := by
 apply zjP
 unfold S122
 have hl := hs.len
 have hle := hs.le
 refine zo (x := (A, n, c)) h1 (by rfl) ?_
 dsimp only
 refine zx (fun y w' => ∃ i : Nat, i <= n /\ y = ((i : Int), ()) /\ SpM w' b db { S with now := subs S.now (ns.take i) } F Fd x hb hr nb nr m /\ w.grownBy w' (some nr)) (fun y => (n - y.1).toNat) ⟨0, by omega, rfl, h, xy _ _⟩ ?_
 rintro _ w1 ⟨i, hi, rfl, hS, hg⟩
 dsimp only
 by_cases hlt : i < n
 ·refine zf (decide_eq_true (by omega)) ?_
  have hs1 : Sli (zu .u32) w1 A n ns := hs.grown hg (fun a ha e => hA a ha (by injection e))
  refine zR hs1 (by omega) (by omega) ?_
  rw [Int.toNat_natCast]
  have e : ns[i]? = some (ns.getD i 0) := by rw [List.getD_eq_getElem?_getD, List.getElem?_eq_getElem (by omega)]; rfl
  obtain ⟨t, hbx⟩ := hS.box
  refine zo (x := some ⟨b, 0, none⟩) (h2.grown hg (by simpa using hf2)) (by rfl) (zs (qK (l := .ptr) 8 (some ⟨nb, 0, none⟩) hbx (by rfl) (by rfl) ?_))
  refine zb (zcy hS (hns _ (List.mem_of_getElem? e))) ?_
  rintro _ w2 ⟨rfl, hS2, hg2⟩
  refine ⟨(_, _, ()), rfl, ?_⟩
  have e2 : subs S.now (ns.take (i + 1)) = xg (subs S.now (ns.take i)) (ns.getD i 0) := by
   rw [List.take_add_one, e, zcW]
   rfl
  refine ⟨⟨i + 1, by omega, by rw [wrap_i64 (by omega) (by omega)]; rfl, by rw [e2]; exact hS2, xa hg hg2 (fun j hj => .inl hj)⟩, by rw [wrap_i64 (by omega) (by omega)]; omega⟩
 ·refine zc (decide_eq_false (by omega)) ?_
  rw [List.take_of_length_le (by omega)] at hS
  exact ⟨hS, hg⟩
end V
/- Contracts of the package space: take. -/
namespace V
open Go Go.Proofs Go.RowKit Crc
theorem zij {T : Type} {x0 : T} {B : T -> (T -> WP) -> WP} {w : World} (I : T -> Nat -> WP) (k0 : Nat) (h0 : I x0 k0 w)
  (h : ∀ x k w (J : T -> WP), I x k w -> (∀ x' k' w', k' < k -> I x' k' w' -> J x' w') -> B x J w) : zD T x0 B w := by
 classical
 refine ⟨fun x w => ∃ k, I x k w, fun x w => if hh : ∃ k, I x k w then Classical.choose (least hh) else 0, ⟨k0, h0⟩, ?_⟩
 rintro x w ⟨k, hk⟩
 have hh : ∃ k, I x k w := ⟨k, hk⟩
 have hs := Classical.choose_spec (least hh)
 refine h x _ w _ hs.1 (fun x' k' w' hlt hI => ⟨⟨k', hI⟩, ?_⟩)
 have hh' : ∃ k, I x' k w' := ⟨k', hI⟩
 simp only [dif_pos hh', dif_pos hh]
 exact Nat.lt_of_le_of_lt ((Classical.choose_spec (least hh')).2 k' hI) hlt
theorem qs {l r : List Nat} (hl : l.length = r.length) (h : ∀ k, l.getD k 0 = r.getD k 0) : l = r := by
 apply List.ext_getElem hl
 intro k h1 h2
 have := h k
 rw [List.getD_eq_getElem?_getD, List.getD_eq_getElem?_getD, List.getElem?_eq_getElem h1, List.getElem?_eq_getElem h2] at this
 exact this
theorem ym (l : List Nat) (i k x : Nat) : (l.set i x).getD k 0 = if i = k /\ k < l.length then x else l.getD k 0 := by
 rw [List.getD_eq_getElem?_getD, List.getD_eq_getElem?_getD, List.getElem?_set]
 by_cases hik : i = k
 ·subst hik
  by_cases hk : i < l.length
  ·simp [hk]
  ·simp [hk]
 ·rw [if_neg hik, if_neg (fun h => hik h.1)]
def onL (l : List Nat) (ns : List Nat) : List Nat := ns.foldl (fun l n => l.set n 1) l
theorem zi9 (l a : List Nat) (n : Nat) : onL l (a ++ [n]) = (onL l a).set n 1 := by simp [onL]
theorem qC : ∀ (ns l : List Nat), (onL l ns).length = l.length
 | [], l => rfl
 | n :: r, l => by rw [onL, List.foldl_cons]; show (onL (l.set n 1) r).length = _; rw [qC r]; simp
theorem zik : ∀ (ns l : List Nat) (k : Nat), (∀ n ∈ ns, n < l.length) -> (onL l ns).getD k 0 = if k ∈ ns then 1 else l.getD k 0
 | [], l, k, _ => by simp [onL]
 | n :: r, l, k, h => by
  show (onL (l.set n 1) r).getD k 0 = _
  rw [zik r _ k (fun j hj => by rw [List.length_set]; exact h j (List.mem_cons_of_mem _ hj)), ym]
  have hn := h n List.mem_cons_self
  by_cases hk : k ∈ r
  ·rw [if_pos hk, if_pos (List.mem_cons_of_mem _ hk)]
  ·rw [if_neg hk]
   by_cases hkn : n = k
   ·subst hkn
    rw [if_pos ⟨rfl, hn⟩, if_pos List.mem_cons_self]
   ·rw [if_neg (fun e => hkn e.1), if_neg (fun e => by rcases List.mem_cons.1 e with e | e; exact hkn e.symm; exact hk e)]
theorem zdt : ∀ (ns l : List Nat) (k : Nat), ns.Nodup -> (∀ n ∈ ns, 2 <= n /\ n < l.length /\ l.getD n 0 ≠ 0) -> (subs l ns).getD k 0 = if k ∈ ns then l.getD k 0 - 1 else l.getD k 0
 | [], l, k, _, _ => by simp [subs]
 | n :: r, l, k, hnd, h => by
  obtain ⟨h2, hlt, h0⟩ := h n List.mem_cons_self
  obtain ⟨hnr, hnd⟩ := List.nodup_cons.1 hnd
  have ea : atE l n = 0 := by unfold atE; rw [if_neg (by omega), if_neg h0]
  have es : xg l n = l.set n (l.getD n 0 - 1) := by
   unfold xg
   rw [if_pos ea]
  show (subs (xg l n) r).getD k 0 = _
  rw [es, zdt r _ k hnd (fun j hj => ?_), ym]
  ·by_cases hkn : n = k
   ·subst hkn
    rw [if_neg hnr, if_pos ⟨rfl, hlt⟩, if_pos List.mem_cons_self]
   ·rw [if_neg (show ¬ (n = k /\ k < l.length) from fun e => hkn e.1)]
    by_cases hk : k ∈ r
    ·rw [if_pos hk, if_pos (List.mem_cons_of_mem _ hk)]
    ·rw [if_neg hk, if_neg (fun e => by rcases List.mem_cons.1 e with e | e; exact hkn e.symm; exact hk e)]
  ·obtain ⟨g1, g2, g3⟩ := h j (List.mem_cons_of_mem _ hj)
   refine ⟨g1, by rw [List.length_set]; exact g2, ?_⟩
   rw [ym, if_neg (show ¬ (n = j /\ j < l.length) from fun e => hnr (e.1 ▸ hj))]
   exact g3
structure Marked (S : Spa) (ns : List Nat) : Prop where
 nodup : ns.Nodup
 each : ∀ n ∈ ns, 2 <= n /\ n < S.now.length /\ S.now.getD n 0 = 0 /\ cnt S.mark n ≠ 0
theorem Marked.get {S : Spa} {ns : List Nat} (h : Marked S ns) (k : Nat) : (onL S.now ns).getD k 0 = if k ∈ ns then 1 else S.now.getD k 0 := zik _ _ _ (fun n hn => (h.each n hn).2.1)
theorem Marked.back {S : Spa} {ns : List Nat} (h : Marked S ns) : subs (onL S.now ns) ns = S.now := by
 refine qs (by rw [zai, qC]) (fun k => ?_)
 rw [zdt _ _ _ h.nodup (fun n hn => ?_), h.get]
 ·split
  ·rename_i hk
   have := (h.each k hk).2.2.1
   omega
  ·rfl
 ·obtain ⟨g1, g2, g3, g4⟩ := h.each n hn
  refine ⟨g1, by rw [qC]; exact g2, ?_⟩
  rw [h.get, if_pos hn]
  decide
theorem Marked.zoo {S : Spa} {ns : List Nat} (h : Marked S ns) {n : Nat} (hn : n ∉ ns) : subs ((onL S.now ns).set n 1) ns = S.now.set n 1 := by
 refine qs (by rw [zai, List.length_set, qC, List.length_set]) (fun k => ?_)
 rw [zdt _ _ _ h.nodup (fun j hj => ?_), ym, ym, h.get, qC]
 ·by_cases hk : k ∈ ns
  ·rw [if_pos hk, if_neg (show ¬ (n = k /\ k < S.now.length) from fun e => hn (e.1 ▸ hk)), if_pos hk, if_neg (show ¬ (n = k /\ k < S.now.length) from fun e => hn (e.1 ▸ hk))]
   have := (h.each k hk).2.2.1
   omega
  ·rw [if_neg hk, if_neg hk]
 ·obtain ⟨g1, g2, g3, g4⟩ := h.each j hj
  refine ⟨g1, by rw [List.length_set, qC]; exact g2, ?_⟩
  rw [ym, if_neg (show ¬ (n = j /\ j < (onL S.now ns).length) from fun e => hn (e.1 ▸ hj)), h.get, if_pos hj]
  decide
theorem zea {p : Nat -> Bool} {n N : Nat} (hn : n < N) (hp : p n = true) (hno : ∀ j, j < n -> p j = false) : (List.range N).findIdx p = n := by
 have h1 : (List.range N).findIdx p < (List.range N).length := List.findIdx_lt_length_of_exists ⟨n, List.mem_range.2 hn, hp⟩
 rw [List.length_range] at h1
 rcases Nat.lt_trichotomy ((List.range N).findIdx p) n with h | h | h
 ·have := List.findIdx_getElem (p := p) (xs := List.range N) (w := by rw [List.length_range]; exact h1)
  rw [List.getElem_range, hno _ h] at this
  cases this
 ·exact h
 ·have := List.not_of_lt_findIdx (p := p) (xs := List.range N) h
  rw [List.getElem_range, hp] at this
  simp at this
theorem zP {S : Spa} {n : Nat} : S.yq n = true ↔ S.now.getD n 0 = 0 /\ S.held.getD n 0 = 0 /\ cnt S.mark n = 0 := by simp [Spa.yq, and_assoc]
theorem jR {l hl : List Nat} {n : Nat} : qz l hl n = true ↔ l.getD n 0 = 0 /\ hl.getD n 0 = 0 := by simp [qz]
theorem Marked.take {S : Spa} {ns : List Nat} (h : Marked S ns) (hlt : zB (onL S.now ns) S.held < S.now.length) (h0 : cnt S.mark (zB (onL S.now ns) S.held) = 0) : S.zB = zB (onL S.now ns) S.held := by
 have hf := jR.1 (zdn (l := onL S.now ns) (hl := S.held) (by rw [qC]; exact hlt))
 have hg := h.get (zB (onL S.now ns) S.held)
 refine zea hlt (zP.2 ⟨?_, hf.2, h0⟩) (fun j hj => ?_)
 ·by_cases hk : zB (onL S.now ns) S.held ∈ ns
  ·exact absurd h0 (h.each _ hk).2.2.2
  ·rw [if_neg hk] at hg; omega
 ·have := zb4 hj
  cases hq : S.yq j with
  | false => rfl
  | true =>
   obtain ⟨g1, g2, g3⟩ := zP.1 hq
   have hgj := h.get j
   by_cases hk : j ∈ ns
   ·exact absurd g3 (h.each _ hk).2.2.2
   ·rw [if_neg hk] at hgj
    rw [jR.2 ⟨by omega, g2⟩] at this
    cases this
theorem Marked.none {S : Spa} {ns : List Nat} (h : Marked S ns) (hlt : ¬ zB (onL S.now ns) S.held < S.now.length) : ¬ S.zB < S.now.length := by
 intro hh
 have hp := List.findIdx_getElem (p := S.yq) (xs := List.range S.now.length) (w := by rw [List.length_range]; exact hh)
 rw [List.getElem_range] at hp
 obtain ⟨g1, g2, g3⟩ := zP.1 hp
 have hgj := h.get S.zB
 have hk : S.zB ∉ ns := fun hk => absurd g3 (h.each _ hk).2.2.2
 have g1' : S.now.getD S.zB 0 = 0 := g1
 rw [if_neg hk] at hgj
 have := zb4 (l := onL S.now ns) (hl := S.held) (i := S.zB) (by omega)
 have hf : qz (onL S.now ns) S.held S.zB = true := jR.2 ⟨by omega, g2⟩
 rw [hf] at this
 cases this
variable {w w' : World} {b db : Nat} {S : Spa} {F Fd : Nat -> Prop} {x : SLC} {hb hr nb nr : Nat} {m : MkL}
theorem zmu (h : SpM w b db S F Fd x hb hr nb nr m) :
  Calls Tryz.prog 116 #[.pointer (some ⟨nb, 0, none⟩), .pointer (some ⟨hb, 0, none⟩)] w (Ret fun v w' => v = .tuple #[.int .u32 ((takeN S.now S.held : Nat) : Int), .int .i64 (yM S.now S.held)] /\ SpM w' b db { S with now := yN S.now S.held } F Fd x hb hr nb nr m /\ w.grownBy w' (some nr)) := by
 obtain ⟨q, c⟩ := h.nowC
 have hnd := h.nodup
 simp only [yJ, List.nodup_cons, List.mem_cons, not_or] at hnd
 refine (zd7 c (.inr ⟨hb, hr, rfl, h.heldC, by rw [h.ok.held, h.ok.now], hnd.2.1.2.2.1, hnd.2.2.1.2.1⟩)).mono (Ret.mono ?_)
 rintro v w' ⟨rfl, hc, hg⟩
 exact ⟨rfl, h.j7 hg hc (by unfold yN; split <;> simp), hg⟩
theorem zff : ∀ {N : Nat} {ns : List Nat}, ns.Nodup -> (∀ n ∈ ns, n < N) -> ns.length <= N
 | 0, ns, _, hb => by
  cases ns with
  | nil => exact Nat.le_refl _
  | cons a r => have := hb a List.mem_cons_self; omega
 | N + 1, ns, h, hb => by
  have h2 := zff (N := N) (ns := ns.erase N) (h.erase N) (fun n hn => by
   have := hb n (List.mem_of_mem_erase hn)
   have := (h.mem_erase_iff.1 hn).1
   omega)
  rw [List.length_erase] at h2
  split at h2 <;> omega
theorem zhA (h : SpM w b db S F Fd x hb hr nb nr m) (h01 : S.now.getD 0 0 ≠ 0 /\ S.now.getD 1 0 ≠ 0) :
  Calls Tryz.prog 77 #[.pointer (some ⟨b, 0, none⟩)] w (Ret fun v w' => v = .tuple #[.int .u32 ((S.takeN : Nat) : Int), .int .i64 S.yM] /\ SpM w' b db { S with now := S.yN } F Fd x hb hr nb nr m /\ Only F w w') := by
 have hFlt := h.lt
 have hnrF : F nr := (h.own nr).2 (.inr (by simp [yJ]))
 have hdim := h.dims
 have hN := hdim.n
 have hlen := h.ok.now
 apply znU
 unfold S77
 refine zr fun r1 w1 hb1 he1 hr1 hs1 => ?_
 refine zr fun r2 w2 hb2 he2 hr2 hs2 => ?_
 have hnr := hFlt nr hnrF
 have hb1 := hb1.ext he2
 have he := he1.trans he2
 have hz := he1.size
 refine zij (fun _ k w' => ∃ (ns : List Nat) (A : Option Addr) (c : Nat), k = S.N - ns.length /\ Marked S ns /\ SpM w' b db { S with now := onL S.now ns } F Fd x hb hr nb nr m /\ Blk w' r1 [.pointer (some ⟨b, 0, none⟩)] 48
  /\ Blk w' r2 [.slice A ns.length c] 54 /\ Owni (zu .u32) 41 w' w2.heap.size A ns.length c ns /\ Only F w w') (S.N - 0) ⟨[], none, 0, rfl, ⟨List.nodup_nil, by simp⟩, h.ext he, hb1, hb2, Owni.nil _ _ _, Only.zG he⟩ ?_
 rintro ⟨⟩ k w3 J ⟨ns, A, c, rfl, hM, hS, g1, g2, g3, g4⟩ hJ
 refine zK fun w4 he4 _ _ => ?_
 have hS := hS.ext he4
 have g1 := g1.ext he4
 have g2 := g2.ext he4
 have g3 := g3.ext he4
 have g4 := Only.trans g4 (Only.zG (F := F) he4) (fun j hj => .inl hj)
 obtain ⟨t, hbx⟩ := hS.box
 refine zo (x := some ⟨b, 0, none⟩) g1 (by rfl) (zs (qK (l := .ptr) 8 (some ⟨nb, 0, none⟩) hbx (by rfl) (by rfl) ?_))
 refine zo (x := some ⟨b, 0, none⟩) g1 (by rfl) (zs (qK (l := .ptr) 7 (some ⟨hb, 0, none⟩) hbx (by rfl) (by rfl) ?_))
 refine zb (zmu hS) ?_
 rintro _ w5 ⟨rfl, hS5, hg5⟩
 refine ⟨(((takeN (onL S.now ns) S.held : Nat) : Int), yM (onL S.now ns) S.held, ()), rfl, ?_⟩
 have hg5' : ∀ j, some nr = some j -> F j \/ w.heap.size <= j := fun j hj => .inl (by injection hj with hj; subst hj; exact hnrF)
 have o5 : Only F w w5 := Only.trans g4 (Only.z7 (F := F) hg5 (fun j hj => .inl (by injection hj with hj; subst hj; exact hnrF))) (fun j hj => .inl hj)
 have g1 := g1.grown hg5 (by simp; omega)
 have g2 := g2.grown hg5 (by simp; omega)
 have hge : ∀ j, orow A = some j -> w2.heap.size <= j := g3.row
 have g3 := g3.grown hg5 (fun j hj e => by injection hj with hj; subst hj; have := hge _ e; have := he.size; omega)
 have hn32 : ∀ n ∈ ns, n < 4294967296 := fun n hn => by have := (hM.each n hn).2.1; omega
 have hAnr : ∀ a, A = some a -> a.block ≠ nr := fun a ha e => by have := hge a.block (by rw [ha]; rfl); have := he.size; omega
 -- the end: what was marked goes back
 have fin : ∀ {l : List Nat} {l' : List Nat} {w6 : World} {v : Value}, SpM w6 b db { S with now := l } F Fd x hb hr nb nr m -> Ext w5 w6 -> subs l ns = l' -> v = .tuple #[.int .u32 ((S.takeN : Nat) : Int), .int .i64 S.yM] -> l' = S.yN ->
   zM Tryz.prog (⟨.fn (.func 122) #[.pointer (some ⟨r2, 0, none⟩), .pointer (some ⟨r1, 0, none⟩)], #[]⟩ :: []) (fun w' => v = .tuple #[.int .u32 ((S.takeN : Nat) : Int), .int .i64 S.yM] /\ SpM w' b db { S with now := S.yN } F Fd x hb hr nb nr m /\ Only F w w') w6 := by
  rintro l l' w6 v hS6 he6 rfl hv hl
  refine .inr ⟨_, _, rfl, by kernel_rfl, ?_⟩
  refine CallsDIn.mono (zeK hS6 (g2.ext he6) (g1.ext he6) ((g3.ext he6).sl) hn32 (by omega) (by omega) hAnr) ?_
  rintro e u' w7 ⟨hu, hR⟩
  refine ⟨hu, ?_⟩
  cases e with
  | returned v7 =>
   obtain ⟨hS7, hg7⟩ := hR
   refine ⟨hv, ?_, ?_⟩
   ·rw [<- hl]; exact hS7
   ·exact Only.trans (Only.trans o5 (Only.zG (F := F) he6) (fun j hj => .inl hj)) (Only.z7 (F := F) hg7 (fun j hj => .inl (by injection hj with hj; subst hj; exact hnrF))) (fun j hj => .inl hj)
  | panicked c => exact hR.elim
  | outgrown => exact hR.elim
 have hol : (onL S.now ns).length = S.now.length := qC _ _
 by_cases hlt : zB (onL S.now ns) S.held < S.now.length
 ·have eN : takeN (onL S.now ns) S.held = zB (onL S.now ns) S.held := by unfold takeN; rw [if_pos (by omega)]
  have eE : yM (onL S.now ns) S.held = 0 := by unfold yM; rw [if_pos (by omega)]
  have eL : yN (onL S.now ns) S.held = (onL S.now ns).set (zB (onL S.now ns) S.held) 1 := by unfold yN; rw [if_pos (by omega)]
  dsimp only at eN eE ⊢
  rw [eN, eE]
  rw [eL] at hS5
  have hf := jR.1 (zdn (l := onL S.now ns) (hl := S.held) (by omega))
  have hget := hM.get (zB (onL S.now ns) S.held)
  generalize hn : zB (onL S.now ns) S.held = n at *
  have hnns : n ∉ ns := fun hk => by rw [if_pos hk] at hget; omega
  rw [if_neg hnns] at hget
  have h2n : 2 <= n := by
   rcases Nat.lt_or_ge n 2 with hh | hh
   ·have : n = 0 \/ n = 1 := by omega
    rcases this with rfl | rfl
    ·exact absurd (by omega : S.now.getD 0 0 = 0) h01.1
    ·exact absurd (by omega : S.now.getD 1 0 = 0) h01.2
   ·exact hh
  refine zc (by rfl) ?_
  obtain ⟨t, hbx⟩ := hS5.box
  refine zo (x := some ⟨b, 0, none⟩) g1 (by rfl) (zs (qK (l := .ptr) 9 (zi5 m) hbx (by rfl) (by rfl) ?_))
  refine zb (zbv hS5 n (by omega)) ?_
  rintro _ w6 ⟨rfl, hw6⟩
  refine ⟨_, rfl, ?_⟩
  rw [hw6]
  dsimp only
  refine zg (fun hz => ?_) (fun hz => ?_)
  ·have hz : cnt S.mark n = 0 := by have := beq_iff_eq.1 hz; omega
   have eT : S.zB = n := by rw [<- hn]; exact hM.take (by rw [hn]; exact hlt) (by rw [hn]; exact hz)
   have e1 : S.takeN = n := by unfold Spa.takeN; rw [eT, if_pos hlt]
   have e2 : S.yM = 0 := by unfold Spa.yM; rw [eT, if_pos hlt]
   have e3 : S.yN = S.now.set n 1 := by unfold Spa.yN; rw [eT, if_pos hlt]
   exact fin hS5 (Ext.refl w5) (hM.zoo hnns) (by rw [e1, e2]) e3.symm
  ·have hz : cnt S.mark n ≠ 0 := by have := beq_eq_false_iff_ne.1 hz; omega
   have hM' : Marked S (ns ++ [n]) := by
    refine ⟨?_, fun k hk => ?_⟩
    ·rw [List.nodup_append]
     exact ⟨hM.nodup, by simp, fun a ha c hc e => by simp at hc; subst hc; subst e; exact hnns ha⟩
    ·rcases List.mem_append.1 hk with hk | hk
     ·exact hM.each k hk
     ·rw [List.mem_singleton.1 hk]; exact ⟨h2n, hlt, by omega, hz⟩
   have hlen1 := zff hM'.nodup (fun k hk => (hM'.each k hk).2.1)
   rw [List.length_append, List.length_singleton] at hlen1
   refine zo (x := (A, ns.length, c)) g2 (by rfl) ?_
   have hle := g3.le
   dsimp only
   refine yZ (E := zu .u32) (ys := [n]) (by rfl) rfl jD g3 (by have := he4.size; have := hg5.size; have := g4.2.2.2.1; have := he.size; have hh := g2.lt; omega) (by omega) (by omega) ?_
   intro A' c' w7 ho7 hg7
   have hx7 : ∀ j, orow A = some j -> ¬ F j := fun j hj hf => by have := hge j hj; have := hFlt j hf; have := he.size; omega
   have o7 : Only (fun j => orow A = some j) w5 w7 := Only.z7 hg7.grown (fun j hj => .inl hj)
   have hS7 := hS5.only o7 (fun j hj e => hx7 j e hj)
   have g1 := g1.only o7 (fun e => by have := hge _ e; omega)
   have g2 := g2.only o7 (fun e => by have := hge _ e; omega)
   refine zO g2 (by show 0 < 1; omega) ?_
   have hg8 := yF w7 r2 0 (.slice A' (ns.length + 1) c')
   have o8 : Only (fun j => j = r2) w7 (w7.setCell ⟨r2, 0, none⟩ (.slice A' (ns.length + 1) c')) := Only.z7 hg8 (fun j hj => .inl (by injection hj with hj; exact hj.symm))
   have hr2F : ¬ F r2 := fun hf => by have := hFlt r2 hf; omega
   have hAr2 : ∀ j, orow A' = some j -> j ≠ r2 := fun j hj e => by
    have := ho7.row j hj
    omega
   refine hJ () (S.N - (ns ++ [n]).length) _ (by rw [List.length_append, List.length_singleton]; omega) ⟨ns ++ [n], A', c', rfl, hM', ?_, g1.only o8 (by omega), ?_, ?_, ?_⟩
   ·rw [zi9]
    exact hS7.only o8 (fun j hj e => hr2F (by rw [<- show j = r2 from e]; exact hj))
   ·rw [List.length_append, List.length_singleton]
    exact g2.set 0 _
   ·rw [List.length_append, List.length_singleton]
    exact ho7.only o8 (fun j hj e => hAr2 j hj e)
   ·refine Only.trans (Only.trans o5 o7 (fun j hj => .inr (by have := hge j hj; have := he.size; omega))) o8 (fun j hj => .inr (by have : j = r2 := hj; omega))
 ·have eN : takeN (onL S.now ns) S.held = 0 := by unfold takeN; rw [if_neg (by omega)]
  have eE : yM (onL S.now ns) S.held = 9 := by unfold yM; rw [if_neg (by omega)]
  have eL : yN (onL S.now ns) S.held = onL S.now ns := by unfold yN; rw [if_neg (by omega)]
  dsimp only at eN eE ⊢
  rw [eN, eE]
  rw [eL] at hS5
  refine zf (by rfl) ?_
  have hno := hM.none hlt
  have e1 : S.takeN = 0 := by unfold Spa.takeN; rw [if_neg hno]
  have e2 : S.yM = 9 := by unfold Spa.yM; rw [if_neg hno]
  have e3 : S.yN = S.now := by unfold Spa.yN; rw [if_neg hno]
  exact fin hS5 (Ext.refl w5) hM.back (by rw [e1, e2]) e3.symm
end V
/- Contracts of the package space: page, Get. -/
namespace V
open Go Go.Proofs Go.RowKit Crc
theorem zja {w : World} {lo b : Nat} {bs : List UInt8} (h : Rdr w lo b bs) :
  Calls Tryz.prog 178 #[.pointer (some ⟨b, 0, none⟩)] w (Ret fun v w' => v = .int .i64 (bs.length : Int) /\ w' = w) := by
 obtain ⟨A, n, c, t, hb, hs, hc, ha, hlo⟩ := h
 have hl := hs.blen
 apply zlK
 unfold S178
 refine zc (by rfl) (zs (zE (A, n, c) hb (by rfl) ⟨?_, rfl⟩))
 rw [hl]
theorem zhB {w : World} {lo b k : Nat} {bs : List UInt8} (h : Rdr w lo b bs) (hk : k <= 1000000) :
  Calls Tryz.prog 177 #[.pointer (some ⟨b, 0, none⟩), .int .i64 (k : Int)] w (Ret fun v w' => ∃ A n c, v = .tuple #[.slice A n c, .int .i64 (rd bs k).2.1] /\ Sl w' A n (bV (if bs.length < k then [] else bs.take k)) /\ w.grownBy w' (some b)) := by
 apply zlJ
 unfold S177
 refine zc (by rfl) (zc (decide_eq_false (by omega)) ?_)
 refine zb (zcQ h hk) ?_
 rintro _ w1 ⟨A, n, c, rfl, hs, hr, hg⟩
 refine ⟨((A, n, c), (rd bs k).2.1, ()), rfl, ?_⟩
 have hl := hs.blen
 have hn : n <= 1000000 := by
  split at hl
  ·simp only [List.length_nil] at hl; omega
  ·rw [List.length_take] at hl; omega
 refine zb (zcP hs (by dsimp only; omega)) ?_
 rintro _ w2 ⟨⟨A2, n2, c2⟩, rfl, ho2, he2⟩
 refine ⟨(A2, n2, c2), rfl, A2, n2, c2, rfl, ho2.sl, xa hg (xL he2 none) (fun j hj => by cases hj)⟩
def pgV (p : Page) (y : SLC) : List Value := [.int .u8 (p.1.toNat : Int), .slice y.1 y.2.1 y.2.2, .string p.2.2]
def pgT (p : Page) (y : SLC) : Int × SLC × ByteArray × Unit := ((p.1.toNat : Int), y, p.2.2, ())
abbrev zeL : List Lf := [.int .u8, .slc, .str]
theorem jS (p : Page) (y : SLC) : ∀ v ∈ pgV p y, v.oneCell' = true := by
 intro v hv
 simp only [pgV, List.mem_cons, List.not_mem_nil, or_false] at hv
 rcases hv with rfl | rfl | rfl <;> rfl
theorem zdu {w : World} {r : Nat} {cs : List Value} {t : TypeId} {K : (Int × SLC × ByteArray × Unit) -> WP} {us : Array Value} (p : Page) (y : SLC) (hb : Blk w r cs t) (hl : cs.length = 3) (hu : us.size = 3)
  (hK : ∀ w', Blk w' r (pgV p y) t -> (∀ w0, Ext w0 w -> w0.heap.size <= r -> Ext w0 w') -> (∀ k : Nat, k ≠ r -> w'.heap[k]? = w.heap[k]?) -> w'.heap.size = w.heap.size -> K (pgT p y) w') :
  (zd (us.size = 3) <| zt (aD r) (pgV p y) <| zk zeL (aD r) K) w :=
 refill (vs := pgV p y) hb (by rw [hl]; rfl) (jS p y) hu fun w' hb' hx hs hz => zW (ls := zeL) (pgT p y) hb' rfl (hK w' hb' hx hs hz)
theorem zjb {w : World} {r : Nat} {t : TypeId} {K : (Int × SLC × ByteArray × Unit) -> WP} (p : Page) (y : SLC) (hb : Blk w r (pgV p y) t)
  (hK : ∀ w', (∀ w0, Ext w0 w -> w0.heap.size <= r -> Ext w0 w') -> (∀ k : Nat, k ≠ r -> w'.heap[k]? = w.heap[k]?) -> w'.heap.size = w.heap.size -> K (pgT p y) w') :
  (zk zeL (aD r) fun (u : Int × SLC × ByteArray × Unit) => zd ((#[(.int .u8 u.1), (.slice u.2.1.1 u.2.1.2.1 u.2.1.2.2), (.string u.2.2.1)] : Array Value).size = 3) <| zt (aD r) [(.int .u8 u.1), (.slice u.2.1.1 u.2.1.2.1 u.2.1.2.2), (.string u.2.2.1)] <| zk zeL (aD r) K) w :=
 zW (ls := zeL) (pgT p y) hb rfl (zdu p y hb rfl rfl fun w' _ hx hs hz => hK w' hx hs hz)
def zfO (w : World) (p : Page × Int) (v : Value) (w' : World) : Prop := ∃ y : SLC, v = .tuple #[.agg (pgV p.1 y).toArray, .int .i64 p.2] /\ Owni (zu .u32) 41 w' w.heap.size y.1 y.2.1 y.2.2 p.1.2.1 /\ Ext w w'
theorem jc {w w' : World} (he : Ext w w') (e : Int) : zfO w (yU, e) (.tuple #[.agg (pgV yU (none, 0, 0)).toArray, .int .i64 e]) w' := ⟨(none, 0, 0), rfl, Owni.nil _ _ _, he⟩
theorem Owni.xO {α : Type} {E : Enc α} {e : TypeId} {w w' : World} {B : Nat} {A : Option Addr} {n c r : Nat} {xs : List α} (h : Owni E e w B A n c xs) (hr : r < B) (hz : w'.heap.size = w.heap.size) (ho : w'.os = w.os) (ht : w'.tape = w.tape) (hu : w'.output = w.output) (hs : ∀ k : Nat, k ≠ r -> w'.heap[k]? = w.heap[k]?) : Owni E e w' B A n c xs :=
 h.only (F := fun k => k = r) ⟨ho, ht, hu, Nat.le_of_eq hz.symm, fun k _ hk => hs k hk⟩ (fun j hj e => by have := h.row j hj; have : j = r := e; omega)
variable {w w' : World} {b db : Nat} {S : Spa} {F Fd : Nat -> Prop} {x : SLC} {hb hr nb nr : Nat} {m : MkL}
theorem zgA (h : SpM w b db S F Fd x hb hr nb nr m) (s : ByteArray) (hs : s.size <= 1000000) :
  Calls Tryz.prog 138 #[.pointer (some ⟨b, 0, none⟩), .string s] w (Ret (zfO w (xQ S.N (B s)))) := by
 have hdim := h.dims
 have hN := hdim.n
 have hbl := hdim.blocks
 apply zlk
 unfold S138
 refine zr fun r1 w1 hb1 he1 hr1 hz1 => ?_
 have hb1 : Blk w1 r1 (pgV yU (none, 0, 0)) _ := hb1
 refine zb (ziZ w1 s (by omega)) ?_
 rintro _ w2 ⟨rfl, he2⟩
 refine ⟨(fT (yh (B s)).1, (yh (B s)).2, ()), rfl, ?_⟩
 refine boxed (f := (yh (B s)).1) fun r3 w3 hb3 he3 hr3 => ?_
 have hb1 := (hb1.ext he2).ext he3
 have he := (he1.trans he2).trans he3
 have hz2 := he2.size
 have hz3 := he3.size
 have hlt1 : r1 < w3.heap.size := hb1.lt
 have hlt3 : r3 < w3.heap.size := hb3.lt
 have hbad : ∀ {w4 : World}, Ext w w4 -> (xQ S.N (B s)).2 ≠ 0 \/ (xQ S.N (B s)) = (yU, 10) -> xQ S.N (B s) = (yU, 10) := by
  intro w4 _ hh
  rcases hh with hh | hh
  ·unfold xQ at hh ⊢
   split
   ·rename_i hc; rw [if_pos hc] at hh; exact absurd rfl hh
   ·rfl
  ·exact hh
 refine zg (fun hq => ?_) (fun hq => ?_)
 ·have hq := bne_iff_ne.1 hq
  have ep : xQ S.N (B s) = (yU, 10) := by unfold xQ; rw [if_neg (fun hc => hq hc.1)]
  refine zjb yU (none, 0, 0) hb1 fun w4 hx _ _ => ?_
  rw [ep]
  exact jc (hx w he (by omega)) 10
 have hg0 := bne_eq_false_iff_eq.1 hq
 refine zE (((yh (B s)).1.1.toNat : Nat) : Int) hb3 (by rfl) ?_
 refine zg (fun hq => ?_) (fun hq => ?_)
 ·have hq := of_decide_eq_true hq
  have ep : xQ S.N (B s) = (yU, 10) := by unfold xQ; rw [if_neg (fun hc => by omega)]
  refine zjb yU (none, 0, 0) hb1 fun w4 hx _ _ => ?_
  rw [ep]
  exact jc (hx w he (by omega)) 10
 have hq3 : 3 <= (yh (B s)).1.1.toNat := by have := of_decide_eq_false hq; omega
 have hdl : (B (yh (B s)).1.2.2).length <= 4096 := by
  obtain ⟨_, _, _, q4, _⟩ := zeA (by rw [(ue hg0).2])
  rw [(ue hg0).1]
  have hsz := yg s
  have := zeA (size := ((B s).length : Int)) (f := xf (B s)) (by rw [(ue hg0).2])
  omega
 have hpg : xQ S.N (B s) = if zaD S.N (B (yh (B s)).1.2.2) then (((yh (B s)).1.1, j6 (B (yh (B s)).1.2.2), mkB ((B (yh (B s)).1.2.2).drop (2 + 4 * lev ((B (yh (B s)).1.2.2).take 2)))), 0) else (yU, 10) := by
  unfold xQ
  by_cases hc : zaD S.N (B (yh (B s)).1.2.2)
  ·rw [if_pos ⟨hg0, hq3, hc⟩, if_pos hc]
  ·rw [if_neg (fun hh => hc hh.2.2), if_neg hc]
 rw [hpg]
 clear hpg hbad
 generalize (yh (B s)).1 = f at *
 refine zn 2 f.2.2 hb3 (by rfl) ?_
 refine kN (u := .string) (e := 5) (by kernel_rfl) (by kernel_rfl) (by kernel_rfl) (by have := yg f.2.2; omega) ?_
 intro c w4 hsl he4 hs4 hc4
 have hb1 := hb1.ext he4
 have hb3 := hb3.ext he4
 have he4 := he.trans he4
 have hlt14 := hb1.lt
 have hlt34 := hb3.lt
 refine zb (ziV hsl (by have := yg f.2.2; dsimp only; omega)) ?_
 rintro _ w5 ⟨rb, rfl, hrb, hrd, he5⟩
 refine ⟨some ⟨rb, 0, none⟩, rfl, ?_⟩
 have hb1 := hb1.ext he5
 have hb3 := hb3.ext he5
 have he5' := he4.trans he5
 generalize hd : B f.2.2 = d at *
 refine zb (zbW (k := 2) hrd (by omega) (by omega)) ?_
 rintro _ w6 ⟨rfl, hrd6, hg6⟩
 have hb1 := hb1.grown hg6 (by simp; omega)
 have hb3 := hb3.grown hg6 (by simp; omega)
 have he6 : Ext w w6 := he5'.grown hg6 (fun j hj => by injection hj with hj; have := he4.size; omega)
 refine ⟨(((rd d 2).1 : Int), (rd d 2).2.1, ()), rfl, ?_⟩
 dsimp only
 by_cases hl2 : d.length < 2
 ·have e1 : rd d 2 = (0, 7, d) := by unfold rd; rw [if_pos hl2]
  rw [e1]
  refine zf (by rfl) ?_
  refine zjb yU (none, 0, 0) hb1 fun w7 hx _ _ => ?_
  rw [if_neg (fun hc => by have := hc.1; omega)]
  exact jc (hx w he6 (by omega)) 10
 have e1 : rd d 2 = (lev (d.take 2), 0, d.drop 2) := by unfold rd; rw [if_neg hl2]
 have hk16 : lev (d.take 2) < 65536 := by
  have := zo1 d
  rw [e1] at this
  exact this
 rw [e1] at hrd6 ⊢
 dsimp only at hrd6 ⊢
 refine zc (by rfl) ?_
 refine zE ((f.1.toNat : Nat) : Int) hb3 (by rfl) ?_
 refine zO hb1 (by show 0 < 3; omega) ?_
 have hg7 := yF w6 r1 0 (.int .u8 (f.1.toNat : Int))
 have hb1 : Blk (w6.setCell ⟨r1, 0, none⟩ (.int .u8 (f.1.toNat : Int))) r1 (pgV (f.1, [], ByteArray.empty) (none, 0, 0)) _ := hb1.set 0 (.int .u8 (f.1.toNat : Int))
 have hrd7 := hrd6.grown hg7 (fun j hj => by injection hj with hj; left; omega)
 have he7 := he6.grown hg7 (fun j hj => by injection hj with hj; omega)
 generalize hw7 : w6.setCell ⟨r1, 0, none⟩ (.int .u8 (f.1.toNat : Int)) = w7 at *
 generalize hk : lev (d.take 2) = k at *
 have hr1w : r1 < w4.heap.size := hlt14
 have h45 := he5.size
 have h67 : w6.heap.size <= w7.heap.size := by rw [<- hw7]; simp
 have h56 := hg6.size
 refine zx (fun y w' => ∃ (i : Nat) (A : Option Addr) (c : Nat), i <= k /\ y = ((i : Int), ()) /\ 2 + 4 * i <= d.length /\ (∀ n ∈ yH i (d.drop 2), 2 <= n /\ n < S.N) /\ Ext w w' /\ w7.heap.size <= w'.heap.size /\ Rdr w' w4.heap.size rb (d.drop (2 + 4 * i)) /\ Blk w' r1 (pgV (f.1, [], ByteArray.empty) (A, i, c)) 56
   /\ Owni (zu .u32) 41 w' w7.heap.size A i c (yH i (d.drop 2))) (fun y => (k - y.1).toNat) ⟨0, none, 0, by omega, rfl, by omega, by simp [yH], he7, Nat.le_refl _, hrd7, hb1, Owni.nil _ _ _⟩ ?_
 rintro _ w8 ⟨i, A, c, hi, rfl, hdl8, hok, he8, hz8, hrd8, hb8, ho8⟩
 dsimp only
 by_cases hlt : i < k
 ·refine zf (decide_eq_true (by omega)) ?_
  refine zb (zbW (k := 4) hrd8 (by omega) (by omega)) ?_
  rintro _ w9 ⟨rfl, hrd9, hg9⟩
  have hb9 := hb8.grown hg9 (by simp; omega)
  have hrdlt := hrd8.lt
  have hrb7 : rb < w7.heap.size := by have := hrd7.lt; omega
  have ho9 := ho8.grown hg9 (fun j hj e => by injection hj with hj; have := ho8.row _ e; omega)
  have he9 : Ext w w9 := he8.grown hg9 (fun j hj => by injection hj with hj; have := he4.size; omega)
  refine ⟨(((rd (d.drop (2 + 4 * i)) 4).1 : Int), (rd (d.drop (2 + 4 * i)) 4).2.1, ()), rfl, ?_⟩
  dsimp only
  by_cases hshort : d.length < 2 + 4 * i + 4
  ·have e2 : rd (d.drop (2 + 4 * i)) 4 = (0, 7, d.drop (2 + 4 * i)) := by unfold rd; rw [if_pos (by rw [List.length_drop]; omega)]
   rw [e2]
   refine zf (by rfl) (zdu yU (none, 0, 0) hb9 (by rfl) (by rfl) fun w10 _ hx _ _ => ?_)
   rw [if_neg (fun hc => by have := hc.2.1; rw [hk] at this; omega)]
   exact jc (hx w he9 (by omega)) 10
  have e2 : rd (d.drop (2 + 4 * i)) 4 = (lev ((d.drop (2 + 4 * i)).take 4), 0, (d.drop (2 + 4 * i)).drop 4) := by unfold rd; rw [if_neg (by rw [List.length_drop]; omega)]
  have hn32 : lev ((d.drop (2 + 4 * i)).take 4) < 4294967296 := by
   have := zke (d.drop (2 + 4 * i))
   rw [e2] at this
   exact this
  rw [e2] at hrd9 ⊢
  dsimp only at hrd9 ⊢
  refine zc (by rfl) ?_
  have hmem : ∀ (hlen : 2 + 4 * k <= d.length), lev ((d.drop (2 + 4 * i)).take 4) ∈ j6 d := by
   intro _
   unfold j6 yH
   rw [hk]
   refine List.mem_map.2 ⟨i, List.mem_range.2 hlt, ?_⟩
   rw [List.drop_drop]
  generalize hn : lev ((d.drop (2 + 4 * i)).take 4) = n at *
  refine zg (fun hq => ?_) (fun hq => ?_)
  ·have hq := of_decide_eq_true hq
   refine zdu yU (none, 0, 0) hb9 (by rfl) (by rfl) fun w10 _ hx _ _ => ?_
   rw [if_neg (fun hc => by have h1 := hc.2.1; rw [hk] at h1; have := hc.2.2 n (hmem h1); omega)]
   exact jc (hx w he9 (by omega)) 10
  have hq2 := of_decide_eq_false hq
  obtain ⟨t, hbx⟩ := (h.ext he9).box
  refine zs (qK 3 S.sup.blocks hbx (by rfl) (by rfl) ?_)
  have eb : IntKind.wrap .u64 S.sup.blocks = (S.N : Int) := by rw [hbl, zy (by omega)]
  rw [eb]
  refine zg (fun hq => ?_) (fun hq => ?_)
  ·have hq := of_decide_eq_true hq
   refine zdu yU (none, 0, 0) hb9 (by rfl) (by rfl) fun w10 _ hx _ _ => ?_
   rw [if_neg (fun hc => by have h1 := hc.2.1; rw [hk] at h1; have := hc.2.2 n (hmem h1); omega)]
   exact jc (hx w he9 (by omega)) 10
  have hq3 := of_decide_eq_false hq
  refine zn (l := .slc) 1 (A, i, c) hb9 (by rfl) ?_
  dsimp only
  rw [uu (by omega)]
  have hle := ho9.le
  refine yZ (E := zu .u32) (ys := [n]) (by rfl) rfl jD ho9 (by have := hg9.size; omega) (by omega) (by omega) ?_
  intro A' c' w10 ho10 hg10
  have hx10 : ∀ j, orow A = some j -> w7.heap.size <= j := fun j hj => ho9.row j hj
  have hb10 := hb9.grown hg10.grown (fun e => by have := hx10 r1 e.symm; omega)
  have hrd10 := hrd9.grown hg10.grown (fun j hj => by have := hx10 j hj; omega)
  have he10 : Ext w w10 := he9.grown hg10.grown (fun j hj => by have := hx10 j hj; have := he7.size; omega)
  rw [zz]
  refine zO hb10 (by show 0 + 1 < 3; omega) ?_
  have hg11 := yF w10 r1 (0 + 1) (.slice A' (i + 1) c')
  have hb11 := hb10.set (0 + 1) (.slice A' (i + 1) c')
  have ho11 := ho10.grown hg11 (fun j hj e => by injection hj with hj; have := ho10.row _ e; omega)
  have ew : yH (i + 1) (d.drop 2) = yH i (d.drop 2) ++ [n] := by rw [zgu, List.drop_drop, hn]
  refine ⟨⟨i + 1, A', c', by omega, by rw [wrap_u64, show ((i : Int) + 1) % 18446744073709551616 = ((i + 1 : Nat) : Int) by omega], by omega, ?_, he10.grown hg11 (fun j hj => by injection hj with hj; omega), ?_, ?_, hb11, by rw [ew]; exact ho11⟩, by rw [wrap_u64]; omega⟩
  ·rw [ew]
   intro a ha
   rcases List.mem_append.1 ha with ha | ha
   ·exact hok a ha
   ·rw [List.mem_singleton.1 ha]; omega
  ·exact Nat.le_trans (Nat.le_trans (Nat.le_trans hz8 hg9.size) hg10.grown.size) hg11.size
  ·have := hrd10.grown hg11 (fun j hj => by injection hj with hj; left; omega)
   rw [List.drop_drop] at this
   rw [show 2 + 4 * (i + 1) = 2 + 4 * i + 4 by omega]
   exact this
 obtain rfl : i = k := by omega
 refine zc (decide_eq_false (by omega)) ?_
 refine zb (zja hrd8) ?_
 rintro _ w9 ⟨rfl, hw9⟩
 refine ⟨_, rfl, ?_⟩
 rw [hw9]
 refine zb (zhB hrd8 (by rw [List.length_drop]; omega)) ?_
 rintro _ w10 ⟨A2, n2, c2, rfl, hs10, hg10⟩
 refine ⟨((A2, n2, c2), (rd (d.drop (2 + 4 * i)) (d.drop (2 + 4 * i)).length).2.1, ()), rfl, ?_⟩
 have e3 : rd (d.drop (2 + 4 * i)) (d.drop (2 + 4 * i)).length = (lev ((d.drop (2 + 4 * i)).take (d.drop (2 + 4 * i)).length), 0, (d.drop (2 + 4 * i)).drop (d.drop (2 + 4 * i)).length) := by unfold rd; rw [if_neg (by omega)]
 rw [if_neg (by omega), List.take_length] at hs10
 rw [e3]
 dsimp only
 have hrb7 : rb < w7.heap.size := by have := hrd7.lt; omega
 have hb10 := hb8.grown hg10 (by simp; omega)
 have ho10 := ho8.grown hg10 (fun j hj e => by injection hj with hj; have := ho8.row _ e; omega)
 have he10 : Ext w w10 := he8.grown hg10 (fun j hj => by injection hj with hj; have := he4.size; omega)
 refine qI (e := 5) (by kernel_rfl) (by kernel_rfl) (by kernel_rfl) hs10 ?_
 rw [zz]
 refine zO hb10 (by show 0 + 2 < 3; omega) ?_
 have hg11 := yF w10 r1 (0 + 2) (.string (mkB (d.drop (2 + 4 * i))))
 have hb11 : Blk (w10.setCell ⟨r1, 0 + 2, none⟩ (.string (mkB (d.drop (2 + 4 * i))))) r1 (pgV (f.1, yH i (d.drop 2), mkB (d.drop (2 + 4 * i))) (A, i, c)) _ := hb10.set (0 + 2) (.string (mkB (d.drop (2 + 4 * i))))
 have ho11 := ho10.grown hg11 (fun j hj e => by injection hj with hj; have := ho10.row _ e; omega)
 have he11 := he10.grown hg11 (fun j hj => by injection hj with hj; omega)
 refine zjb _ (A, i, c) hb11 fun w12 hx hs12 hz12 => ?_
 have hxx := hx _ (Ext.refl _)
 have ekd : j6 d = yH i (d.drop 2) := by unfold j6; rw [hk]
 rw [if_pos ⟨by omega, by rw [hk]; omega, by rw [ekd]; exact hok⟩, ekd]
 have he12 := hx w he11 (by omega)
 refine ⟨(A, i, c), rfl, ?_, he12⟩
 refine Owni.lower ?_ (show w.heap.size <= w7.heap.size from he7.size)
 refine ho11.xO (r := r1) (by omega) hz12 ?_ ?_ ?_ hs12
 ·exact he12.os.trans he11.os.symm
 ·exact he12.tape.trans he11.tape.symm
 ·exact he12.output.trans he11.output.symm
theorem zhC (h : SpM w b db S F Fd x hb hr nb nr m) (k : Int) :
  Calls Tryz.prog 137 #[.pointer (some ⟨db, 0, none⟩), .int .i64 k] w (Ret fun v w' => v = .tuple #[.string (S.dev.read k).1, .int .i64 (S.dev.read k).2] /\ Ext w w') := ziX h.dev k
theorem Dev.Ok.read {d : Dev} (h : d.Ok) {k : Int} (h0 : 0 <= k) (h1 : k < d.blocks) : (d.read k).2 = 0 /\ ((d.read k).1.size : Int) = d.size := by
 unfold Dev.read
 rw [if_neg (fun hh => hh ⟨h0, h1⟩)]
 refine ⟨rfl, ?_⟩
 have hl := uC d.pen d.dur
 have hlen := h.len
 have he := zbX (n := d.size) d.pen d.dur h.each (fun p hp => (h.pend p hp).2.2)
 have hk : k.toNat < (d.pen.foldl Go.Proofs.YtplgodmmmppmeaaGreat.V.put d.dur).length := by rw [hl]; omega
 show (((d.pen.foldl Go.Proofs.YtplgodmmmppmeaaGreat.V.put d.dur).getD k.toNat ByteArray.empty).size : Int) = _
 rw [List.getD_eq_getElem?_getD, List.getElem?_eq_getElem hk]
 exact he _ (List.getElem_mem hk)
theorem vF {S : Spa} {n : Nat} : S.asked n = true ↔ 2 <= n /\ n < S.N /\ n ∉ S.sup.pages := by simp [Spa.asked]
theorem vT (h : SpM w b db S F Fd x hb hr nb nr m) {n : Nat} (hn : n < 4294967296) :
  Calls Tryz.prog 88 #[.pointer (some ⟨b, 0, none⟩), .int .u32 (n : Int)] w (Ret (zfO w (S.get n))) := by
 have hdim := h.dims
 have hN := hdim.n
 have hbl := hdim.blocks
 have hsz := hdim.size
 apply zn5
 unfold S88 Spa.get
 refine zr fun r1 w1 hb1 he1 hr1 hz1 => ?_
 have hb1 : Blk w1 r1 (pgV yU (none, 0, 0)) _ := hb1
 refine zc (by rfl) ?_
 refine zb (vy (h.ext he1) hn) ?_
 rintro _ w2 ⟨rfl, hw2⟩
 refine ⟨_, rfl, ?_⟩
 rw [hw2]
 refine zg (fun hq => ?_) (fun hq => ?_)
 ·have hq : S.asked n = false := by simpa using hq
  rw [if_pos hq]
  refine zdu yU (none, 0, 0) hb1 (by rfl) (by rfl) fun w3 _ hx _ _ => ?_
  exact jc (hx w he1 (by omega)) 2
 have hq : S.asked n = true := by simpa using hq
 rw [if_neg (by rw [hq]; simp)]
 obtain ⟨t, hbx⟩ := (h.ext he1).box
 refine zs (qK (l := .ptr) 8 (some ⟨nb, 0, none⟩) hbx (by rfl) (by rfl) ?_)
 refine zb (kQ (h.ext he1) n hn) ?_
 rintro _ w3 ⟨rfl, hw3⟩
 refine ⟨_, rfl, ?_⟩
 rw [hw3]
 refine zg (fun hz => ?_) (fun hz => ?_)
 ·have hz : S.now.getD n 0 = 0 := by have := beq_iff_eq.1 hz; omega
  rw [if_pos hz]
  refine zdu yU (none, 0, 0) hb1 (by rfl) (by rfl) fun w3 _ hx _ _ => ?_
  exact jc (hx w he1 (by omega)) 8
 have hz : ¬ S.now.getD n 0 = 0 := by have := beq_eq_false_iff_ne.1 hz; omega
 rw [if_neg hz]
 refine zs (zE (l := .ptr) (some ⟨db, 0, none⟩) hbx (by rfl) ?_)
 rw [wrap_i64 (by omega) (by omega)]
 refine zb (zhC (h.ext he1) (n : Int)) ?_
 rintro _ w4 ⟨rfl, he4⟩
 obtain ⟨a1, a2, a3⟩ := vF.1 hq
 have hrd := h.dev.ok.read (k := (n : Int)) (by omega) (by rw [<- h.ok.blocks]; omega)
 refine ⟨((S.dev.read n).1, (S.dev.read n).2, ()), rfl, ?_⟩
 rw [hrd.1]
 refine zc (by rfl) ?_
 have hb1 := hb1.ext he4
 have he14 := he1.trans he4
 have hr14 : r1 < w4.heap.size := hb1.lt
 refine zb (zgA (h.ext he14) (S.dev.read n).1 (by have := hrd.2; have := h.ok.size; omega)) ?_
 rintro _ w5 ⟨y, rfl, ho5, he5⟩
 refine ⟨(pgT (xQ S.N (B (S.dev.read n).1)).1 y, (xQ S.N (B (S.dev.read n).1)).2, ()), rfl, ?_⟩
 have he15 := he14.trans he5
 refine zdu (xQ S.N (B (S.dev.read n).1)).1 y (hb1.ext he5) (by rfl) (by rfl) fun w6 _ hx hs6 hz6 => ?_
 have he16 := hx w he15 (by omega)
 refine ⟨y, rfl, ?_, he16⟩
 refine Owni.lower ?_ (show w.heap.size <= w4.heap.size from he14.size)
 exact ho5.xO (r := r1) (by omega) hz6 (he16.os.trans he15.os.symm) (he16.tape.trans he15.tape.symm) (he16.output.trans he15.output.symm) hs6
end V
/- Contracts of the package space: write, Put. -/
namespace V
open Go Go.Proofs Go.RowKit Crc
theorem zb9 {w : World} {db : Nat} {d : Dev} {Fd : Nat -> Prop} (h : xb w db d Fd) (k : Nat) (hk : k < 4294967296) (f : Fra) (hg : f.2.1 < 18446744073709551616) (hn : d.pen.length <= 1000000) :
  Calls Tryz.prog 78 #[.pointer (some ⟨db, 0, none⟩), .int .u32 (k : Int), .agg (fV f).toArray] w (Ret fun v w' => v = .int .i64 (yj d k f).2 /\ Step w db Fd (yj d k f).1 w') := by
 apply znV
 unfold S78 yj
 refine zr fun r1 w1 hb1 he1 _ _ => ?_
 have hb1 : Blk w1 r1 (fV f) 127 := hb1
 refine zK fun w2 he2 _ _ => ?_
 have hb2 := hb1.ext he2
 have he := he1.trans he2
 refine zW (ls := fLs) (fT f) hb2 rfl ?_
 refine zb (vD (h.ext he)) ?_
 rintro _ w3 ⟨rfl, he3⟩
 refine ⟨(d.size, d.blocks, ()), rfl, ?_⟩
 have hb3 := hb2.ext he3
 have he3 := he.trans he3
 refine ⟨fun l hl p hp => ?_, ?_⟩
 ·simp only [List.mem_singleton] at hl
  subst hl
  simp only [List.mem_cons, List.not_mem_nil, or_false] at hp
  rcases hp with rfl | rfl | rfl
  ·exact (hb3.cell 0).trans rfl
  ·exact (hb3.cell 1).trans rfl
  ·exact (hb3.cell 2).trans rfl
 refine zb (za1 w3 d.size hg) ?_
 rintro _ w4 ⟨rfl, he4⟩
 refine ⟨(mkB (xl d.size f).1, (xl d.size f).2, ()), rfl, ?_⟩
 have he4 := he3.trans he4
 have stay : ∀ {w' : World}, Ext w w' -> Step w db Fd d w' := fun e => ⟨Fd, h.ext e, fun k hk => .inl hk, Only.zG e⟩
 refine zg (fun hq => ?_) (fun hq => ?_)
 ·have hq := bne_iff_ne.1 hq
  rw [if_pos hq]
  exact ⟨rfl, stay he4⟩
 ·have hq := bne_eq_false_iff_eq.1 hq
  rw [if_neg (fun hh => hh hq)]
  rw [wrap_i64 (by omega) (by omega)]
  refine zb (zad (h.ext he4) (k : Int) (mkB (xl d.size f).1) hn) ?_
  rintro _ w5 ⟨rfl, F', g1, g2, g3⟩
  refine ⟨_, rfl, rfl, F', g1, fun j hj => ?_, Only.trans (Only.zG he4) g3 (fun j hj => .inl hj)⟩
  rcases g2 j hj with e | e
  ·exact .inl e
  ·exact .inr (Nat.le_trans he4.size e)
variable {w w' : World} {b db : Nat} {S : Spa} {F Fd : Nat -> Prop} {x : SLC} {hb hr nb nr : Nat} {m : MkL}
theorem zjc (h : SpM w b db S F Fd x hb hr nb nr m) {r k : Nat} (hr1 : Blk w r [.pointer (some ⟨b, 0, none⟩)] 48) (hk : k < 4294967296) :
  Calls Tryz.prog 72 ([Value.int .u32 (k : Int)] ++ (#[Value.pointer (some ⟨r, 0, none⟩)] : Array Value).toList).toArray w (Ret fun v w' => v = .bool (!S.asked k) /\ w' = w) := by
 apply znQ
 unfold S72
 refine zo (x := some ⟨b, 0, none⟩) hr1 (by rfl) ?_
 refine zb (vy h hk) ?_
 rintro _ w1 ⟨rfl, rfl⟩
 exact ⟨_, rfl, rfl, rfl⟩
theorem zjd (h : SpM w b db S F Fd x hb hr nb nr m) {r k : Nat} (hr1 : Blk w r [.pointer (some ⟨b, 0, none⟩)] 48) (hk : k < 4294967296) :
  Calls Tryz.prog 74 ([Value.int .u32 (k : Int)] ++ (#[Value.pointer (some ⟨r, 0, none⟩)] : Array Value).toList).toArray w (Ret fun v w' => v = .bool (decide (S.now.getD k 0 = 0)) /\ w' = w) := by
 apply znS
 unfold S74
 obtain ⟨t, hbx⟩ := h.box
 refine zo (x := some ⟨b, 0, none⟩) hr1 (by rfl) (zs (qK (l := .ptr) 8 (some ⟨nb, 0, none⟩) hbx (by rfl) (by rfl) ?_))
 refine zb (kQ h k hk) ?_
 rintro _ w1 ⟨rfl, rfl⟩
 refine ⟨_, rfl, ?_, rfl⟩
 congr 1
 rw [Bool.eq_iff_iff, beq_iff_eq, decide_eq_true_iff]
 omega
theorem zkg {S : Spa} {l : List Nat} : l.any (fun k => !S.asked k) = true ↔ ∃ k ∈ l, S.asked k = false := by simp
theorem any_zero {S : Spa} {l : List Nat} : l.any (fun k => decide (S.now.getD k 0 = 0)) = true ↔ ∃ k ∈ l, S.now.getD k 0 = 0 := by simp
theorem Sli.only' {α : Type} {E : Enc α} {F : Nat -> Prop} {w w' : World} {A : Option Addr} {n : Nat} {xs : List α} (h : Sli E w A n xs) (k : Only F w w') (hr : 0 < n -> ∀ a, A = some a -> ¬ F a.block) : Sli E w' A n xs := by
 rcases Nat.eq_zero_or_pos n with e | e
 ·subst e
  have := h.len
  rw [List.eq_nil_of_length_eq_zero this]
  exact Sli.nil w' A
 ·exact h.only k (hr e)
theorem zhD (h : SpM w b db S F Fd x hb hr nb nr m) (h01 : S.now.getD 0 0 ≠ 0 /\ S.now.getD 1 0 ≠ 0) (hgen : S.sup.gen + 1 < 18446744073709551616) (hpen : S.dev.pen.length <= 1000000)
  {A : Option Addr} {n c : Nat} (p : Page) (hs : Sli (zu .u32) w A n p.2.1) (hk32 : ∀ k ∈ p.2.1, k < 4294967296) (hA : 0 < n -> ∀ a, A = some a -> ¬ F a.block) (hds : p.2.2.size <= 1000000000) :
  Calls Tryz.prog 24 #[.pointer (some ⟨b, 0, none⟩), .agg (pgV p (A, n, c)).toArray] w (Ret fun v w' => v = .tuple #[.int .u32 ((S.put p).2.1 : Int), .int .i64 (S.put p).2.2] /\ yx w b db F (S.put p).1 w') := by
 have hdim := h.dims
 have hN := hdim.n
 have hsz := hdim.size
 have hroom := hdim.room
 have hFlt := h.lt
 have hl := hs.len
 have hle := hs.le
 apply znn
 unfold S24
 refine zr fun r1 w1 hb1 he1 hr1 hz1 => ?_
 refine zr fun r2 w2 hb2 he2 hr2 hz2 => ?_
 have hb1 := hb1.ext he2
 have he := he1.trans he2
 have hb2 : Blk w2 r2 (pgV p (A, n, c)) 56 := hb2
 have hS := h.ext he
 have hs2 := hs.ext he
 have hz := he1.size
 have stay : ∀ {w' : World}, Ext w w' -> yx w b db F S w' := fun e => ⟨F, ⟨Fd, x, hb, hr, nb, nr, m, h.ext e⟩, fun k hk => .inl hk, Only.zG e⟩
 refine zo (x := some ⟨b, 0, none⟩) hb1 (by rfl) (zc (by rfl) ?_)
 have e1 : ∀ e : Int, S.jC p = e -> e ≠ 0 -> (fun v w' => v = Value.tuple #[.int .u32 ((S.put p).2.1 : Int), .int .i64 (S.put p).2.2] /\ yx w b db F (S.put p).1 w') = fun v w' => v = Value.tuple #[.int .u32 (0 : Int), .int .i64 e] /\ yx w b db F S w' := by
  intro e he0 hne
  unfold Spa.put
  rw [if_pos (by rw [he0]; exact hne), he0]
  rfl
 refine yB (fun y w' => y = (decide (p.1.toNat < 3 \/ p.2.1.length > 65535 \/ (∃ k ∈ p.2.1, S.asked k = false)), ()) /\ w' = w2) ?_ (fun J hJ => ?_)
 rotate_left
 ·refine zE ((p.1.toNat : Nat) : Int) hb2 (by rfl) ?_
  refine zg (fun hq => ?_) (fun hq => ?_)
  ·have hq := of_decide_eq_true hq
   exact hJ _ _ ⟨by rw [decide_eq_true (.inl (by omega))], rfl⟩
  have hq := of_decide_eq_false hq
  refine zn (l := .slc) 1 (A, n, c) hb2 (by rfl) (zg (fun hq2 => ?_) (fun hq2 => ?_))
  ·have hq2 := of_decide_eq_true hq2
   exact hJ _ _ ⟨by rw [decide_eq_true (.inr (.inl (by dsimp only at hq2; omega)))], rfl⟩
  have hq2 := of_decide_eq_false hq2
  refine zn (l := .slc) 1 (A, n, c) hb2 (by rfl) ?_
  refine zb (zb8 (c := c) (q := fun k => !S.asked k) hs2 (by kernel_rfl) (fun k hk => zjc hS hb1 (hk32 k hk))) ?_
  rintro _ w3 ⟨rfl, hw3⟩
  refine ⟨_, rfl, hJ _ _ ⟨?_, hw3⟩⟩
  congr 1
  rw [Bool.eq_iff_iff, decide_eq_true_iff, zkg]
  dsimp only at hq2
  constructor
  ·intro hh; exact .inr (.inr hh)
  ·rintro (hh | hh | hh)
   ·omega
   ·omega
   ·exact hh
 rintro y w3 ⟨rfl, hw3⟩
 rw [hw3]
 refine zg (fun hq => ?_) (fun hq => ?_)
 ·have hq := of_decide_eq_true hq
  have := e1 2 (by unfold Spa.jC; rw [if_pos hq]) (by decide)
  rw [show (Value.tuple #[.int .u32 (0 : Int), .int .i64 (2 : Int)]) = Value.tuple #[.int .u32 (0 : Int), .int .i64 (2 : Int)] from rfl]
  exact (congrFun (congrFun this _) _).mpr ⟨rfl, stay he⟩
 have hq1 := of_decide_eq_false hq
 refine zn (l := .slc) 1 (A, n, c) hb2 (by rfl) ?_
 refine zb (zb8 (c := c) (q := fun k => decide (S.now.getD k 0 = 0)) hs2 (by kernel_rfl) (fun k hk => zjd hS hb1 (hk32 k hk))) ?_
 rintro _ w4 ⟨rfl, hw4⟩
 refine ⟨_, rfl, ?_⟩
 rw [hw4]
 refine zg (fun hq => ?_) (fun hq => ?_)
 ·have := e1 8 (by unfold Spa.jC; rw [if_neg hq1, if_pos (any_zero.1 hq)]) (by decide)
  exact (congrFun (congrFun this _) _).mpr ⟨rfl, stay he⟩
 have hq2 : ¬ ∃ k ∈ p.2.1, S.now.getD k 0 = 0 := fun hh => by rw [any_zero.2 hh] at hq; cases hq
 have hr0 : S.room 0 = S.sup.size - 18 := by unfold Spa.room; rw [hroom, if_neg (by omega)]; omega
 refine yB (fun y w' => y = (decide ((p.2.1.length : Int) > S.room 0 / 4 \/ (p.2.2.size : Int) > S.room p.2.1.length), ()) /\ Ext w2 w') ?_ (fun J hJ => ?_)
 rotate_left
 ·refine zK fun w5 he5 _ _ => ?_
  refine zn (l := .slc) 1 (A, n, c) (hb2.ext he5) (by rfl) ?_
  refine zo (x := some ⟨b, 0, none⟩) (hb1.ext he5) (by rfl) ?_
  refine zb (qL (hS.ext he5) (k := 0) (by omega) (by omega)) ?_
  rintro _ w6 ⟨rfl, he6⟩
  have he56 := he5.trans he6
  refine ⟨_, rfl, zfM (hb2.ext he56) (by rfl) ?_⟩
  rw [Int.tdiv_eq_ediv_of_nonneg (by omega), wrap_i64 (x := S.room 0 / 4) (by omega) (by omega)]
  dsimp only
  refine zg (fun hq => ?_) (fun hq => ?_)
  ·have hq := of_decide_eq_true hq
   exact hJ _ _ ⟨by rw [decide_eq_true (.inl (by omega))], he56⟩
  have hq := of_decide_eq_false hq
  refine zn 2 p.2.2 (hb2.ext he56) (by rfl) ?_
  refine zo (x := some ⟨b, 0, none⟩) (hb1.ext he56) (by rfl) ?_
  refine zn (l := .slc) 1 (A, n, c) (hb2.ext he56) (by rfl) ?_
  dsimp only
  refine zb (qL (hS.ext he56) (k := (n : Int)) (by omega) (by omega)) ?_
  rintro _ w7 ⟨rfl, he7⟩
  have he57 := he56.trans he7
  refine ⟨_, rfl, zfM (hb2.ext he57) (by rfl) ?_⟩
  refine hJ _ _ ⟨?_, he57⟩
  congr 1
  rw [hl]
  exact decide_eq_decide.2 ⟨fun hh => .inr hh, fun hh => by rcases hh with hh | hh; omega; exact hh⟩
 rintro y w5 ⟨rfl, he25⟩
 have he5 := he.trans he25
 have hb1 := hb1.ext he25
 have hb2 := hb2.ext he25
 refine zg (fun hq => ?_) (fun hq => ?_)
 ·have hq := of_decide_eq_true hq
  have := e1 3 (by unfold Spa.jC; rw [if_neg hq1, if_neg hq2, if_pos hq]) (by decide)
  exact (congrFun (congrFun this _) _).mpr ⟨rfl, stay he5⟩
 have hq3 := of_decide_eq_false hq
 refine zK fun w6 he6 _ _ => ?_
 have hb1 := hb1.ext he6
 have hb2 := hb2.ext he6
 have he6 := he5.trans he6
 obtain ⟨t, hbx⟩ := (h.ext he6).box
 refine zo (x := some ⟨b, 0, none⟩) hb1 (by rfl) ?_
 refine zo (x := some ⟨b, 0, none⟩) hb1 (by rfl) (zs (qK (l := .slc) 5 x hbx (by rfl) (by rfl) ?_))
 refine zb (zhz (h.ext he6)) ?_
 rintro _ w7 ⟨rfl, he7⟩
 refine ⟨_, rfl, ?_⟩
 have hb1 := hb1.ext he7
 have hb2 := hb2.ext he7
 have he7 := he6.trans he7
 obtain ⟨t, hbx⟩ := (h.ext he7).box
 refine ⟨fun l hl' q hq' => ?_, ?_⟩
 ·simp only [List.mem_cons, List.not_mem_nil, or_false] at hl'
  rcases hl' with rfl | rfl <;> (simp only [List.mem_cons, List.not_mem_nil, or_false] at hq'; subst hq')
  ·exact (hbx.cell 5).trans rfl
  ·exact (hb1.cell 0).trans rfl
 have hpl := h.pgs.len
 refine zg (fun hq => ?_) (fun hq => ?_)
 ·have hq := of_decide_eq_true hq
  have := e1 9 (by unfold Spa.jC; rw [if_neg hq1, if_neg hq2, if_neg hq3, if_pos (by omega)]) (by decide)
  exact (congrFun (congrFun this _) _).mpr ⟨rfl, stay he7⟩
 have hq4 := of_decide_eq_false hq
 have hE0 : S.jC p = 0 := by unfold Spa.jC; rw [if_neg hq1, if_neg hq2, if_neg hq3, if_neg (by omega)]
 refine zo (x := some ⟨b, 0, none⟩) hb1 (by rfl) ?_
 refine zb (zhA (h.ext he7) h01) ?_
 rintro _ w8 ⟨rfl, hS8, hO8⟩
 refine ⟨((S.takeN : Int), S.yM, ()), rfl, ?_⟩
 dsimp only
 have hnF : ∀ j, w.heap.size <= j -> ¬ F j := fun j hj hf => by have := hFlt j hf; omega
 have hb1 := hb1.only hO8 (hnF r1 (by omega))
 have hb2 := hb2.only hO8 (hnF r2 (by omega))
 have hr1lt : r1 < w8.heap.size := hb1.lt
 have hr2lt : r2 < w8.heap.size := hb2.lt
 have hs8 := (hs.ext he7).only' hO8 hA
 have o8 : Only F w w8 := Only.trans (Only.zG he7) hO8 (fun j hj => .inl hj)
 refine zg (fun hq => ?_) (fun hq => ?_)
 ·have hq := bne_iff_ne.1 hq
  have e2 : S.put p = (S, 0, S.yM) := by unfold Spa.put; rw [if_neg (by rw [hE0]; simp), if_pos hq]
  have e3 : S.yN = S.now := by
   unfold Spa.yM at hq
   unfold Spa.yN
   split at hq
   ·exact absurd rfl hq
   ·rename_i hh; rw [if_neg hh]
  rw [e2]
  rw [e3] at hS8
  exact ⟨rfl, F, ⟨Fd, x, hb, hr, nb, nr, m, hS8⟩, fun k hk => .inl hk, o8⟩
 have hT0 := bne_eq_false_iff_eq.1 hq
 have hTN : S.takeN < S.N := by
  unfold Spa.yM at hT0
  unfold Spa.takeN
  have := h.ok.now
  split at hT0
  ·rename_i hh; rw [if_pos hh]; omega
  ·cases hT0
 have hkl : (p.2.1.length : Int) <= S.room 0 / 4 := by
  by_cases hh : S.room 0 / 4 < p.2.1.length
  ·exact absurd (Or.inl hh) hq3
  ·omega
 refine zn (l := .slc) 1 (A, n, c) hb2 (by rfl) ?_
 dsimp only
 rw [zy (by omega)]
 refine zb (xe (bs := []) (v := n) (k := 2) (Own.nil 5 w8 w8.heap.size) (Nat.le_refl _) (by omega) (by omega) (by omega) (by omega)) ?_
 rintro _ w9 ⟨⟨A1, n1, c1⟩, rfl, ho9, hg9⟩
 refine ⟨(A1, n1, c1), rfl, ?_⟩
 have hg9' : Ext w8 w9 := (Ext.refl w8).grown hg9.grown (fun j hj => by cases hj)
 have hb1 := hb1.ext hg9'
 have hb2 := hb2.ext hg9'
 refine zn (l := .slc) 1 (A, n, c) hb2 (by rfl) ?_
 dsimp only
 have h8 : w.heap.size <= w8.heap.size := o8.2.2.2.1
 have ez : (([] : List UInt8) ++ le 2 n) = le 2 p.2.1.length ++ yo (p.2.1.take 0) := by rw [hl]; simp [yo]
 rw [ez] at ho9
 refine zx (fun y w' => ∃ (i : Nat) (A2 : Option Addr) (n2 c2 : Nat), i <= n /\ y = ((A2, n2, c2), (i : Int), ()) /\ Ext w8 w' /\ Own 5 w' w8.heap.size A2 n2 c2 (bV (le 2 p.2.1.length ++ yo (p.2.1.take i)))) (fun y => (n - y.2.1).toNat) ⟨0, A1, n1, c1, by omega, rfl, hg9', ho9⟩ ?_
 rintro _ w10 ⟨i, A2, n2, c2, hi, rfl, he10, ho10⟩
 dsimp only
 have hn2 : n2 = 2 + 4 * i := by
  have := ho10.len
  rw [yP, List.length_append, zv, xk, List.length_take] at this
  omega
 by_cases hlt : i < n
 ·refine zf (decide_eq_true (by omega)) ?_
  refine zR (hs8.ext he10) (by omega) (by omega) ?_
  rw [Int.toNat_natCast]
  have e : p.2.1[i]? = some (p.2.1.getD i 0) := by rw [List.getD_eq_getElem?_getD, List.getElem?_eq_getElem (by omega)]; rfl
  have hk := hk32 _ (List.mem_of_getElem? e)
  rw [zy (by omega)]
  refine zb (xe (v := p.2.1.getD i 0) (k := 4) ho10 he10.size (by omega) (by omega) (by omega) (by omega)) ?_
  rintro _ w11 ⟨⟨A3, n3, c3⟩, rfl, ho11, hg11⟩
  refine ⟨(A3, n3, c3), rfl, ?_⟩
  rw [List.append_assoc, <- zcV (by omega)] at ho11
  refine ⟨⟨i + 1, A3, n3, c3, by omega, by rw [wrap_i64 (by omega) (by omega)]; rfl, he10.grown hg11.grown (fun j hj => ho10.row' j hj), ho11⟩, by rw [wrap_i64 (by omega) (by omega)]; omega⟩
 obtain rfl : i = n := by omega
 refine zc (decide_eq_false (by omega)) ?_
 rw [List.take_of_length_le (by omega)] at ho10
 refine zK fun w11 he11 _ _ => ?_
 have ho11 := ho10.ext he11
 have he11 := he10.trans he11
 have hb1 : Blk w11 r1 _ _ := (Blk.at_ hb1 (show w11.heap[r1]? = w9.heap[r1]? by rw [he11.block r1 hr1lt, hg9'.block r1 hr1lt]))
 have hb2 : Blk w11 r2 _ _ := (Blk.at_ hb2 (show w11.heap[r2]? = w9.heap[r2]? by rw [he11.block r2 hr2lt, hg9'.block r2 hr2lt]))
 obtain ⟨t, hbx⟩ := (hS8.ext he11).box
 refine zo (x := some ⟨b, 0, none⟩) hb1 (by rfl) (zs (zE (l := .ptr) (some ⟨db, 0, none⟩) hbx (by rfl) ?_))
 refine zE ((p.1.toNat : Nat) : Int) hb2 (by rfl) ?_
 refine zo (x := some ⟨b, 0, none⟩) hb1 (by rfl) (zs (qK 1 (S.sup.gen : Int) hbx (by rfl) (by rfl) ?_))
 refine zn 2 p.2.2 hb2 (by rfl) ?_
 refine qI (e := 5) (by kernel_rfl) (by kernel_rfl) (by kernel_rfl) ho11.sl ?_
 refine ⟨fun l hl' q hq' => ?_, ?_⟩
 ·simp only [List.mem_cons, List.not_mem_nil, or_false] at hl'
  rcases hl' with rfl | rfl | rfl | rfl | rfl | rfl <;> (simp only [List.mem_cons, List.not_mem_nil, or_false] at hq'; subst hq')
  ·exact (hb2.cell 2).trans rfl
  ·exact (hbx.cell 1).trans rfl
  ·exact (hb1.cell 0).trans rfl
  ·exact (hb2.cell 0).trans rfl
  ·exact (hbx.cell 0).trans rfl
  ·exact (hb1.cell 0).trans rfl
 have hsz1 : (mkB (le 2 p.2.1.length ++ yo p.2.1)).size = 2 + 4 * i := by rw [xm, List.length_append, zv, xk]; omega
 have hsz1' : (⟨(le 2 p.2.1.length ++ yo p.2.1).toArray⟩ : ByteArray).size = 2 + 4 * i := hsz1
 refine zJ (by rw [hsz1']; show _ <= (9223372036854775807 : Int); omega) ?_
 have ecat : (⟨(le 2 p.2.1.length ++ yo p.2.1).toArray⟩ : ByteArray) ++ p.2.2 = mkB (pgB p) := ka (by rw [zkV, jx, xj, pgB, List.append_assoc])
 rw [ecat, show (S.sup.gen : Int) + 1 = ((S.sup.gen + 1 : Nat) : Int) by omega, zy (by omega)]
 refine zb (zb9 (hS8.ext he11).dev S.takeN (by omega) (S.frame p) hgen hpen) ?_
 rintro _ w12 ⟨rfl, hst⟩
 refine ⟨_, rfl, ?_⟩
 have hdim2 : (yj S.dev S.takeN (S.frame p)).1.size = S.dev.size /\ (yj S.dev S.takeN (S.frame p)).1.blocks = S.dev.blocks := by
  unfold yj Dev.write
  split
  ·exact ⟨rfl, rfl⟩
  ·split
   ·exact ⟨rfl, rfl⟩
   ·split <;> exact ⟨rfl, rfl⟩
 obtain ⟨F', Fd', hS12, hF12, hO12⟩ := (hS8.ext he11).zo2 hst hdim2
 have o11 : Only F w w11 := Only.trans o8 (Only.zG (F := F) he11) (fun j hj => .inl hj)
 have fin : yx w b db F { S with now := S.yN, dev := (yj S.dev S.takeN (S.frame p)).1 } w12 := by
  refine ⟨F', ⟨Fd', x, hb, hr, nb, nr, m, hS12⟩, fun k hk => ?_, Only.trans o11 hO12 (fun j hj => .inl hj)⟩
  rcases hF12 k hk with e | e
  ·exact .inl e
  ·exact .inr (Nat.le_trans o11.2.2.2.1 e)
 refine zg (fun hq => ?_) (fun hq => ?_)
 ·have hq := bne_iff_ne.1 hq
  have e2 : S.put p = ({ S with now := S.yN, dev := (yj S.dev S.takeN (S.frame p)).1 }, 0, (yj S.dev S.takeN (S.frame p)).2) := by
   unfold Spa.put; rw [if_neg (by rw [hE0]; simp), if_neg (by rw [hT0]; simp), if_pos hq]
  rw [e2]
  exact ⟨rfl, fin⟩
 ·have hq := bne_eq_false_iff_eq.1 hq
  have e2 : S.put p = ({ S with now := S.yN, dev := (yj S.dev S.takeN (S.frame p)).1 }, S.takeN, 0) := by
   unfold Spa.put; rw [if_neg (by rw [hE0]; simp), if_neg (by rw [hT0]; simp), if_neg (by rw [hq]; simp)]
  rw [e2]
  exact ⟨rfl, fin⟩
theorem za9 (h : SpM w b db S F Fd x hb hr nb nr m) (h01 : S.now.getD 0 0 ≠ 0 /\ S.now.getD 1 0 ≠ 0) (hgen : S.sup.gen + 1 < 18446744073709551616) (hpen : S.dev.pen.length <= 1000000)
  {A : Option Addr} {n c : Nat} (p : Page) (hs : Sli (zu .u32) w A n p.2.1) (hk32 : ∀ k ∈ p.2.1, k < 4294967296) (hA : ∀ a, A = some a -> ¬ F a.block) (hds : p.2.2.size <= 1000000000) :
  Calls Tryz.prog 24 #[.pointer (some ⟨b, 0, none⟩), .agg (pgV p (A, n, c)).toArray] w (Ret fun v w' => v = .tuple #[.int .u32 ((S.put p).2.1 : Int), .int .i64 (S.put p).2.2] /\ yx w b db F (S.put p).1 w') := zhD h h01 hgen hpen p hs hk32 (fun _ => hA) hds
end V
/- Counts of references: plain. -/
namespace V
open Go Go.Proofs Go.RowKit Crc
abbrev PgF := Nat -> Page × Int
def zI (ps c : List Nat) (n : Nat) : Bool := decide (2 <= n) && (!(decide (n ∈ ps)) && decide (0 < c.getD n 0))
theorem zN {ps c : List Nat} {n : Nat} : zI ps c n = true ↔ 2 <= n /\ n ∉ ps /\ 0 < c.getD n 0 := by simp [zI]
abbrev yp (pg : PgF) (n : Nat) : List Nat := (pg n).1.2.1
def xD (ps : List Nat) (pg : PgF) (c : List Nat) (x m : Nat) : Nat := if zI ps c m then (yp pg m).count x else 0
def kS (N : Nat) (ps : List Nat) (pg : PgF) (c : List Nat) (x : Nat) : Nat := ((List.range N).map (xD ps pg c x)).sum
structure zZ (N : Nat) (ps : List Nat) (pg : PgF) (c R : List Nat) : Prop where
 len : c.length = N
 two : 2 <= N
 head : c.getD 0 0 = 1 /\ c.getD 1 0 = 1
 pgs : ∀ p ∈ ps, 2 <= p /\ p < N /\ c.getD p 0 = 1
 root : ∀ n ∈ R, zI ps c n = true
 good : ∀ n, zI ps c n = true -> (pg n).2 = 0 /\ ∀ k ∈ yp pg n, zI ps c k = true
 rank : ∃ r : Nat -> Nat, ∀ n, zI ps c n = true -> ∀ k ∈ yp pg n, r k < r n
 sum : ∀ n, 2 <= n -> n ∉ ps -> c.getD n 0 = R.count n + kS N ps pg c n
theorem zeM {f g : Nat -> Nat} {n : Nat} : ∀ {N : Nat}, (∀ m, m ≠ n -> g m = f m) -> ((List.range N).map g).sum + (if n < N then f n else 0) = ((List.range N).map f).sum + (if n < N then g n else 0)
 | 0, _ => by simp
 | N + 1, h => by
  have ih := zeM (f := f) (g := g) (n := n) (N := N) h
  simp only [List.range_succ, List.map_append, List.map_cons, List.map_nil, List.sum_append, List.sum_cons, List.sum_nil, Nat.add_zero]
  by_cases hn : n < N
  ·rw [if_pos hn, if_pos hn] at ih
   rw [if_pos (by omega), if_pos (by omega), h N (by omega)]
   omega
  ·rw [if_neg hn, if_neg hn] at ih
   by_cases hN : n = N
   ·subst hN
    rw [if_pos (by omega), if_pos (by omega)]
    omega
   ·rw [if_neg (by omega), if_neg (by omega), h N (by omega)]
    omega
theorem zba {x : Nat} : ∀ {l : List Nat}, x ∈ l -> x <= l.sum
 | a :: r, h => by
  rcases List.mem_cons.1 h with rfl | h
  ·simp
  ·have := zba h
   simp only [List.sum_cons]
   omega
theorem zmv {f : Nat -> Nat} {N : Nat} (h : ((List.range N).map f).sum = 0) : ∀ m, m < N -> f m = 0 := by
 intro m hm
 have : f m <= ((List.range N).map f).sum := zba (List.mem_map.2 ⟨m, List.mem_range.2 hm, rfl⟩)
 omega
theorem yQ (l : List Nat) (i k x : Nat) : (l.set i x).getD k 0 = if i = k /\ k < l.length then x else l.getD k 0 := by
 rw [List.getD_eq_getElem?_getD, List.getD_eq_getElem?_getD, List.getElem?_set]
 by_cases hik : i = k
 ·subst hik
  by_cases hk : i < l.length
  ·simp [hk]
  ·simp [hk]
 ·rw [if_neg hik, if_neg (fun h => hik h.1)]
theorem zhE {l : List Nat} {n : Nat} (h : 0 < l.getD n 0) : n < l.length := by
 by_cases hn : n < l.length
 ·exact hn
 ·rw [List.getD_eq_getElem?_getD, List.getElem?_eq_none (by omega)] at h
  simp at h
section
variable {N : Nat} {ps : List Nat} {pg pg' : PgF} {c R : List Nat}
theorem zZ.lt (h : zZ N ps pg c R) {n : Nat} (hn : zI ps c n = true) : n < N := by
 have := zhE (zN.1 hn).2.2
 rw [h.len] at this
 exact this
theorem zZ.perm {R' : List Nat} (h : zZ N ps pg c R) (hp : R.Perm R') : zZ N ps pg c R' :=
 ⟨h.len, h.two, h.head, h.pgs, fun n hn => h.root n (hp.mem_iff.2 hn), h.good, h.rank, fun n h1 h2 => by rw [h.sum n h1 h2, hp.count_eq]⟩
theorem zZ.none (h : zZ N ps pg c R) {n : Nat} (h2 : 2 <= n) (hp : n ∉ ps) (h0 : c.getD n 0 = 0) : n ∉ R /\ ∀ m, zI ps c m = true -> n ∉ yp pg m := by
 have hs := h.sum n h2 hp
 refine ⟨fun hn => ?_, fun m hm hn => ?_⟩
 ·have := (zN.1 (h.root n hn)).2.2; omega
 ·have := (zN.1 ((h.good m hm).2 n hn)).2.2; omega
theorem zZ.put {ks : List Nat} {n : Nat} (h : zZ N ps pg c (ks ++ R)) (h2 : 2 <= n) (hN : n < N) (hp : n ∉ ps) (h0 : c.getD n 0 = 0) (hn : (pg' n).2 = 0) (hk : yp pg' n = ks) (ho : ∀ m, m ≠ n -> m < N -> pg' m = pg m) :
  zZ N ps pg' (c.set n 1) (n :: R) := by
 obtain ⟨hnR, hnk⟩ := h.none h2 hp h0
 have hl := h.len
 have hu : ∀ m, zI ps (c.set n 1) m = (zI ps c m || decide (m = n)) := by
  intro m
  unfold zI
  rw [yQ]
  by_cases hm : m = n
  ·subst hm
   simp [hl, hN, h2, hp]
  ·rw [if_neg (fun e => hm e.1.symm)]
   simp [hm]
 have hun : zI ps c n = false := by
  cases hq : zI ps c n with
  | false => rfl
  | true => have := (zN.1 hq).2.2; omega
 have hne : ∀ m, zI ps c m = true -> m ≠ n := fun m hm e => by rw [e, hun] at hm; cases hm
 obtain ⟨r, hr⟩ := h.rank
 refine ⟨by simpa using hl, h.two, ?_, ?_, ?_, ?_, ⟨fun m => if m = n then (ks.map r).sum + 1 else r m, ?_⟩, ?_⟩
 ·rw [yQ, yQ, if_neg (by omega), if_neg (by omega)]
  exact h.head
 ·intro p hpp
  obtain ⟨g1, g2, g3⟩ := h.pgs p hpp
  refine ⟨g1, g2, ?_⟩
  rw [yQ, if_neg (fun e : n = p /\ p < c.length => hp (e.1 ▸ hpp))]
  exact g3
 ·intro m hm
  rw [hu]
  rcases List.mem_cons.1 hm with rfl | hm
  ·simp
  ·rw [h.root m (List.mem_append_right _ hm)]; rfl
 ·intro m hm
  rw [hu] at hm
  by_cases hmn : m = n
  ·subst hmn
   refine ⟨hn, fun k hk' => ?_⟩
   rw [hk] at hk'
   rw [hu, h.root k (List.mem_append_left _ hk')]
   rfl
  ·have hm' : zI ps c m = true := by simpa [hmn] using hm
   rw [yp, ho m hmn (h.lt hm')]
   refine ⟨(h.good m hm').1, fun k hk' => ?_⟩
   rw [hu, (h.good m hm').2 k hk']
   rfl
 ·intro m hm k hk'
  rw [hu] at hm
  dsimp only
  by_cases hmn : m = n
  ·subst hmn
   rw [hk] at hk'
   rw [if_pos rfl, if_neg (hne k (h.root k (List.mem_append_left _ hk')))]
   have : r k <= (ks.map r).sum := zba (List.mem_map.2 ⟨k, hk', rfl⟩)
   omega
  ·have hm' : zI ps c m = true := by simpa [hmn] using hm
   rw [yp, ho m hmn (h.lt hm')] at hk'
   rw [if_neg hmn, if_neg (hne k ((h.good m hm').2 k hk'))]
   exact hr m hm' k hk'
 ·intro x h2x hpx
  have hg : ∀ m, m < N -> m ≠ n -> xD ps pg' (c.set n 1) x m = xD ps pg c x m := by
   intro m hm hmn
   unfold xD
   rw [hu, yp, yp, ho m hmn hm]
   simp [hmn]
  have hone := zeM (f := xD ps pg c x) (g := fun m => if m = n then xD ps pg' (c.set n 1) x n else xD ps pg c x m) (n := n) (N := N) (fun m hm => if_neg hm)
  rw [if_pos hN, if_pos hN] at hone
  have e1 : ((List.range N).map fun m => if m = n then xD ps pg' (c.set n 1) x n else xD ps pg c x m) = (List.range N).map (xD ps pg' (c.set n 1) x) := by
   apply List.map_congr_left
   intro m hm
   split
   ·rename_i e; rw [e]
   ·rename_i e; exact (hg m (List.mem_range.1 hm) e).symm
  rw [e1] at hone
  have e2 : xD ps pg c x n = 0 := by unfold xD; rw [hun]; rfl
  have e3 : xD ps pg' (c.set n 1) x n = ks.count x := by unfold xD; rw [hu, hk]; simp
  simp only [if_true, e2, e3, Nat.add_zero] at hone
  have hs := h.sum x h2x hpx
  rw [List.count_append] at hs
  show _ = _ + ((List.range N).map (xD ps pg' (c.set n 1) x)).sum
  rw [hone]
  unfold kS at hs
  rw [yQ, List.count_cons]
  by_cases hx : x = n
  ·subst hx
   rw [if_pos ⟨rfl, by omega⟩]
   simp only [beq_self_eq_true, if_true]
   omega
  ·rw [if_neg (fun e => hx e.1.symm), if_neg (by simpa using fun e => hx e.symm)]
   omega
theorem zZ.setPos {n v : Nat} {R' : List Nat} (h : zZ N ps pg c R) (hn : zI ps c n = true) (hv : 0 < v) (hR : ∀ m ∈ R', zI ps c m = true) (hc : ∀ x, x ≠ n -> R'.count x = R.count x) (hv' : v + R.count n = c.getD n 0 + R'.count n) :
  zZ N ps pg (c.set n v) R' := by
 obtain ⟨h2, hp, h0⟩ := zN.1 hn
 have hl := h.len
 have hN := h.lt hn
 have hu : ∀ m, zI ps (c.set n v) m = zI ps c m := by
  intro m
  unfold zI
  rw [yQ]
  by_cases hm : m = n
  ·subst hm
   rw [if_pos ⟨rfl, by omega⟩]
   rw [decide_eq_true hv, decide_eq_true h0]
  ·rw [if_neg (fun e => hm e.1.symm)]
 have hs : ∀ x, kS N ps pg (c.set n v) x = kS N ps pg c x := by
  intro x
  unfold kS
  congr 1
  apply List.map_congr_left
  intro m _
  unfold xD
  rw [hu]
 refine ⟨by simpa using hl, h.two, ?_, ?_, fun m hm => by rw [hu]; exact hR m hm, fun m hm => ?_, ?_, ?_⟩
 ·rw [yQ, yQ, if_neg (by omega), if_neg (by omega)]
  exact h.head
 ·intro p hpp
  obtain ⟨g1, g2, g3⟩ := h.pgs p hpp
  refine ⟨g1, g2, ?_⟩
  rw [yQ, if_neg (fun e : n = p /\ p < c.length => hp (e.1 ▸ hpp))]
  exact g3
 ·rw [hu] at hm
  exact ⟨(h.good m hm).1, fun k hk => by rw [hu]; exact (h.good m hm).2 k hk⟩
 ·obtain ⟨r, hr⟩ := h.rank
  exact ⟨r, fun m hm => hr m (by rw [hu] at hm; exact hm)⟩
 ·intro x h2x hpx
  have := h.sum x h2x hpx
  rw [hs, yQ]
  by_cases hx : x = n
  ·subst hx
   rw [if_pos ⟨rfl, by omega⟩]
   omega
  ·rw [if_neg (fun e => hx e.1.symm), hc x hx]
   omega
theorem zZ.share {n : Nat} (h : zZ N ps pg c R) (hn : zI ps c n = true) : zZ N ps pg (c.set n (c.getD n 0 + 1)) (n :: R) :=
 h.setPos hn (by omega) (fun m hm => by rcases List.mem_cons.1 hm with rfl | hm; exact hn; exact h.root m hm) (fun x hx => by rw [List.count_cons, if_neg (by simpa using fun e => hx e.symm)]; rfl) (by rw [List.count_cons_self]; omega)
theorem zZ.dec {n : Nat} (h : zZ N ps pg c (n :: R)) (h1 : c.getD n 0 ≠ 1) : zZ N ps pg (c.set n (c.getD n 0 - 1)) R := by
 have hn := h.root n List.mem_cons_self
 have := (zN.1 hn).2.2
 exact h.setPos hn (by omega) (fun m hm => h.root m (List.mem_cons_of_mem _ hm)) (fun x hx => by rw [List.count_cons, if_neg (by simpa using fun e => hx e.symm)]; rfl) (by rw [List.count_cons_self]; omega)
theorem zZ.last {n : Nat} (h : zZ N ps pg c (n :: R)) (h1 : c.getD n 0 = 1) : zZ N ps pg (c.set n 0) (yp pg n ++ R) := by
 have hn := h.root n List.mem_cons_self
 obtain ⟨h2, hp, h0⟩ := zN.1 hn
 have hl := h.len
 have hN := h.lt hn
 have hsn := h.sum n h2 hp
 rw [h1, List.count_cons_self] at hsn
 have hcR : R.count n = 0 := by omega
 have hz : ∀ m, m < N -> xD ps pg c n m = 0 := zmv (by unfold kS at hsn; omega)
 have hnR : n ∉ R := List.count_eq_zero.1 hcR
 have hnk : ∀ m, zI ps c m = true -> n ∉ yp pg m := by
  intro m hm
  have := hz m (h.lt hm)
  unfold xD at this
  rw [if_pos hm] at this
  exact List.count_eq_zero.1 this
 have hu : ∀ m, zI ps (c.set n 0) m = (zI ps c m && !(decide (m = n))) := by
  intro m
  unfold zI
  rw [yQ]
  by_cases hm : m = n
  ·subst hm
   rw [if_pos ⟨rfl, by omega⟩]
   simp
  ·rw [if_neg (fun e => hm e.1.symm)]
   simp [hm]
 have hu2 : ∀ {m}, zI ps c m = true -> m ≠ n -> zI ps (c.set n 0) m = true := fun hm hmn => by rw [hu, hm]; simp [hmn]
 refine ⟨by simpa using hl, h.two, ?_, ?_, ?_, fun m hm => ?_, ?_, ?_⟩
 ·rw [yQ, yQ, if_neg (by omega), if_neg (by omega)]
  exact h.head
 ·intro p hpp
  obtain ⟨g1, g2, g3⟩ := h.pgs p hpp
  refine ⟨g1, g2, ?_⟩
  rw [yQ, if_neg (fun e : n = p /\ p < c.length => hp (e.1 ▸ hpp))]
  exact g3
 ·intro m hm
  rcases List.mem_append.1 hm with hm | hm
  ·exact hu2 ((h.good n hn).2 m hm) (fun e => hnk n hn (e ▸ hm))
  ·exact hu2 (h.root m (List.mem_cons_of_mem _ hm)) (fun e => hnR (e ▸ hm))
 ·rw [hu] at hm
  have hm' : zI ps c m = true := by simp at hm; exact hm.1
  exact ⟨(h.good m hm').1, fun k hk => hu2 ((h.good m hm').2 k hk) (fun e => hnk m hm' (e ▸ hk))⟩
 ·obtain ⟨r, hr⟩ := h.rank
  exact ⟨r, fun m hm => hr m (by rw [hu] at hm; simp at hm; exact hm.1)⟩
 ·intro x h2x hpx
  have hone := zeM (f := xD ps pg c x) (g := xD ps pg (c.set n 0) x) (n := n) (N := N) (fun m hm => by unfold xD; rw [hu]; simp [hm])
  rw [if_pos hN, if_pos hN] at hone
  have e2 : xD ps pg c x n = (yp pg n).count x := by unfold xD; rw [if_pos hn]
  have e3 : xD ps pg (c.set n 0) x n = 0 := by unfold xD; rw [hu]; simp
  rw [e2, e3] at hone
  have hs := h.sum x h2x hpx
  unfold kS at hs ⊢
  rw [yQ, List.count_append]
  by_cases hx : x = n
  ·subst hx
   rw [if_pos ⟨rfl, by omega⟩]
   have : (yp pg x).count x = 0 := List.count_eq_zero.2 (hnk x hn)
   rw [List.count_cons_self] at hs
   omega
  ·rw [if_neg (fun e => hx e.1.symm)]
   rw [List.count_cons, if_neg (by simpa using fun e => hx e.symm)] at hs
   omega
theorem zZ.uH (h : zZ N ps pg c R) (ho : ∀ m, zI ps c m = true -> pg' m = pg m) : zZ N ps pg' c R := by
 have hs : ∀ x, kS N ps pg' c x = kS N ps pg c x := by
  intro x
  unfold kS
  congr 1
  apply List.map_congr_left
  intro m _
  unfold xD
  by_cases hm : zI ps c m = true
  ·rw [if_pos hm, if_pos hm, yp, ho m hm]
  ·rw [if_neg hm, if_neg hm]
 refine ⟨h.len, h.two, h.head, h.pgs, h.root, fun n hn => ?_, ?_, fun n h2 hp => by rw [hs]; exact h.sum n h2 hp⟩
 ·rw [yp, ho n hn]
  exact h.good n hn
 ·obtain ⟨r, hr⟩ := h.rank
  exact ⟨r, fun n hn k hk => hr n hn k (by rw [yp, ho n hn] at hk; exact hk)⟩
end
inductive Drp (ask : Nat -> Bool) (pg : PgF) : List Nat -> List Nat -> List Nat -> Int -> Prop
 | nil (c : List Nat) : Drp ask pg c [] c 0
 | bad {c st : List Nat} {n : Nat} : c.getD n 0 ≠ 1 -> atE c n ≠ 0 -> Drp ask pg c (n :: st) c (atE c n)
 | dec {c c' st : List Nat} {n : Nat} {e : Int} : c.getD n 0 ≠ 1 -> atE c n = 0 -> Drp ask pg (xg c n) st c' e -> Drp ask pg c (n :: st) c' e
 | noask {c st : List Nat} {n : Nat} : c.getD n 0 = 1 -> ask n = false -> Drp ask pg c (n :: st) c 2
 | err {c st : List Nat} {n : Nat} {e : Int} : c.getD n 0 = 1 -> ask n = true -> (pg n).2 = e -> e ≠ 0 -> Drp ask pg c (n :: st) c e
 | last {c c' st : List Nat} {n : Nat} {e : Int} : c.getD n 0 = 1 -> ask n = true -> (pg n).2 = 0 -> Drp ask pg (xg c n) (yp pg n ++ st) c' e -> Drp ask pg c (n :: st) c' e
theorem zeN (l : List Nat) : ∀ (i x : Nat), i < l.length -> (l.set i x).sum + l.getD i 0 = l.sum + x := by
 induction l with
 | nil => intro i x h; simp at h
 | cons a r ih =>
  intro i x h
  cases i with
  | zero => simp [List.sum_cons]; omega
  | succ i =>
   have := ih i x (by simpa using h)
   simp only [List.set_cons_succ, List.sum_cons, List.getD_cons_succ]
   omega
theorem zbb {N : Nat} {ps : List Nat} {pg : PgF} {c R : List Nat} (h : zZ N ps pg c R) {n : Nat} (hn : zI ps c n = true) : atE c n = 0 := by
 obtain ⟨h2, hp, h0⟩ := zN.1 hn
 have := h.lt hn
 have := h.len
 unfold atE
 rw [if_neg (by omega), if_neg (by omega)]
theorem zca {N : Nat} {ps : List Nat} {pg : PgF} {c R : List Nat} (h : zZ N ps pg c R) {n : Nat} (hn : zI ps c n = true) : xg c n = c.set n (c.getD n 0 - 1) := by
 unfold xg
 rw [if_pos (zbb h hn)]
theorem zZ.drop {N : Nat} {ps : List Nat} {pg : PgF} {ask : Nat -> Bool} (hask : ∀ n, 2 <= n -> n < N -> n ∉ ps -> ask n = true) : ∀ (z : Nat) {c R : List Nat} (st : List Nat), c.sum <= z -> zZ N ps pg c (st ++ R) -> ∃ c', Drp ask pg c st c' 0 /\ zZ N ps pg c' R /\ c'.length = c.length /\ ∀ n, c'.getD n 0 <= c.getD n 0 := by
 intro z
 induction z with
 | zero =>
  intro c R st hz h
  have h0 := h.head.1
  have hl := h.len
  have h2 := h.two
  have := zeN c 0 0 (by omega)
  omega
 | succ z ih =>
  intro c R st hz h
  cases st with
  | nil => exact ⟨c, .nil c, h, rfl, fun _ => Nat.le_refl _⟩
  | cons n st =>
   have hn := h.root n (by simp)
   obtain ⟨h2, hp, h0⟩ := zN.1 hn
   have hN := h.lt hn
   have hl := h.len
   have hsum := zeN c n (c.getD n 0 - 1) (by omega)
   have hle : ∀ v, v <= c.getD n 0 -> ∀ k, (c.set n v).getD k 0 <= c.getD k 0 := by
    intro v hv k
    rw [yQ]
    split
    ·rename_i e; rw [<- e.1]; exact hv
    ·exact Nat.le_refl _
   by_cases h1 : c.getD n 0 = 1
   ·have hw : zZ N ps pg (c.set n 0) (yp pg n ++ st ++ R) := by
     rw [List.append_assoc]
     exact zZ.last (R := st ++ R) h h1
    have es : xg c n = c.set n 0 := by rw [zca h hn, h1]
    rw [h1] at hsum
    obtain ⟨c', g1, g2, g3, g4⟩ := ih _ (by simp only [Nat.sub_self] at hsum; omega) hw
    exact ⟨c', .last h1 (hask n h2 hN hp) (h.good n hn).1 (by rw [es]; exact g1), g2, by rw [g3]; simp, fun k => Nat.le_trans (g4 k) (hle 0 (by omega) k)⟩
   ·have hw : zZ N ps pg (c.set n (c.getD n 0 - 1)) (st ++ R) := zZ.dec h h1
    obtain ⟨c', g1, g2, g3, g4⟩ := ih _ (by omega) hw
    exact ⟨c', .dec h1 (zbb h hn) (by rw [zca h hn]; exact g1), g2, by rw [g3]; simp, fun k => Nat.le_trans (g4 k) (hle _ (by omega) k)⟩
end V
/- Contracts of the package space: Share, Count, Drop. -/
namespace V
open Go Go.Proofs Go.RowKit Crc
variable {w w' : World} {b db : Nat} {S : Spa} {F Fd : Nat -> Prop} {x : SLC} {hb hr nb nr : Nat} {m : MkL}
theorem SpM.nrF (h : SpM w b db S F Fd x hb hr nb nr m) : F nr := (h.own nr).2 (.inr (by simp [yJ]))
theorem SpM.zgB (h : SpM w b db S F Fd x hb hr nb nr m) {w0 : World} (hg : w0.grownBy w' (some nr)) : Only F w0 w' := Only.z7 hg (fun j hj => .inl (by injection hj with hj; subst hj; exact h.nrF))
def Spa.share (S : Spa) (n : Nat) : Spa × Int := if S.asked n = false then (S, 2) else ({ S with now := uE S.now n }, uD S.now n)
theorem zhF (h : SpM w b db S F Fd x hb hr nb nr m) {n : Nat} (hn : n < 4294967296) :
  Calls Tryz.prog 90 #[.pointer (some ⟨b, 0, none⟩), .int .u32 (n : Int)] w (Ret fun v w' => v = .int .i64 (S.share n).2 /\ SpM w' b db (S.share n).1 F Fd x hb hr nb nr m /\ Only F w w') := by
 apply zn7
 unfold S90 Spa.share
 refine zc (by rfl) (zb (vy h hn) ?_)
 rintro _ w1 ⟨rfl, hw1⟩
 refine ⟨_, rfl, ?_⟩
 rw [hw1]
 refine zg (fun hq => ?_) (fun hq => ?_)
 ·have hq : S.asked n = false := by simpa using hq
  rw [if_pos hq]
  exact ⟨rfl, h, Only.refl F w⟩
 have hq : S.asked n = true := by simpa using hq
 rw [if_neg (by rw [hq]; simp)]
 obtain ⟨t, hbx⟩ := h.box
 refine zs (qK (l := .ptr) 8 (some ⟨nb, 0, none⟩) hbx (by rfl) (by rfl) ?_)
 obtain ⟨q, c⟩ := h.nowC
 refine zb (zkb c n hn) ?_
 rintro _ w2 ⟨rfl, hc, hg⟩
 exact ⟨_, rfl, rfl, h.j7 hg hc (by unfold uE; split <;> simp), h.zgB hg⟩
theorem zgC {k : IntKind} {w : World} {e : TypeId} {B : Nat} {A : Option Addr} {n c : Nat} {xs : List Nat} {i : Int} {v : Nat} {K : WP} (h : Owni (zu k) e w B A n c xs) (h0 : 0 <= i) (h1 : i < (n : Int))
  (hK : ∀ w', Owni (zu k) e w' B A n c (xs.set i.toNat v) -> w.grownBy w' (orow A) -> K w') :
  (zd (0 <= i /\ i < ((n : Nat) : Int)) <| zh A fun p => stW (p.add (Int.toNat i * 1)) (.int k (v : Int)) K) w := by
 refine zh4 (e := e) (B := B) (c := c) (vs := (zu k).flat xs) h h0 h1 fun w' ho hg => hK w' ?_ (by rw [xp] at hg; exact hg)
 rw [zmq] at ho
 exact ho
theorem zkh {w : World} {B : Nat} {A : Option Addr} {n c : Nat} {xs : List Nat} (h : Owni (zu .u32) 41 w B A n c xs) (hn : n <= 1000000) :
  Calls Tryz.prog 89 #[.slice A n c] w (Ret fun v w' => v = .tuple #[] /\ Owni (zu .u32) 41 w' B A n c xs.reverse /\ w.grownBy w' (orow A)) := by
 apply zn6
 unfold S89
 have hl := h.len
 rw [wrap_i64 (by omega) (by omega)]
 refine zx (fun y w' => ∃ (i : Nat) (ys : List Nat), 2 * i <= n + 1 /\ y = ((i : Int), (n : Int) - 1 - i, ()) /\ ys.length = n /\ (∀ k, k < n -> ys.getD k 0 = if k < i \/ n <= k + i then xs.getD (n - 1 - k) 0 else xs.getD k 0) /\ Owni (zu .u32) 41 w' B A n c ys /\ w.grownBy w' (orow A)) (fun y => (n - y.1).toNat)
  ⟨0, xs, by omega, by simp, hl, fun k hk => by rw [if_neg (by omega)], h, xy _ _⟩ ?_
 rintro _ w1 ⟨i, ys, hi, rfl, hyl, hys, ho, hg⟩
 dsimp only
 by_cases hlt : (i : Int) < (n : Int) - 1 - i
 ·refine zf (decide_eq_true hlt) ?_
  refine zK fun w2 he2 _ _ => ?_
  have ho := ho.ext he2
  have hg := xa hg (xL he2 none) (fun j hj => by cases hj)
  refine zR ho.sl (by omega) (by omega) ?_
  refine zR ho.sl (by omega) (by omega) ?_
  have ej : ((n : Int) - 1 - i).toNat = n - 1 - i := by omega
  refine zgC ho (by omega) (by omega) ?_
  intro w3 ho3 hg3
  refine zgC ho3 (by omega) (by omega) ?_
  intro w4 ho4 hg4
  rw [ej, Int.toNat_natCast] at ho4
  refine ⟨⟨i + 1, (ys.set i (ys.getD (n - 1 - i) 0)).set (n - 1 - i) (ys.getD i 0), by omega, ?_, by simp [hyl], fun k hk => ?_, ho4, xa (xa hg hg3 (fun j hj => .inl hj)) hg4 (fun j hj => .inl hj)⟩, ?_⟩
  ·rw [show IntKind.wrap .i64 ((i : Int) + 1) = ((i + 1 : Nat) : Int) from by rw [wrap_i64 (by omega) (by omega)]; rfl, show IntKind.wrap .i64 ((n : Int) - 1 - i - 1) = (n : Int) - 1 - ((i + 1 : Nat) : Int) from by rw [wrap_i64 (by omega) (by omega)]; omega]
  ·rw [ym, ym]
   simp only [List.length_set, hyl]
   have h1 := hys i (by omega)
   have h2 := hys (n - 1 - i) (by omega)
   rw [if_neg (by omega)] at h1 h2
   by_cases e1 : n - 1 - i = k
   ·subst e1
    rw [if_pos ⟨rfl, hk⟩, if_pos (by omega), h1]
    congr 1
    omega
   ·rw [if_neg (fun e => e1 e.1)]
    by_cases e2 : i = k
    ·subst e2
     rw [if_pos ⟨rfl, hk⟩, if_pos (by omega), h2]
    ·rw [if_neg (fun e => e2 e.1), hys k hk]
     by_cases e3 : k < i \/ n <= k + i
     ·rw [if_pos e3, if_pos (by omega)]
     ·rw [if_neg e3, if_neg (by omega)]
  ·rw [wrap_i64 (by omega) (by omega)]; omega
 ·refine zc (decide_eq_false hlt) ⟨rfl, ?_, hg⟩
  have e : ys = xs.reverse := by
   refine qs (by simp [hyl, hl]) (fun k => ?_)
   by_cases hk : k < n
   ·rw [hys k hk, List.getD_eq_getElem?_getD (l := xs.reverse), List.getElem?_reverse (by omega), hl, <- List.getD_eq_getElem?_getD]
    split
    ·rfl
    ·congr 1; omega
   ·rw [List.getD_eq_getElem?_getD, List.getD_eq_getElem?_getD, List.getElem?_eq_none (by omega), List.getElem?_eq_none (by simp; omega)]
  rw [<- e]
  exact ho
theorem Owni.trunc {w : World} {e : TypeId} {B : Nat} {A : Option Addr} {n c : Nat} {ys : List Nat} {k : Nat} (h : Owni (zu .u32) e w B A n c (ys ++ [k])) : zm A 0 c 1 = A /\ n = ys.length + 1 /\ Owni (zu .u32) e w B A ys.length c ys := by
 have hl := h.len
 rw [List.length_append, List.length_singleton] at hl
 have hle := h.le
 obtain ⟨h1, h2⟩ := h
 rcases h2 with ⟨_, hn⟩ | ⟨g, cap, cur, hv, hB, hg, hnc, hcm, hcs, ht⟩
 ·omega
 ·injection hv with hA hn hc
  subst hA hc
  refine ⟨?_, hl.symm, ⟨by rw [(zu .u32).yY], .inr ⟨g, c, cur, rfl, hB, hg, by omega, hcm, hcs, ?_⟩⟩⟩
  ·unfold zm
   split
   ·rename_i h0; omega
   ·simp [Addr.add]
  ·have e1 : cur.toList.take (ys.length * (zu .u32).k) = ((zu .u32).flat (ys ++ [k])).take (ys.length * (zu .u32).k) := by
    rw [<- ht, List.take_take, Nat.min_eq_left (Nat.mul_le_mul_right _ (by omega))]
   have e2 := (zu .u32).yY ys
   rw [e1, (zu .u32).zcM, List.take_append_of_le_length (by omega), List.take_of_length_le (by omega)]
theorem Drp.inv {ask : Nat -> Bool} {pg : PgF} {c st c' : List Nat} {n : Nat} {e : Int} (h : Drp ask pg c (n :: st) c' e) :
  (c.getD n 0 ≠ 1 /\ atE c n ≠ 0 /\ c' = c /\ e = atE c n) \/ (c.getD n 0 ≠ 1 /\ atE c n = 0 /\ Drp ask pg (xg c n) st c' e) \/ (c.getD n 0 = 1 /\ ask n = false /\ c' = c /\ e = 2) \/
  (c.getD n 0 = 1 /\ ask n = true /\ (pg n).2 = e /\ e ≠ 0 /\ c' = c) \/ (c.getD n 0 = 1 /\ ask n = true /\ (pg n).2 = 0 /\ Drp ask pg (xg c n) (yp pg n ++ st) c' e) := by
 cases h with
 | bad h1 h2 => exact .inl ⟨h1, h2, rfl, rfl⟩
 | dec h1 h2 h3 => exact .inr (.inl ⟨h1, h2, h3⟩)
 | noask h1 h2 => exact .inr (.inr (.inl ⟨h1, h2, rfl, rfl⟩))
 | err h1 h2 h3 h4 => exact .inr (.inr (.inr (.inl ⟨h1, h2, h3, h4, rfl⟩)))
 | last h1 h2 h3 h4 => exact .inr (.inr (.inr (.inr ⟨h1, h2, h3, h4⟩)))
theorem zeb {N : Nat} {bs : List UInt8} : (xQ N bs).1.2.1.length <= 1024 /\ ∀ k ∈ (xQ N bs).1.2.1, 2 <= k /\ k < N := by
 unfold xQ
 split
 ·rename_i hc
  obtain ⟨h0, h1, h2, h3, h4⟩ := hc
  refine ⟨?_, h4⟩
  dsimp only
  have hdl : (B (yh bs).1.2.2).length <= 4096 := by
   have := zeA (size := (bs.length : Int)) (f := xf bs) (by rw [(ue h0).2])
   rw [(ue h0).1]
   omega
  unfold j6
  rw [zeH]
  omega
 ·simp [yU]
theorem zgD {c : List Nat} {n : Nat} (h : atE c n = 0) : (xg c n).sum + 1 = c.sum := by
 rcases zb3 c n with ⟨_, h2, h3, h4⟩ | h2 | h2
 ·unfold xg
  rw [if_pos h]
  have := zeN c n (c.getD n 0 - 1) h3
  omega
 ·omega
 ·omega
theorem zje {α : Type} (l : List α) : l = [] \/ ∃ (r : List α) (a : α), l = r ++ [a] := by
 rcases List.eq_nil_or_concat l with h | ⟨r, a, h⟩
 ·exact .inl h
 ·exact .inr ⟨r, a, by rw [h, List.concat_eq_append]⟩
theorem zo5 {l : List Nat} {B : Nat} (h : ∀ n ∈ l, n <= B) : l.sum <= l.length * B := by
 induction l with
 | nil => simp
 | cons a r ih =>
  have h1 := ih (fun n hn => h n (List.mem_cons_of_mem _ hn))
  have h2 := h a List.mem_cons_self
  rw [List.sum_cons, List.length_cons, Nat.add_mul]
  omega
theorem zec (h : SpM w b db S F Fd x hb hr nb nr m) {n : Nat} (hn : n < 4294967296) {c' : List Nat} {e : Int} (hD : S.asked n = true -> Drp S.asked S.page S.now [n] c' e) (hno : S.asked n = false -> c' = S.now /\ e = 2) :
  Calls Tryz.prog 28 #[.pointer (some ⟨b, 0, none⟩), .int .u32 (n : Int)] w (Ret fun v w' => v = .int .i64 e /\ SpM w' b db { S with now := c' } F Fd x hb hr nb nr m /\ Only F w w') := by
 have hFlt := h.lt
 have hdim := h.dims
 have hN := hdim.n
 have hnrlt := hFlt nr h.nrF
 have hsum0 : S.now.sum <= 4096 * 65535 := by
  obtain ⟨q, hc⟩ := h.nowC
  have := zo5 (l := S.now) (B := 65535) (fun a ha => by have := hc.fits a ha; omega)
  have hl := hc.len
  exact Nat.le_trans this (Nat.mul_le_mul_right _ hl.2)
 apply znr
 unfold S28
 refine zc (by rfl) (zb (vy h hn) ?_)
 rintro _ w1 ⟨rfl, hw1⟩
 refine ⟨_, rfl, ?_⟩
 rw [hw1]
 refine zg (fun hq => ?_) (fun hq => ?_)
 ·have hq : S.asked n = false := by simpa using hq
  obtain ⟨rfl, rfl⟩ := hno hq
  exact ⟨rfl, h, Only.refl F w⟩
 have hq : S.asked n = true := by simpa using hq
 have hD := hD hq
 refine zr fun r2 w2 hb2 he2 hr2 hz2 => ?_
 have ho2 : Owni (zu .u32) 41 w2 r2 (some ⟨r2, 0, none⟩) 1 1 [n] := j4 (by exact hb2) rfl (by omega) (Nat.le_refl _)
 refine zij (fun y k w' => ∃ (cc xs : List Nat) (A : Option Addr) (cp : Nat), y = ((A, xs.length, cp), ()) /\ k = cc.sum /\ Drp S.asked S.page cc xs.reverse c' e /\ SpM w' b db { S with now := cc } F Fd x hb hr nb nr m /\ Owni (zu .u32) 41 w' r2 A xs.length cp xs /\ (∀ a ∈ xs, a < 4294967296) /\ Only F w w' /\ xs.length + 1100 * cc.sum <= 1 + 1100 * S.now.sum)
  S.now.sum ⟨S.now, [n], _, 1, rfl, rfl, hD, h.ext he2, ho2, by simpa using hn, Only.zG he2, by simp⟩ ?_
 rintro _ k w3 J ⟨cc, xs, A, cp, rfl, rfl, hD, hS, ho, h32, hO, hbound⟩ hJ
 dsimp only
 rcases zje xs with rfl | ⟨ys, a, rfl⟩
 ·refine zc (decide_eq_false (by simp)) ?_
  rw [List.reverse_nil] at hD
  cases hD
  exact ⟨rfl, hS, hO⟩
 have hle := ho.le
 obtain ⟨ecut, hyl, hoy⟩ := ho.trunc
 rw [ecut]
 rw [hyl] at ho hle ⊢
 rw [hyl] at hbound
 refine zf (decide_eq_true (by omega)) ?_
 have ew : IntKind.wrap .i64 (((ys.length + 1 : Nat) : Int) - 1) = (ys.length : Int) := by rw [wrap_i64 (by omega) (by omega)]; omega
 rw [ew]
 refine zR ho.sl (by omega) (by omega) ?_
 rw [Int.toNat_natCast]
 have ea : (ys ++ [a]).getD ys.length 0 = a := by simp
 rw [ea]
 have ha := h32 a (by simp)
 refine zJ ⟨by omega, by omega⟩ ?_
 obtain ⟨t, hbx⟩ := hS.box
 refine zs (qK (l := .ptr) 8 (some ⟨nb, 0, none⟩) hbx (by rfl) (by rfl) ?_)
 refine zb (kQ hS a ha) ?_
 rintro _ w4 ⟨rfl, hw4⟩
 refine ⟨_, rfl, ?_⟩
 rw [hw4]
 dsimp only
 rw [List.reverse_append, List.reverse_singleton, List.singleton_append] at hD
 have hr2F : ∀ j, orow A = some j -> w.heap.size <= j := fun j hj => by have := ho.row j hj; omega
 have hnrA : ∀ j, some nr = some j -> orow A ≠ some j := fun j hj e => by injection hj with hj; subst hj; have := hr2F _ e; omega
 have hO' : ∀ {w5 : World}, w3.grownBy w5 (some nr) -> Only F w w5 := fun hg => Only.trans hO (h.zgB hg) (fun j hj => .inl hj)
 rcases hD.inv with ⟨d1, d2, d3, d4⟩ | ⟨d1, d2, d3⟩ | ⟨d1, d2, d3, d4⟩ | ⟨d1, d2, d3, d4, d5⟩ | ⟨d1, d2, d3, d4⟩
 ·refine zf (bne_iff_ne.2 (by omega)) ?_
  refine zs (qK (l := .ptr) 8 (some ⟨nb, 0, none⟩) hbx (by rfl) (by rfl) ?_)
  refine zb (zcy hS ha) ?_
  rintro _ w5 ⟨rfl, hS5, hg5⟩
  refine ⟨((za6 cc a : Int), atE cc a, ()), rfl, zf (bne_iff_ne.2 d2) ?_⟩
  have es : xg cc a = cc := by unfold xg; rw [if_neg d2]
  dsimp only at hS5
  rw [es] at hS5
  subst d3 d4
  exact ⟨rfl, hS5, hO' hg5⟩
 ·refine zf (bne_iff_ne.2 (by omega)) ?_
  refine zs (qK (l := .ptr) 8 (some ⟨nb, 0, none⟩) hbx (by rfl) (by rfl) ?_)
  refine zb (zcy hS ha) ?_
  rintro _ w5 ⟨rfl, hS5, hg5⟩
  refine ⟨((za6 cc a : Int), atE cc a, ()), rfl, ?_⟩
  dsimp only
  rw [d2]
  refine zc (by rfl) ?_
  have hsum := zgD d2
  exact hJ _ _ _ (by omega : (xg cc a).sum < cc.sum) ⟨xg cc a, ys, A, cp, rfl, rfl, d3, hS5, hoy.grown hg5 hnrA, fun k hk => h32 k (List.mem_append_left _ hk), hO' hg5, by omega⟩
 all_goals
  refine zc (bne_eq_false_iff_eq.2 (by omega)) ?_
  refine zb (vT hS ha) ?_
  rintro _ w5 ⟨y, rfl, hok, he5⟩
  refine ⟨(pgT (Spa.get { S with now := cc } a).1 y, (Spa.get { S with now := cc } a).2, ()), rfl, ?_⟩
 ·have eg : Spa.get { S with now := cc } a = (yU, 2) := if_pos d2
  rw [eg] at hok ⊢
  refine yE (vs := pgV yU y) (by rfl) (jS _ _) (fun r6 w6 hb6 he6 hr6 => ?_) (by rfl)
  refine zf (by rfl) ?_
  subst d3 d4
  exact ⟨rfl, (hS.ext he5).ext he6, Only.trans (Only.trans hO (Only.zG (F := F) he5) (fun j hj => .inl hj)) (Only.zG (F := F) he6) (fun j hj => .inl hj)⟩
 ·have eg : Spa.get { S with now := cc } a = S.page a := by
   unfold Spa.get
   rw [if_neg (by rw [show Spa.asked { S with now := cc } a = S.asked a from rfl, d2]; simp), if_neg (by dsimp only; omega)]
   rfl
  rw [eg] at hok ⊢
  refine yE (vs := pgV (S.page a).1 y) (by rfl) (jS _ _) (fun r6 w6 hb6 he6 hr6 => ?_) (by rfl)
  refine zf (bne_iff_ne.2 (by dsimp only; rw [d3]; exact d4)) ?_
  subst d5
  refine ⟨by rw [<- d3], (hS.ext he5).ext he6, Only.trans (Only.trans hO (Only.zG (F := F) he5) (fun j hj => .inl hj)) (Only.zG (F := F) he6) (fun j hj => .inl hj)⟩
 ·have eg : Spa.get { S with now := cc } a = S.page a := by
   unfold Spa.get
   rw [if_neg (by rw [show Spa.asked { S with now := cc } a = S.asked a from rfl, d2]; simp), if_neg (by dsimp only; omega)]
   rfl
  rw [eg] at hok ⊢
  refine yE (vs := pgV (S.page a).1 y) (by rfl) (jS _ _) (fun r6 w6 hb6 he6 hr6 => ?_) (by rfl)
  dsimp only
  rw [d3]
  refine zc (by rfl) ?_
  have he56 := he5.trans he6
  have hS6 := hS.ext he56
  have hok6 := hok.ext he6
  have hoy6 := hoy.ext he56
  have o6 : Only F w w6 := Only.trans hO (Only.zG (F := F) he56) (fun j hj => .inl hj)
  obtain ⟨t, hbx⟩ := hS6.box
  refine zs (qK (l := .ptr) 8 (some ⟨nb, 0, none⟩) hbx (by rfl) (by rfl) ?_)
  refine zb (zcy hS6 ha) ?_
  rintro _ w7 ⟨rfl, hS7, hg7⟩
  have datE : atE cc a = 0 := by
   obtain ⟨a1, a2, a3⟩ := vF.1 d2
   have hl := hS.ok.now
   have hl' : cc.length = S.N := hl
   unfold atE
   rw [if_neg (by omega), if_neg (by omega)]
  refine ⟨((za6 cc a : Int), atE cc a, ()), rfl, ?_⟩
  dsimp only
  rw [datE]
  refine zc (by rfl) ?_
  have h3lt : nr < w3.heap.size := Nat.lt_of_lt_of_le hnrlt hO.2.2.2.1
  have hb7 := hb6.grown hg7 (by simp; have := he5.size; omega)
  have hkrow : ∀ j, orow y.1 = some j -> w3.heap.size <= j := fun j hj => hok.row j hj
  have hok7 := hok6.grown hg7 (fun j hj e => by injection hj with hj; subst hj; have := hkrow _ e; omega)
  have hoy7 := hoy6.grown hg7 hnrA
  have o7 : Only F w w7 := Only.trans o6 (h.zgB hg7) (fun j hj => .inl hj)
  refine zn (l := .slc) 1 y hb7 (by rfl) ?_
  have hkl := (zeb (N := S.N) (bs := B (S.dev.read a).1))
  have hkl1 : (S.page a).1.2.1.length <= 1024 := hkl.1
  have hyn := hok7.len
  refine zb (zkh hok7 (by omega)) ?_
  rintro _ w8 ⟨rfl, hok8, hg8⟩
  refine ⟨(), rfl, ?_⟩
  have hyr6 : ∀ j, orow y.1 = some j -> j ≠ r6 := fun j hj e => by have := hok.yc j hj; omega
  have hb8 := hb7.grown hg8 (fun e => hyr6 r6 e.symm rfl)
  have hAlt : ∀ j, orow A = some j -> j < w3.heap.size := fun j hj => hoy.yc j hj
  have hoy8 := hoy7.grown hg8 (fun j hj e => by have := hkrow j hj; have := hAlt j e; omega)
  have o8' : Only (fun j => orow y.1 = some j) w7 w8 := Only.z7 hg8 (fun j hj => .inl hj)
  have h37 : w.heap.size <= w3.heap.size := hO.2.2.2.1
  have hS8 := hS7.only o8' (fun j hj e => by have := hkrow j e; have := hFlt j hj; omega)
  have o8 : Only F w w8 := Only.trans o7 o8' (fun j hj => .inr (by have := hkrow j hj; omega))
  refine zn (l := .slc) 1 y hb8 (by rfl) ?_
  have hrl : (S.page a).1.2.1.reverse.length = y.2.1 := by rw [List.length_reverse]; exact hyn
  refine xi (E := zu .u32) jD hoy8 (by have := hb8.lt; have := he5.size; omega) hok8.sl (by omega) (by omega) ?_
  intro A' c'' w9 ho9 hg9 _
  have hx9 : ∀ j, orow A = some j -> ¬ F j := fun j hj hf => by have := hr2F j hj; have := hFlt j hf; omega
  have o9' : Only (fun j => orow A = some j) w8 w9 := Only.z7 hg9.grown (fun j hj => .inl hj)
  have hS9 := hS8.only o9' (fun j hj e => hx9 j e hj)
  have o9 : Only F w w9 := Only.trans o8 o9' (fun j hj => .inr (hr2F j hj))
  have hsum := zgD datE
  rw [show ys.length + y.2.1 = (ys ++ (S.page a).1.2.1.reverse).length by rw [List.length_append, hrl]] at ho9 ⊢
  refine hJ _ _ _ (by omega : (xg cc a).sum < cc.sum) ⟨xg cc a, ys ++ (S.page a).1.2.1.reverse, A', c'', rfl, rfl, ?_, hS9, ho9, fun k hk => ?_, o9, ?_⟩
  ·rw [List.reverse_append, List.reverse_reverse]; exact d4
  ·rcases List.mem_append.1 hk with hk | hk
   ·exact h32 k (List.mem_append_left _ hk)
   ·have := hkl.2 k (List.mem_reverse.1 hk); omega
  ·rw [List.length_append, hrl]; omega
end V
/- Contracts of counts.Load, and of the reference's New, Pages, Load. -/
namespace V
open Go Go.Proofs Go.RowKit
theorem zjf {size : Int} {n : Nat} (h : zT size n = true) : spages size n = ((yl n (zH size) : Nat) : Int) := by
 unfold spages
 rw [if_pos h, Int.toNat_natCast]
end V
end Go.Proofs.YtplgodmmmppmeaaGreat
