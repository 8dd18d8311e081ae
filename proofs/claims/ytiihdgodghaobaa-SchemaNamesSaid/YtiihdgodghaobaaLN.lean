/- SchemaNames, as a contract. -/
import Derived.Test.YtiihdgodghaobaaL
import Derived.Test.YtiihdgodghaobaaKSchema4
import Derived.Test.YtiihdgodghaobaaKKit2
set_option linter.unusedVariables false
set_option linter.unusedSimpArgs false
namespace Go.Proofs.Ytiihdgodghaobaa.V
open Go Go.Proofs Go.RowKit

def strk : ByteArray := ByteArray.mk #[107]
def strv : ByteArray := ByteArray.mk #[118]
def stra : ByteArray := ByteArray.mk #[97]
def pk : Col := (strk, 3, false)
def pv : Col := (strv, 1, true)
def texts7 : List ByteArray := [ByteArray.mk #[], ByteArray.mk #[1], ByteArray.mk #[1, 129, 2, 97], ByteArray.mk #[0], ByteArray.mk #[1, 129, 1, 49], ByteArray.mk #[1, 128, 1, 97], ByteArray.mk #[2, 1, 1, 97, 1, 1, 97]]
theorem texts7_none : ∀ i, i < 7 → readR (B (texts7.getD i ByteArray.empty)) = none
  | 0, _ => by kernel_rfl
  | 1, _ => by kernel_rfl
  | 2, _ => by kernel_rfl
  | 3, _ => by kernel_rfl
  | 4, _ => by kernel_rfl
  | 5, _ => by kernel_rfl
  | 6, _ => by kernel_rfl
  | n + 7, h => by omega
theorem texts7_size : ∀ s ∈ texts7, s.size ≤ 9223372036854775807 := by decide
def cStr (s : ByteArray) : Cell := (3, 0, s)
def cNum (n : Int) : Cell := (1, n, ByteArray.empty)
theorem cells_q : ∀ v ∈ [cStr stra, cNum 1, cell0, (9, 0, ByteArray.empty)], cellQ v := by
  intro v hv
  simp only [List.mem_cons, List.not_mem_nil, or_false] at hv
  rcases hv with rfl | rfl | rfl | rfl <;> (unfold cellQ; decide)
theorem blk_cols {w : World} {r n : Nat} {cs : List Value} (xs : List Col) (h : Blk w r cs 31) (he : cs = colE.flat xs) (hn : xs.length = n) (hm : Nat.ble n 100 = true) : Sli colE w (some ⟨r, 0, none⟩) n xs := Sli.of_blk (E := colE) (xs := xs) (by rw [← he]; exact h) hn (by have := Nat.le_of_ble_eq_true hm; omega)
theorem blk_cells {w : World} {r n : Nat} {cs : List Value} (xs : List Cell) (h : Blk w r cs 44) (he : cs = cellE.flat xs) (hn : xs.length = n) (hm : Nat.ble n 100 = true) : Sli cellE w (some ⟨r, 0, none⟩) n xs := Sli.of_blk (E := cellE) (xs := xs) (by rw [← he]; exact h) hn (by have := Nat.le_of_ble_eq_true hm; omega)
theorem blk_ints {w : World} {r n : Nat} {cs : List Value} (xs : List Int) (h : Blk w r cs 3) (he : cs = intE.flat xs) (hn : xs.length = n) (hm : Nat.ble n 100 = true) : Sli intE w (some ⟨r, 0, none⟩) n xs := Sli.of_blk (E := intE) (xs := xs) (by rw [← he]; exact h) hn (by have := Nat.le_of_ble_eq_true hm; omega)
theorem blk_strs {w : World} {r n : Nat} {cs : List Value} (xs : List ByteArray) (h : Blk w r cs 9) (he : cs = strE.flat xs) (hn : xs.length = n) (hm : Nat.ble n 100 = true) : Sli strE w (some ⟨r, 0, none⟩) n xs := Sli.of_blk (E := strE) (xs := xs) (by rw [← he]; exact h) hn (by have := Nat.le_of_ble_eq_true hm; omega)
theorem pair_calls (w : World) : Calls Try.prog 22 #[] w (Ret fun v w' => ∃ r, v = .slice (some ⟨r, 0, none⟩) 2 2 ∧ Sli colE w' (some ⟨r, 0, none⟩) 2 [pk, pv] ∧ Ext w w') := by
  apply calls22
  unfold S22
  exact new_i fun r w1 hb he _ _ => ⟨r, rfl, blk_cols [pk, pv] hb rfl rfl rfl, he⟩
theorem krow_calls (w : World) (s : ByteArray) (n : Int) : Calls Try.prog 25 #[.string s, .int .i64 n] w (Ret fun v w' => ∃ r, v = .slice (some ⟨r, 0, none⟩) 2 2 ∧ Sli cellE w' (some ⟨r, 0, none⟩) 2 [cStr s, cNum n] ∧ Ext w w') := by
  apply calls25
  unfold S25
  refine callW_of (str_calls w s) ?_
  rintro _ w1 ⟨rfl, he1⟩
  refine ⟨(3, 0, s, ()), rfl, ?_⟩
  refine callW_of (num_calls w1 n) ?_
  rintro _ w2 ⟨rfl, he2⟩
  refine ⟨(1, n, ByteArray.empty, ()), rfl, ?_⟩
  exact new_i fun r w3 hb he _ _ => ⟨r, rfl, blk_cells [cStr s, cNum n] hb rfl rfl rfl, (he1.trans he2).trans he⟩
/-- What was picked, and what was to be, are the same. -/
theorem last_i {w : World} {r1 r2 n c : Nat} {A : Option Addr} {K : Bool → WP} {cs : List Value} {xs : List Cell} (h1 : Blk w r1 [.slice A n c] 40) (hs : Sli cellE w A n xs) (h2 : Blk w r2 [.slice (some ⟨c, 0, none⟩) 2 2] 40) (hs2 : Sli cellE w (some ⟨c, 0, none⟩) 2 xs) (hK : ∀ w', Ext w w' → K true w') :
    callW Try.prog 27 [.slice (some ⟨r1, 0, none⟩) 1 1, .slice (some ⟨r2, 0, none⟩) 1 1] (.one (.one .bool)) K w := by
  refine callW_of (samerows1_calls h1 h2 hs hs2) ?_
  rintro _ w1 ⟨⟨b, rfl, hb⟩, he⟩
  obtain rfl : b = true := hb.2 rfl
  exact ⟨true, rfl, hK _ he⟩
def pickL : List Cell := [cNum 1, cell0]
theorem pick_eq : pickR [cStr stra, cNum 1] [1, 7] = pickL := by kernel_rfl
theorem times33 : nameE (B ⟨(timesL (B stra) (Int.toNat 33)).toArray⟩) = 170 := by kernel_rfl
theorem snames_calls (w : World) : Calls Try.prog 7 #[] w (Ret fun v w' => v = .bool true ∧ Ext w w') := by
  apply calls7
  unfold S7
  refine callW_of (lives_calls w) ?_
  rintro _ w1 ⟨rfl, he⟩
  refine ⟨_, rfl, splitW_f (by rfl) ?_⟩
  refine callW_of (pair_calls w1) ?_
  rintro _ w2 ⟨rp, rfl, hp, he2⟩
  refine ⟨(some ⟨rp, 0, none⟩, 2, 2), rfl, ?_⟩
  have he := he.trans he2
  refine draw_i fun w3 he3 _ _ => ?_
  have he := he.trans he3
  have hp := hp.ext he3
  refine idx_A (ls := [.str, .int .i64, .bool]) colT col0 hp (fun _ => rfl) rfl (by omega) (by dsimp only; omega) ?_
  refine idx_A (ls := [.str, .int .i64, .bool]) colT col0 hp (fun _ => rfl) rfl (by omega) (by dsimp only; omega) ?_
  refine new_i fun rt w4 hbt he4 _ _ => ?_
  have hp := hp.ext he4
  have he := he.trans he4
  have ht := blk_cols [pk, pk] hbt rfl rfl rfl
  refine new_i fun rk w5 hbk he5 _ _ => ?_
  have hp := hp.ext he5
  have ht := ht.ext he5
  have he := he.trans he5
  have hk := blk_cols [(stra, 0, false)] hbk rfl rfl rfl
  refine callW_of (find_calls (c := 2) (s := strv) hp) ?_
  rintro _ w6 ⟨rfl, he6⟩
  refine ⟨(1, 0, ()), by kernel_rfl, ?_⟩
  refine callW_of (find_calls (c := 2) (s := ByteArray.mk #[119]) (hp.ext he6)) ?_
  rintro _ w7 ⟨rfl, he7⟩
  refine ⟨(0, 172, ()), by kernel_rfl, ?_⟩
  refine new_i fun r1 w8 hb1 he8 _ _ => ?_
  have hx := (he6.trans he7).trans he8
  have h1 := blk_ints [1, 0, 1] hb1 rfl rfl rfl
  refine callW_of (take_calls (c := 2) (c2 := 3) (hp.ext hx) h1 (by omega)) ?_
  rintro _ w9 ⟨⟨A9, n9, c9⟩, rfl, ho9, he9⟩
  refine ⟨((A9, n9, c9), 0, ()), by kernel_rfl, ?_⟩
  have hx := hx.trans he9
  have e9 : (takeR [pk, pv] [1, 0, 1]).1 = [pv, pk, pv] := by kernel_rfl
  rw [e9] at ho9
  dsimp only at ho9 ⊢
  obtain rfl : 3 = n9 := ho9.len
  refine new_i fun r2 w10 hb2 he10 _ _ => ?_
  have hx := hx.trans he10
  have ho9 := ho9.ext he10
  have h2 := blk_ints [2] hb2 rfl rfl rfl
  refine callW_of (take_calls (c := 2) (c2 := 1) (hp.ext hx) h2 (by omega)) ?_
  rintro _ w11 ⟨x11, rfl, ho11, he11⟩
  refine ⟨(x11, 172, ()), by kernel_rfl, ?_⟩
  have hx := hx.trans he11
  have ho9 := ho9.ext he11
  refine callW_of (read_calls (w := w11) (s := ByteArray.mk #[1, 129, 1, 97, 88, 89]) (by decide)) ?_
  rintro _ w12 ⟨⟨⟨A12, n12, c12⟩, t12, z12, _⟩, rfl, hr12⟩
  refine ⟨((A12, n12, c12), t12, z12, ()), rfl, ?_⟩
  have er : readR (B (ByteArray.mk #[1, 129, 1, 97, 88, 89])) = some ([(⟨#[97]⟩, 1, true)], [88, 89]) := by kernel_rfl
  rw [er] at hr12
  obtain ⟨⟨ho12, et12, ez12⟩, he12⟩ := hr12
  dsimp only at ho12 et12 ez12 ⊢
  subst et12 ez12
  obtain rfl : 1 = n12 := ho12.len
  have hx := hx.trans he12
  have ho9 := ho9.ext he12
  refine new_i fun r3 w13 hb3 he13 _ _ => ?_
  have hx := hx.trans he13
  have ho9 := ho9.ext he13
  have ho12 := ho12.ext he13
  have h3 := blk_strs texts7 hb3 rfl rfl rfl
  have he := he.trans hx
  have hp := hp.ext hx
  have ht := ht.ext hx
  have hk := hk.ext hx
  have h9 := ho9.sl
  have h12 := ho12.sl
  clear hx ho9 ho12 ho11 h1 h2 hb1 hb2 hb3 hbt hbk he2 he3 he4 he5 he6 he7 he8 he9 he10 he11 he12 he13 er e9
  refine loopW_i (fun y w' => Ext w13 w' ∧ ∃ i : Nat, i ≤ 7 ∧ y = (true, (i : Int), ())) (fun y => (7 - y.2.1).toNat) ⟨Ext.refl _, 0, by omega, rfl⟩ ?_
  rintro _ w14 ⟨hx, i, hi, rfl⟩
  dsimp only
  by_cases hlt : i < 7
  · refine splitW_t (decide_eq_true (by omega)) ?_
    refine idx_str (h3.ext hx) (by omega) (by omega) ?_
    rw [Int.toNat_natCast]
    have hmem : texts7.getD i ByteArray.empty ∈ texts7 := getD_mem (show i < texts7.length from hlt)
    refine callW_of (read_calls (w := w14) (texts7_size _ hmem)) ?_
    rintro _ w15 ⟨x15, rfl, hr15⟩
    refine ⟨x15, rfl, ?_⟩
    rw [texts7_none i hlt] at hr15
    obtain ⟨e15, he15⟩ := hr15
    subst e15
    rw [wrap_i64 (by omega) (by omega)]
    exact splitW_t (by rfl) ⟨⟨hx.trans he15, i + 1, by omega, rfl⟩, by omega⟩
  obtain rfl : i = 7 := by omega
  refine splitW_f (by rfl) ?_
  clear hlt hi
  have T : ∀ {J : Bool × Unit → WP} {w' : World}, Ext w13 w' → ∀ y : Bool × Unit, y.1 = true → True := fun _ _ _ => trivial
  refine joinW_s (fun (y : Bool × Unit) w' => y.1 = true ∧ Ext w13 w') ?_ (fun J hJ => ?_)
  · rintro ⟨y, _⟩ w' ⟨rfl, hx⟩
    exact ⟨rfl, he.trans hx⟩
  refine draw_i fun w15 he15 _ _ => ?_
  have hx := hx.trans he15
  have hname : ∀ {w' : World} {K : Int → WP} (s : ByteArray) (e : Int), nameE (B s) = e → Ext w13 w' → (∀ w'', Ext w13 w'' → K e w'') → callW Try.prog 23 [.string s] (.one (.one (.int .i64))) K w' := fun {w' K} s e hs hx hK => by
    refine callW_of (name_calls w' s) ?_
    rintro _ w2 ⟨rfl, he2⟩
    exact ⟨e, by rw [hs]; rfl, hK _ (hx.trans he2)⟩
  have hcheck : ∀ {w' : World} {K : Int → WP} {A : Option Addr} {n c : Nat} {cs : List Col} (e : Int), Sli colE w' A n cs → n ≤ c → checkC cs = e → Ext w13 w' → (∀ w'', Ext w13 w'' → K e w'') → callW Try.prog 11 [.slice A n c] (.one (.one (.int .i64))) K w' := fun {w' K A n c cs} e h hc hs hx hK => by
    refine callW_of (check_calls h hc) ?_
    rintro _ w2 ⟨rfl, he2⟩
    exact ⟨e, by rw [hs]; rfl, hK _ (hx.trans he2)⟩
  have hrow : ∀ {w' : World} {K : Int → WP} {A : Option Addr} {n c : Nat} {vs : List Cell} (e : Int), Sli cellE w' A n vs → (∀ v ∈ vs, cellQ v) → rowR [pk, pv] vs = e → Ext w13 w' → (∀ w'', Ext w13 w'' → K e w'') → callW Try.prog 19 [.slice (some ⟨rp, 0, none⟩) 2 2, .slice A n c] (.one (.one (.int .i64))) K w' := fun {w' K A n c vs} e h hq hs hx hK => by
    refine callW_of (row_calls (hp.ext hx) (by omega) h hq) ?_
    rintro _ w2 ⟨rfl, he2⟩
    exact ⟨e, by rw [hs]; rfl, hK _ (hx.trans he2)⟩
  have hstr : ∀ {w' : World} {K : (Int × Int × ByteArray × Unit) → WP}, Ext w13 w' → (∀ w'', Ext w13 w'' → K (3, 0, stra, ()) w'') → callW Try.prog 26 [.string stra] (.one (.agg [.int .i64, .int .i64, .str])) K w' := fun {w' K} hx hK => by
    refine callW_of (str_calls w' stra) ?_
    rintro _ w2 ⟨rfl, he2⟩
    exact ⟨(3, 0, stra, ()), rfl, hK _ (hx.trans he2)⟩
  refine joinW_s (fun (y : Bool × Unit) w' => y.1 = true ∧ Ext w13 w') ?_ (fun J24 hJ24 => ?_)
  rotate_left
  · refine splitW_t (by rfl) ?_
    refine hname _ 0 (by kernel_rfl) hx fun w' hx => splitW_t (by rfl) ?_
    refine hname _ 170 (by kernel_rfl) hx fun w' hx => splitW_t (by rfl) ?_
    refine hname _ 170 (by kernel_rfl) hx fun w' hx => splitW_t (by rfl) ?_
    exact hJ24 _ _ ⟨rfl, hx⟩
  rintro ⟨y, _⟩ w16 ⟨rfl, hx⟩
  refine joinW_s (fun (y : Bool × Unit) w' => y.1 = true ∧ Ext w13 w') ?_ (fun J29 hJ29 => ?_)
  rotate_left
  · refine splitW_t (by rfl) ?_
    refine hname _ 170 (by kernel_rfl) hx fun w' hx => splitW_t (by rfl) ?_
    refine callW_of (times_calls w' stra (n := 33) (by omega) (by decide) (by decide)) ?_
    rintro _ w' ⟨rfl, hw⟩
    subst hw
    refine ⟨_, rfl, ?_⟩
    refine hname _ 170 times33 hx fun w' hx => splitW_t (by rfl) ?_
    refine hcheck 0 (hp.ext hx) (by omega) (by kernel_rfl) hx fun w' hx => splitW_t (by rfl) ?_
    exact hJ29 _ _ ⟨rfl, hx⟩
  rintro ⟨y, _⟩ w17 ⟨rfl, hx⟩
  refine joinW_s (fun (y : Bool × Unit) w' => y.1 = true ∧ Ext w13 w') ?_ (fun J35 hJ35 => ?_)
  rotate_left
  · refine splitW_t (by rfl) ?_
    refine hcheck 171 (Sli.nil _ _) (by omega) (by kernel_rfl) hx fun w' hx => splitW_t (by rfl) ?_
    refine hcheck 171 (ht.ext hx) (by omega) (by kernel_rfl) hx fun w' hx => splitW_t (by rfl) ?_
    refine hcheck 171 (hk.ext hx) (by omega) (by kernel_rfl) hx fun w' hx => splitW_t (by rfl) ?_
    exact hJ35 _ _ ⟨rfl, hx⟩
  rintro ⟨y, _⟩ w18 ⟨rfl, hx⟩
  refine joinW_s (fun (y : Bool × Unit) w' => y.1 = true ∧ Ext w13 w') ?_ (fun J40 hJ40 => ?_)
  rotate_left
  · refine splitW_t (by rfl) ?_
    refine new_i fun r w' hb he' _ _ => ?_
    refine hcheck 170 (blk_cols [(ByteArray.mk #[], 1, false)] hb rfl rfl rfl) (by omega) (by kernel_rfl) (hx.trans he') fun w' hx => splitW_t (by rfl) ?_
    refine callW_of (krow_calls w' stra 1) ?_
    rintro _ w2 ⟨r2, rfl, hs2, he2⟩
    refine ⟨(some ⟨r2, 0, none⟩, 2, 2), rfl, ?_⟩
    refine hrow 0 hs2 (fun v hv => cells_q v (by simp at hv ⊢; rcases hv with rfl | rfl <;> simp)) (by kernel_rfl) (hx.trans he2) fun w' hx => splitW_t (by rfl) ?_
    exact hJ40 _ _ ⟨rfl, hx⟩
  rintro ⟨y, _⟩ w19 ⟨rfl, hx⟩
  refine joinW_s (fun (y : Bool × Unit) w' => y.1 = true ∧ Ext w13 w') ?_ (fun J46 hJ46 => ?_)
  rotate_left
  · refine splitW_t (by rfl) ?_
    refine hstr hx fun w' hx => ?_
    refine new_i fun r w' hb he' _ _ => ?_
    refine hrow 0 (blk_cells [cStr stra, cell0] hb rfl rfl rfl) (fun v hv => cells_q v (by simp at hv ⊢; rcases hv with rfl | rfl <;> simp)) (by kernel_rfl) (hx.trans he') fun w' hx => splitW_t (by rfl) ?_
    refine new_i fun r w' hb he' _ _ => ?_
    refine hrow 173 (blk_cells [cell0, cell0] hb rfl rfl rfl) (fun v hv => cells_q v (by simp at hv ⊢; simp [hv])) (by kernel_rfl) (hx.trans he') fun w' hx => splitW_t (by rfl) ?_
    exact hJ46 _ _ ⟨rfl, hx⟩
  rintro ⟨y, _⟩ w20 ⟨rfl, hx⟩
  refine joinW_s (fun (y : Bool × Unit) w' => y.1 = true ∧ Ext w13 w') ?_ (fun J53 hJ53 => ?_)
  rotate_left
  · refine splitW_t (by rfl) ?_
    refine hrow 173 (Sli.nil _ _) (fun v hv => by cases hv) (by kernel_rfl) hx fun w' hx => splitW_t (by rfl) ?_
    refine hstr hx fun w' hx => ?_
    refine new_i fun r w' hb he' _ _ => ?_
    refine hrow 160 (blk_cells [cStr stra, (9, 0, ByteArray.empty)] hb rfl rfl rfl) (fun v hv => cells_q v (by simp at hv ⊢; rcases hv with rfl | rfl <;> simp)) (by kernel_rfl) (hx.trans he') fun w' hx => splitW_t (by rfl) ?_
    exact hJ53 _ _ ⟨rfl, hx⟩
  rintro ⟨y, _⟩ w21 ⟨rfl, hx⟩
  refine joinW_s (fun (y : Bool × Unit) w' => y.1 = true ∧ Ext w13 w') ?_ (fun J59 hJ59 => ?_)
  rotate_left
  · exact splitW_t (by rfl) (splitW_t (by rfl) (splitW_t (by rfl) (splitW_t (by rfl) (hJ59 _ _ ⟨rfl, hx⟩))))
  rintro ⟨y, _⟩ w22 ⟨rfl, hx⟩
  refine joinW_s (fun (y : Bool × Unit) w' => y.1 = true ∧ Ext w13 w') ?_ (fun J61 hJ61 => ?_)
  rotate_left
  · refine splitW_t (by rfl) (splitW_t (by rfl) (splitW_t (by rfl) ?_))
    refine idx_A (ls := [.str, .int .i64, .bool]) colT col0 (h9.ext hx) (fun _ => rfl) rfl (by omega) (by omega) ?_
    refine idx_A (ls := [.str, .int .i64, .bool]) colT col0 (hp.ext hx) (fun _ => rfl) rfl (by omega) (by omega) ?_
    refine ⟨_, fun w' => eql_col w' pv pv _ _, ?_⟩
    exact splitW_t (colEq_iff.2 rfl) (hJ61 _ _ ⟨rfl, hx⟩)
  rintro ⟨y, _⟩ w23 ⟨rfl, hx⟩
  refine joinW_s (fun (y : Bool × Unit) w' => y.1 = true ∧ Ext w13 w') ?_ (fun J68 hJ68 => ?_)
  rotate_left
  · refine splitW_t (by rfl) (splitW_t (by rfl) (splitW_t (by rfl) (splitW_t ?_ (hJ68 _ _ ⟨rfl, hx⟩))))
    rw [str_beq]
    exact decide_eq_true (by kernel_rfl)
  rintro ⟨y, _⟩ w24 ⟨rfl, hx⟩
  refine splitW_t (by rfl) (splitW_t (by rfl) ?_)
  refine idx_f (l := .bool) 2 (fun c => c.2.2) col0 (h12.ext hx) (fun _ => rfl) rfl (by omega) (by omega) ?_
  refine splitW_t (by rfl) ?_
  -- the last: in whatever order
  have hnum : ∀ {w' : World} {K : (Int × Int × ByteArray × Unit) → WP}, (∀ w'', Ext w' w'' → K (1, 1, ByteArray.empty, ()) w'') → callW Try.prog 28 [.int .i64 1] (.one (.agg [.int .i64, .int .i64, .str])) K w' := fun {w' K} hK => by
    refine callW_of (num_calls w' 1) ?_
    rintro _ w2 ⟨rfl, he2⟩
    exact ⟨(1, 1, ByteArray.empty, ()), rfl, hK _ he2⟩
  have hsame : ∀ {w' : World} {r1 r2 r3 c : Nat} {A : Option Addr} {n : Nat}, Ext w13 w' → Blk w' r1 [.slice A n c] 40 → Sli cellE w' A n pickL → Blk w' r2 [.slice (some ⟨r3, 0, none⟩) 2 2] 40 → Sli cellE w' (some ⟨r3, 0, none⟩) 2 pickL → callW Try.prog 27 [.slice (some ⟨r1, 0, none⟩) 1 1, .slice (some ⟨r2, 0, none⟩) 1 1] (.one (.one .bool)) (fun (u : Bool) => J (u, ())) w' := fun {w' r1 r2 r3 c A n} hx h1 hs h2 hs2 => by
    refine callW_of (samerows1_calls h1 h2 hs hs2) ?_
    rintro _ w1 ⟨⟨b, rfl, hb⟩, he1⟩
    obtain rfl : b = true := hb.2 rfl
    exact ⟨true, rfl, hJ _ _ ⟨rfl, hx.trans he1⟩⟩
  have tail : ∀ {w' : World} {x : Option Addr × Nat × Nat}, Ext w13 w' → Sli cellE w' x.1 x.2.1 pickL → (bothW (newW (.cells #[(.slice x.1 x.2.1 x.2.2)] 40) fun (r75 : Nat) =>
      callW Try.prog 28 [(.int .i64 (1 : Int))] (.one (.agg [(.int .i64), (.int .i64), .str])) fun (u76 : (Int × Int × ByteArray × Unit)) =>
      newW (.cells #[(.int .i64 u76.1), (.int .i64 u76.2.1), (.string u76.2.2.1), (.int .i64 (0 : Int)), (.int .i64 (0 : Int)), (.string ByteArray.empty)] 44) fun (r77 : Nat) =>
      newW (.cells #[(.slice (some (⟨r77, 0, none⟩ : Addr)) 2 2)] 40) fun (r78 : Nat) =>
      callW Try.prog 27 [(.slice (some (⟨r75, 0, none⟩ : Addr)) 1 1), (.slice (some (⟨r78, 0, none⟩ : Addr)) 1 1)] (.one (.one .bool)) fun (u79 : Bool) => J (u79, ())) <|
      callW Try.prog 28 [(.int .i64 (1 : Int))] (.one (.agg [(.int .i64), (.int .i64), .str])) fun (u80 : (Int × Int × ByteArray × Unit)) =>
      bothW (newW (.cells #[(.slice x.1 x.2.1 x.2.2)] 40) fun (r81 : Nat) =>
      newW (.cells #[(.int .i64 u80.1), (.int .i64 u80.2.1), (.string u80.2.2.1), (.int .i64 (0 : Int)), (.int .i64 (0 : Int)), (.string ByteArray.empty)] 44) fun (r82 : Nat) =>
      newW (.cells #[(.slice (some (⟨r82, 0, none⟩ : Addr)) 2 2)] 40) fun (r83 : Nat) =>
      callW Try.prog 27 [(.slice (some (⟨r81, 0, none⟩ : Addr)) 1 1), (.slice (some (⟨r83, 0, none⟩ : Addr)) 1 1)] (.one (.one .bool)) fun (u84 : Bool) => J (u84, ())) <|
      newW (.cells #[(.int .i64 u80.1), (.int .i64 u80.2.1), (.string u80.2.2.1), (.int .i64 (0 : Int)), (.int .i64 (0 : Int)), (.string ByteArray.empty)] 44) fun (r85 : Nat) =>
      bothW (newW (.cells #[(.slice x.1 x.2.1 x.2.2)] 40) fun (r86 : Nat) =>
      newW (.cells #[(.slice (some (⟨r85, 0, none⟩ : Addr)) 2 2)] 40) fun (r87 : Nat) =>
      callW Try.prog 27 [(.slice (some (⟨r86, 0, none⟩ : Addr)) 1 1), (.slice (some (⟨r87, 0, none⟩ : Addr)) 1 1)] (.one (.one .bool)) fun (u88 : Bool) => J (u88, ())) <|
      newW (.cells #[(.slice (some (⟨r85, 0, none⟩ : Addr)) 2 2)] 40) fun (r89 : Nat) =>
      newW (.cells #[(.slice x.1 x.2.1 x.2.2)] 40) fun (r90 : Nat) =>
      callW Try.prog 27 [(.slice (some (⟨r90, 0, none⟩ : Addr)) 1 1), (.slice (some (⟨r89, 0, none⟩ : Addr)) 1 1)] (.one (.one .bool)) fun (u91 : Bool) => J (u91, ())) w' := by
    rintro w' ⟨A, n, c⟩ hx hs
    dsimp only at hs ⊢
    refine ⟨?_, ?_⟩
    · refine new_i fun ra wa hba hea _ _ => hnum fun wb heb => new_i fun rc wc hbc hec _ _ => new_i fun rd wd hbd hed _ _ => ?_
      have h1 := ((hea.trans heb).trans hec).trans hed
      exact hsame (hx.trans h1) (((hba.ext heb).ext hec).ext hed) (hs.ext h1) hbd (blk_cells pickL (hbc.ext hed) rfl rfl rfl)
    · refine hnum fun wb heb => ⟨?_, ?_⟩
      · refine new_i fun ra wa hba hea _ _ => new_i fun rc wc hbc hec _ _ => new_i fun rd wd hbd hed _ _ => ?_
        have h1 := ((heb.trans hea).trans hec).trans hed
        exact hsame (hx.trans h1) ((hba.ext hec).ext hed) (hs.ext h1) hbd (blk_cells pickL (hbc.ext hed) rfl rfl rfl)
      · refine new_i fun rc wc hbc hec _ _ => ⟨?_, ?_⟩
        · refine new_i fun ra wa hba hea _ _ => new_i fun rd wd hbd hed _ _ => ?_
          have h1 := ((heb.trans hec).trans hea).trans hed
          exact hsame (hx.trans h1) (hba.ext hed) (hs.ext h1) hbd (blk_cells pickL ((hbc.ext hea).ext hed) rfl rfl rfl)
        · refine new_i fun rd wd hbd hed _ _ => new_i fun ra wa hba hea _ _ => ?_
          have h1 := ((heb.trans hec).trans hed).trans hea
          exact hsame (hx.trans h1) hba (hs.ext h1) (hbd.ext hea) (blk_cells pickL ((hbc.ext hed).ext hea) rfl rfl rfl)
  refine ⟨?_, ?_⟩
  · refine callW_of (krow_calls w24 stra 1) ?_
    rintro _ w25 ⟨r2, rfl, hs2, he2⟩
    refine ⟨(some ⟨r2, 0, none⟩, 2, 2), rfl, ?_⟩
    refine new_i fun r w26 hb he3 _ _ => ?_
    refine callW_of (pickc_calls (c := 2) (c2 := 2) (hs2.ext he3) (blk_ints [1, 7] hb rfl rfl rfl) (by omega)) ?_
    rintro _ w27 ⟨x, rfl, ho, he4⟩
    rw [pick_eq] at ho
    refine ⟨x, rfl, ?_⟩
    exact tail (((hx.trans he2).trans he3).trans he4) ho.sl
  · refine new_i fun r w26 hb he3 _ _ => ?_
    refine callW_of (krow_calls w26 stra 1) ?_
    rintro _ w25 ⟨r2, rfl, hs2, he2⟩
    refine ⟨(some ⟨r2, 0, none⟩, 2, 2), rfl, ?_⟩
    refine callW_of (pickc_calls (c := 2) (c2 := 2) hs2 ((blk_ints [1, 7] hb rfl rfl rfl).ext he2) (by omega)) ?_
    rintro _ w27 ⟨x, rfl, ho, he4⟩
    rw [pick_eq] at ho
    refine ⟨x, rfl, ?_⟩
    exact tail (((hx.trans he3).trans he2).trans he4) ho.sl
end Go.Proofs.Ytiihdgodghaobaa.V
