/- The example of chapter 2, as a contract. -/
import Derived.Test.YtoaobmfffcipfaaL
set_option linter.unusedVariables false
set_option linter.unusedSimpArgs false
namespace Go.Proofs.Ytoaobmfffcipfaa.V
open Go Go.Proofs Crc

theorem tab0 : (table.getD 0 0#32).toNat = 0 := by kernel_rfl
theorem tab128 : (table.getD 128 0#32).toNat = 2197175160 := by kernel_rfl
theorem crc_nil : (crc []).toNat = 0 := by kernel_rfl
theorem flip1 : flipG [1, 2] 7 3 5#32 = [129, 0] := by kernel_rfl
theorem flip2 : flipG [1, 2] (-1) 3 7#32 = [1, 2] := by kernel_rfl
theorem flip3 : flipG [1, 2] 0 33 7#32 = [1, 2] := by kernel_rfl
theorem flip4 : flipG [1, 2] 14 5 31#32 = [1, 194] := by kernel_rfl
theorem two_sl {w : World} {b : Nat} {x y : UInt8} (h : Blk w b (bV [x, y]) 5) : Sl w (some ⟨b, 0, none⟩) 2 (bV [x, y]) := Sl.of_blk h rfl (by omega)

theorem names_calls (w : World) : Calls Try.prog 5 #[] w (Ret fun v w' => v = .bool true ∧ Ext w w') := by
  apply calls5
  unfold S5
  refine callW_of (lives_calls w) ?_
  rintro _ w1 ⟨rfl, he1⟩
  refine ⟨_, rfl, ?_⟩
  refine splitW_f (by rfl) ?_
  refine callW_of (table_calls w1) ?_
  rintro _ w2 ⟨rfl, he2⟩
  refine ⟨(tabV table).toArray, rfl, ?_⟩
  have he02 := he1.trans he2
  apply newW_i
  have hz : (zeroC Try.prog 31).toList = List.replicate 256 (.int .u32 0) := by kernel_rfl
  have hb0 : Blk (w2.alloc (.cells (zeroC Try.prog 31) 31)) w2.heap.size (List.replicate 256 (.int .u32 0)) 31 := by rw [← hz]; exact Blk.new w2 _ _
  have he03 : Ext w (w2.alloc (.cells (zeroC Try.prog 31) 31)) := he02.alloc _
  have hB : w.heap.size ≤ w2.heap.size := he02.size
  generalize w2.heap.size = blk at hb0 hB ⊢
  generalize w2.alloc (.cells (zeroC Try.prog 31) 31) = w3 at hb0 he03 ⊢
  have hlen : (tabV table).length = 256 := by simp [length_tabV, table]
  have hone : ∀ v ∈ tabV table, v.oneCell' = true := by
    intro v hv
    obtain ⟨t, _, rfl⟩ := List.mem_map.1 hv
    rfl
  have hT : table.length = 256 := by simp [table]
  have hsz : (tabV table).toArray.size = 256 := by simpa using hlen
  refine ⟨hsz, hb0.storable_from (tabV table) 0 (by rw [hlen, List.length_replicate]; omega) hone, ?_⟩
  have hb4 := hb0.setCells (tabV table) (by rw [hlen, List.length_replicate])
  have he04 := he03.setCells (p := ⟨blk, 0, none⟩) hB (tabV table) 0
  show (newW _ _) (setCells w3 ⟨blk, 0, none⟩ 0 (tabV table))
  generalize setCells w3 ⟨blk, 0, none⟩ 0 (tabV table) = w4 at hb4 he04 ⊢
  apply newW_i
  have hd : Blk (w4.alloc (.cells #[(.int .u8 (1 : Int)), (.int .u8 (2 : Int))] 5)) w4.heap.size (bV [1, 2]) 5 := Blk.new w4 _ _
  have he05 := he04.alloc (.cells #[(.int .u8 (1 : Int)), (.int .u8 (2 : Int))] 5)
  have hb5 := hb4.alloc (.cells #[(.int .u8 (1 : Int)), (.int .u8 (2 : Int))] 5)
  generalize w4.alloc (.cells #[(.int .u8 (1 : Int)), (.int .u8 (2 : Int))] 5) = w5 at hd he05 hb5 ⊢
  generalize w4.heap.size = db at hd ⊢
  refine callW_of (flip_calls (bs := [1, 2]) (bit := 7) (k := 3) (m := 5#32) (two_sl hd) (by omega) (by omega) (by omega)) ?_
  rintro _ w6 ⟨⟨A6, n6, d6⟩, rfl, ho6, he6⟩
  refine ⟨_, rfl, ?_⟩
  rw [flip1] at ho6
  dsimp only at ho6 ⊢
  refine joinW_s (fun (x : Bool × Unit) w' => x.1 = true ∧ Ext w w') ?_ ?_
  · rintro ⟨b, _⟩ w' ⟨rfl, he⟩
    exact ⟨rfl, he⟩
  intro J hJ
  have he06 := he05.trans he6
  have hb6 := hb5.ext he6
  have hd6 := hd.ext he6
  refine ⟨⟨by omega, by omega⟩, ?_⟩
  have hg : ∀ i, i < 256 → (tabV table)[i]? = some (.int .u32 ((table.getD i 0#32).toNat : Int)) := fun i hi => tabV_get (by omega)
  generalize hTT : tabV table = TT at hb6 hsz hlen hone hg ⊢
  show ldW (.int .u32) ((⟨blk, 0, none⟩ : Addr).add 0) _ w6
  rw [add_mk]
  refine ldW_blk hb6 (hg 0 (by omega)) ?_
  rw [tab0]
  refine splitW_t rfl ?_
  refine ⟨⟨by omega, by omega⟩, ?_⟩
  show ldW (.int .u32) ((⟨blk, 0, none⟩ : Addr).add 128) _ w6
  rw [add_mk]
  refine ldW_blk hb6 (hg 128 (by omega)) ?_
  rw [tab128]
  refine splitW_t rfl ?_
  refine callW_of (crc_calls (bs := []) (Sl.nil w6 none)) ?_
  rintro _ w7 ⟨rfl, he7⟩
  refine ⟨_, rfl, ?_⟩
  rw [crc_nil]
  refine splitW_t rfl ?_
  refine ldR_blk (cs := TT.toArray) (hb6.ext he7) hsz ?_
  subst hTT
  refine callW_of (sum_calls hT (two_sl (hd6.ext he7))) ?_
  rintro _ w8 ⟨rfl, he8⟩
  refine ⟨_, rfl, ?_⟩
  have he68 := he7.trans he8
  refine callW_of (crc_calls (two_sl (hd6.ext he68))) ?_
  rintro _ w9 ⟨rfl, he9⟩
  refine ⟨_, rfl, ?_⟩
  refine splitW_t (by simp [crc]) ?_
  have he69 := he68.trans he9
  refine ldR_blk (cs := (tabV table).toArray) (hb6.ext he69) hsz ?_
  refine callW_of (update_calls (s := 7#32) (bs := []) hT (Sl.nil w9 none)) ?_
  rintro _ w10 ⟨rfl, he10⟩
  refine ⟨_, rfl, ?_⟩
  refine splitW_t rfl ?_
  have he610 := he69.trans he10
  apply newW_i
  have hx : Blk (w10.alloc (.cells #[(.int .u8 (129 : Int)), (.int .u8 (0 : Int))] 5)) w10.heap.size (bV [129, 0]) 5 := Blk.new w10 _ _
  have he611 := he610.alloc (.cells #[(.int .u8 (129 : Int)), (.int .u8 (0 : Int))] 5)
  refine callW_of (same_calls (ho6.sl.ext he611) (two_sl hx)) ?_
  rintro _ w12 ⟨rfl, he12⟩
  refine ⟨_, rfl, ?_⟩
  refine splitW_t rfl ?_
  have he612 := he611.trans he12
  apply newW_i
  have hx2 : Blk (w12.alloc (.cells #[(.int .u8 (1 : Int)), (.int .u8 (2 : Int))] 5)) w12.heap.size (bV [1, 2]) 5 := Blk.new w12 _ _
  have he613 := he612.alloc (.cells #[(.int .u8 (1 : Int)), (.int .u8 (2 : Int))] 5)
  refine callW_of (same_calls (two_sl (hd6.ext he613)) (two_sl hx2)) ?_
  rintro _ w14 ⟨rfl, he14⟩
  refine ⟨_, rfl, ?_⟩
  refine splitW_t rfl ?_
  have he614 := he613.trans he14
  refine callW_of (flip_calls (bs := [1, 2]) (bit := -1) (k := 3) (m := 7#32) (two_sl (hd6.ext he614)) (by omega) (by omega) (by omega)) ?_
  rintro _ w15 ⟨⟨A15, n15, d15⟩, rfl, ho15, he15⟩
  refine ⟨_, rfl, ?_⟩
  rw [flip2] at ho15
  dsimp only at ho15 ⊢
  have he615 := he614.trans he15
  refine callW_of (same_calls ho15.sl (two_sl (hd6.ext he615))) ?_
  rintro _ w16 ⟨rfl, he16⟩
  refine ⟨_, rfl, ?_⟩
  refine splitW_t rfl ?_
  have he616 := he615.trans he16
  refine callW_of (flip_calls (bs := [1, 2]) (bit := 0) (k := 33) (m := 7#32) (two_sl (hd6.ext he616)) (by omega) (by omega) (by omega)) ?_
  rintro _ w17 ⟨⟨A17, n17, d17⟩, rfl, ho17, he17⟩
  refine ⟨_, rfl, ?_⟩
  rw [flip3] at ho17
  dsimp only at ho17 ⊢
  have he617 := he616.trans he17
  refine callW_of (same_calls ho17.sl (two_sl (hd6.ext he617))) ?_
  rintro _ w18 ⟨rfl, he18⟩
  refine ⟨_, rfl, ?_⟩
  refine splitW_t rfl ?_
  have he618 := he617.trans he18
  refine callW_of (flip_calls (bs := [1, 2]) (bit := 14) (k := 5) (m := 31#32) (two_sl (hd6.ext he618)) (by omega) (by omega) (by omega)) ?_
  rintro _ w19 ⟨⟨A19, n19, d19⟩, rfl, ho19, he19⟩
  refine ⟨_, rfl, ?_⟩
  rw [flip4] at ho19
  dsimp only at ho19 ⊢
  have he619 := he618.trans he19
  apply newW_i
  have hx3 : Blk (w19.alloc (.cells #[(.int .u8 (1 : Int)), (.int .u8 (194 : Int))] 5)) w19.heap.size (bV [1, 194]) 5 := Blk.new w19 _ _
  have he20 := (Ext.refl w19).alloc (.cells #[(.int .u8 (1 : Int)), (.int .u8 (194 : Int))] 5)
  refine callW_of (same_calls (ho19.sl.ext he20) (two_sl hx3)) ?_
  rintro _ w21 ⟨rfl, he21⟩
  refine ⟨_, rfl, ?_⟩
  exact hJ _ _ ⟨rfl, (he06.trans he619).trans (he20.trans he21)⟩
end Go.Proofs.Ytoaobmfffcipfaa.V
