/- Texts of mine, merged (wip/tool/mergep.py): M6. -/
import Derived.Test.YtjdmggaeagnolaaGreatDoorM5
import Derived.Test.YtjdmggaeagnolaaGreatDoorM1
import Derived.Test.YtjdmggaeagnolaaGreatDoorM4
import Derived.Lib.TrailingZeros
import Derived.Test.YtjdmggaeagnolaaGreatDoorM2
import Derived.Test.YtjdmggaeagnolaaGreatDoorRows
import Derived.Test.YtjdmggaeagnolaaGreatDoorCards
import Derived.Test.YtjdmggaeagnolaaGreatDoorTie
import Derived.ProofKit
import Derived.LaidMore
import Derived.OpenShut
import Derived.Stop.Joined
import Derived.SevenTiedAt
/- Texts of mine, merged (wip/tool/mergep.py): M6. -/
/- Texts of mine, merged (wip/tool/mergep.py): Good2, Good3, KAtS, Taken, KCommit, KOpen, Great, Great2, BlobP, Great3, KAt2, KMark, KGreat, DecAct, KDev5, KDev6, KDev7, DecPick, Door, Run, Inv, DoC, GoodE, L, TellP, CrashP, Spx. -/
/- Spaces that are well: Share, Drop, Audit. -/
set_option linter.unusedVariables false
set_option linter.unusedSimpArgs false
namespace Go.Proofs.YtjdmggaeagnolaaGreatDoor.V
open Go Go.Proofs Go.RowKit Crc
theorem Good.setNow {S : Spa} {R R' : List Nat} {c : List Nat} (h : Good S R) (hl : c.length = S.now.length) (hw : WellC S.N S.sup.pages S.page c R') : Good { S with now := c } R' :=
  ⟨⟨h.ok.size, h.ok.blocks, h.ok.fits, h.ok.held, hl.trans h.ok.now, h.ok.mark⟩, h.dev, h.fuse, h.gen, hw⟩
theorem share_good {S : Spa} {R : List Nat} {n : Nat} (h : Good S R) (hn : usedC S.sup.pages S.now n = true) (h6 : S.now.getD n 0 < 65535) : (S.share n).2 = 0 ∧ Good (S.share n).1 (n :: R) ∧ (S.share n).1 = { S with now := S.now.set n (S.now.getD n 0 + 1) } := by
  obtain ⟨h1, h2, h3⟩ := used_asked h hn
  have ha := atE_used h.well hn
  have e1 : addE S.now n = 0 := by unfold addE; rw [if_pos ha, if_neg (by omega)]
  have e2 : addL S.now n = S.now.set n (S.now.getD n 0 + 1) := by unfold addL; rw [if_pos e1]
  unfold Spa.share
  rw [if_neg (by rw [h1]; simp), e1, e2]
  exact ⟨rfl, h.setNow (by simp) (h.well.share hn), rfl⟩
theorem drop_good {S : Spa} {R : List Nat} {n : Nat} (h : Good S (n :: R)) : ∃ c', Drp S.asked S.page S.now [n] c' 0 ∧ Good { S with now := c' } R ∧ c'.length = S.now.length ∧ ∀ k, c'.getD k 0 ≤ S.now.getD k 0 := by
  obtain ⟨c', h1, h2, h3, h4⟩ := WellC.drop (N := S.N) (ps := S.sup.pages) (pg := S.page) (ask := S.asked) (fun n a1 a2 a3 => asked_iff.2 ⟨a1, a2, a3⟩) S.now.sum [n] (Nat.le_refl _) (R := R) h.well
  exact ⟨c', h1, h.setNow h3 h2, h3, h4⟩
theorem sum_congr {f g : Nat → Nat} {N : Nat} (h : ∀ m, m < N → f m = g m) : ((List.range N).map f).sum = ((List.range N).map g).sum := by
  congr 1
  exact List.map_congr_left (fun m hm => h m (List.mem_range.1 hm))
theorem sum_zeros : ∀ N : Nat, ((List.range N).map fun _ => 0).sum = 0
  | 0 => rfl
  | N + 1 => by
    rw [List.range_succ, List.map_append, List.sum_append, sum_zeros N]
    rfl
theorem sum_le' {f : Nat → Nat} {B : Nat} : ∀ N, (∀ m, m < N → f m ≤ B) → ((List.range N).map f).sum ≤ N * B
  | 0, _ => by simp
  | N + 1, h => by
    have := sum_le' (f := f) (B := B) N (fun m hm => h m (by omega))
    have := h N (by omega)
    simp only [List.range_succ, List.map_append, List.map_cons, List.map_nil, List.sum_append, List.sum_cons, List.sum_nil]
    rw [Nat.add_mul]
    omega
end Go.Proofs.YtjdmggaeagnolaaGreatDoor.V
/- Spaces that are well: commit, Format. -/
namespace Go.Proofs.YtjdmggaeagnolaaGreatDoor.V
open Go Go.Proofs Go.RowKit Crc
structure DevG (d : Dev) : Prop where
  ok : d.Ok
  fuse : d.fuse = -1
theorem Dev.Ok.facts {d : Dev} (h : d.Ok) : ∃ z N : Nat, d.size = (z : Int) ∧ d.blocks = (N : Int) ∧ roomOf d.size = (z : Int) - 16 ∧ 128 ≤ z ∧ z ≤ 4096 ∧ 8 ≤ N ∧ N ≤ 4096 ∧ roomOf d.size = ((2 * perOf d.size : Nat) : Int) := by
  obtain ⟨g1, g2, g3, g4, g5⟩ := geo_room h.geo
  obtain ⟨h8, _⟩ := geo8 h.geo
  have h4 := room_per h8
  exact ⟨d.size.toNat, d.blocks.toNat, by omega, by omega, by omega, by omega, by omega, by omega, by omega, h4⟩
theorem writeF_good {d : Dev} (h : DevG d) {k : Nat} {f : Fra} (hk : (k : Int) < d.blocks) (hf : ((B f.2.2).length : Int) ≤ roomOf d.size) :
    (writeF d k f).2 = 0 ∧ DevG (writeF d k f).1 ∧ (∀ j : Int, 0 ≤ j ∧ j < d.blocks → ((writeF d k f).1.read j).1 = if j = k then mkB (putB d.size.toNat f) else (d.read j).1) := by
  obtain ⟨z, N, e1, e2, e3, e4, e5, e6, e7, e8⟩ := h.ok.facts
  have hputR : putR d.size f = (putB z f, 0) := by
    unfold putR
    rw [if_neg (by omega), if_neg (by omega), e1]
    rfl
  have hl : (putB z f).length = z := putB_length (by omega)
  have hws : (((mkB (putB z f)).size : Nat) : Int) = d.size := by rw [mkB_size, hl, e1]
  have hwf : writeF d k f = d.write k (mkB (putB z f)) := by
    unfold writeF
    rw [hputR, if_neg (by simp)]
  have hk2 : 0 ≤ (k : Int) ∧ (k : Int) < d.blocks := by omega
  obtain ⟨q1, q2, q3⟩ := write_ok h.ok hk2 hws h.fuse
  rw [hwf]
  have hez : d.size.toNat = z := by omega
  rw [hez]
  exact ⟨(read_write h.ok hk2 hws (by rw [h.fuse]; decide) hk2).1, ⟨q1, q2⟩, fun j hj => (read_write h.ok hk2 hws (by rw [h.fuse]; decide) hj).2⟩
theorem flush_good {d : Dev} (h : DevG d) : d.flush.2 = 0 ∧ DevG d.flush.1 ∧ d.flush.1.pen = [] ∧ ∀ j : Int, (d.flush.1.read j).1 = (d.read j).1 := by
  have hok := h.ok
  have hb := hok.burnt
  have hf : max (-1) (d.fuse - 1) = -1 := by rw [h.fuse]; decide
  unfold Dev.flush
  rw [if_neg (by rw [h.fuse]; decide)]
  refine ⟨rfl, ⟨⟨hok.geo, ?_, puts_each _ _ hok.each (fun p hp => (hok.pend p hp).2.2), (fun p hp => by cases hp), hb.fuse⟩, hf⟩, rfl, fun j => rfl⟩
  show (((d.pen.foldl Go.Proofs.YtjdmggaeagnolaaGreatDoor.V.put d.dur).length : Nat) : Int) = d.blocks
  rw [puts_len]
  exact hok.len
theorem wrL_good : ∀ (l : List (Nat × Fra)) (d : Dev), DevG d → (∀ p ∈ l, (p.1 : Int) < d.blocks ∧ ((B p.2.2.2).length : Int) ≤ roomOf d.size) →
    (wrL d l).2 = 0 ∧ DevG (wrL d l).1 ∧ (∀ j : Int, 0 ≤ j ∧ j < d.blocks → (∀ p ∈ l, (p.1 : Int) ≠ j) → ((wrL d l).1.read j).1 = (d.read j).1)
  | [], d, h, _ => ⟨rfl, h, fun _ _ _ => rfl⟩
  | kf :: r, d, h, hl => by
    obtain ⟨h1, h2⟩ := hl kf List.mem_cons_self
    obtain ⟨g1, g2, g3⟩ := writeF_good h h1 h2
    obtain ⟨d1, d2, d3⟩ := writeF_dim d kf.1 kf.2
    obtain ⟨k1, k2, k3⟩ := wrL_good r (writeF d kf.1 kf.2).1 g2 (fun p hp => by rw [d1, d2]; exact hl p (List.mem_cons_of_mem _ hp))
    unfold wrL
    rw [if_neg (fun hh => hh g1)]
    refine ⟨k1, k2, fun j hj hno => ?_⟩
    rw [k3 j (by rw [d2]; exact hj) (fun p hp => hno p (List.mem_cons_of_mem _ hp)), g3 j hj, if_neg (fun e => hno kf List.mem_cons_self e.symm)]
theorem pageB_len (l : List Nat) (per i : Nat) : (pageB l per i).length ≤ 2 * per := by
  unfold pageB
  have : ∀ l : List Nat, (l.flatMap (le 2)).length = 2 * l.length := by
    intro l
    induction l with
    | nil => rfl
    | cons a t ih => rw [List.flatMap_cons, List.length_append, ih, le_length, List.length_cons]; omega
  rw [this, List.length_take]
  omega
theorem commit_good {d : Dev} (h : DevG d) {c : List Nat} {s : Sup} {slot : Int} (hchk : chk s = 0) (hsz : s.size = d.size) (hps : ∀ p ∈ s.pages, 2 ≤ p ∧ (p : Int) < d.blocks) (hslot : slot = 0 ∨ slot = 1) :
    (commitD d c s slot).2 = 0 ∧ DevG (commitD d c s slot).1 ∧ (commitD d c s slot).1.pen = [] ∧ (∀ j : Int, 2 ≤ j ∧ j < d.blocks → (∀ p ∈ s.pages, (p : Int) ≠ j) → ((commitD d c s slot).1.read j).1 = (d.read j).1) := by
  obtain ⟨z, N, e1, e2, e3, e4, e5, e6, e7, e8⟩ := h.ok.facts
  have hL : ∀ p ∈ pgFs s.gen s.pages (pagesL c (perOf d.size)), p.1 ∈ s.pages ∧ ((B p.2.2.2).length : Int) ≤ roomOf d.size := by
    intro p hp
    unfold pgFs at hp
    obtain ⟨q, hq, rfl⟩ := List.mem_map.1 hp
    have h1 := (List.of_mem_zip hq).1
    have h2 := (List.of_mem_zip hq).2
    refine ⟨h1, ?_⟩
    unfold pagesL at h2
    obtain ⟨i, _, hi⟩ := List.mem_map.1 h2
    show ((B q.2).length : Int) ≤ _
    rw [← hi, B_mk]
    have := pageB_len c (perOf d.size) i
    omega
  obtain ⟨w1, w2, w3⟩ := wrL_good (pgFs s.gen s.pages (pagesL c (perOf d.size))) d h (fun p hp => ⟨(hps _ (hL p hp).1).2, (hL p hp).2⟩)
  obtain ⟨dm1, dm2, dm3⟩ := wrL_dim (pgFs s.gen s.pages (pagesL c (perOf d.size))) d
  obtain ⟨f1, f2, f3, f4⟩ := flush_good w2
  have fd := flush_dim (wrL d (pgFs s.gen s.pages (pagesL c (perOf d.size)))).1
  unfold commitD
  generalize (wrL d (pgFs s.gen s.pages (pagesL c (perOf d.size)))) = r at *
  have hp0 : (putS s).2 = 0 := by rw [putS_good hchk]
  have hpl := (putS_length hchk).1
  have hs2 : ((((mkB (putS s).1).size : Nat)) : Int) = r.1.flush.1.size := by rw [mkB_size, hpl, fd.1, dm1, hsz]
  have hsl : 0 ≤ slot ∧ slot < r.1.flush.1.blocks := by rw [fd.2.1, dm2]; omega
  obtain ⟨q1, q2, q3⟩ := write_ok f2.ok hsl hs2 f2.fuse
  have hrw := fun (j : Int) (hj : 0 ≤ j ∧ j < r.1.flush.1.blocks) => read_write f2.ok hsl hs2 (by rw [f2.fuse]; decide) (j := j) hj
  have hw0 := (hrw slot hsl).1
  have hwd := write_dim r.1.flush.1 slot (mkB (putS s).1)
  obtain ⟨y1, y2, y3, y4⟩ := flush_good (d := (r.1.flush.1.write slot (mkB (putS s).1)).1) ⟨q1, q2⟩
  rw [if_neg (fun hh => hh w1), if_neg (fun hh => hh f1), if_neg (fun hh => hh hp0), if_neg (fun hh => hh hw0)]
  refine ⟨y1, y2, y3, fun j hj hno => ?_⟩
  rw [y4 j, (hrw j (by rw [fd.2.1, dm2]; omega)).2, if_neg (by omega), f4 j, w3 j (by omega) (fun p hp => hno p.1 (hL p hp).1)]
theorem pagesOf_cuts {size : Int} {N : Nat} (h : geoOK size N = true) : pagesOf size N = ((fmtN size N : Nat) : Int) := by
  obtain ⟨h8, n, hn, h1, h2⟩ := geo8 h
  obtain ⟨hp1, hp2, _⟩ := perOf_spec h8
  unfold pagesOf fmtN cutsN
  rw [if_pos h, room_per h8]
  rw [show (2 : Int) * (N : Int) + ((2 * perOf size : Nat) : Int) - 1 = ((2 * N + 2 * perOf size - 1 : Nat) : Int) by omega, ← Int.natCast_ediv]
  congr 1
  rw [← Nat.div_div_eq_div_mul]
  congr 1
  omega
theorem chk_fmt {size : Int} {N : Nat} (h : geoOK size N = true) : chk (fmtS size N) = if 14 + 4 * ((fmtN size N : Nat) : Int) > roomOf size then 3 else 0 := by
  have hn := fmtN_le h
  have hl : (fmtS size N).pages.length = fmtN size N := fmtP_length _
  have hget : ∀ j, j < fmtN size N → (fmtS size N).pages.getD j 0 = j + 2 := fun j hj => by
    show (fmtP (fmtN size N)).getD j 0 = _
    unfold fmtP
    simp [List.getD_eq_getElem?_getD, hj]
  rw [chk_long]
  · rw [hl]; rfl
  · exact ⟨h, (show (1 : Nat) ≠ 0 by decide), .inl rfl, by rw [hl]; exact (pagesOf_cuts h).symm⟩
  · intro j hj
    rw [hl] at hj
    refine ⟨?_, ?_, ?_⟩
    · rw [hget j hj]
      unfold pageOK
      rw [decide_eq_true]
      exact ⟨by omega, by show ((j + 2 : Nat) : Int) < (N : Int); omega⟩
    · rw [hget j hj]; show j + 2 ≠ 0; omega
    · rw [hget j hj]
      intro hm
      have hm : j + 2 ∈ (fmtP (fmtN size N)).take j := hm
      unfold fmtP at hm
      rw [← List.map_take, List.take_range] at hm
      obtain ⟨i, hi, e⟩ := List.mem_map.1 hm
      have := List.mem_range.1 hi
      omega
theorem format_good {d : Dev} (h : DevG d) (hchk : chk (fmtS d.size d.blocks.toNat) = 0) : (formatD d).2 = 0 ∧ Good (formatS d) [] ∧ (formatS d).dev.pen = [] := by
  obtain ⟨z, N, e1, e2, e3, e4, e5, e6, e7, e8⟩ := h.ok.facts
  have hN : d.blocks.toNat = N := by omega
  have hg : geoOK d.size (N : Int) = true := by rw [← e2]; exact h.ok.geo
  obtain ⟨n1, n2, n3⟩ := fmtN_le hg
  rw [hN] at hchk
  have hz : (((zeroB d.size.toNat).size : Nat) : Int) = d.size := by rw [zeroB_size]; omega
  have h1 : 0 ≤ (1 : Int) ∧ (1 : Int) < d.blocks := by omega
  obtain ⟨q1, q2, q3⟩ := write_ok h.ok h1 hz h.fuse
  have hw0 := (read_write h.ok h1 hz (by rw [h.fuse]; decide) h1).1
  have hwd := write_dim d 1 (zeroB d.size.toNat)
  have hpages : ∀ p ∈ fmtP (fmtN d.size N), 2 ≤ p ∧ p < N := fun p hp => by
    unfold fmtP at hp
    obtain ⟨i, hi, rfl⟩ := List.mem_map.1 hp
    have := List.mem_range.1 hi
    omega
  obtain ⟨c1, c2, c3, c4⟩ := commit_good (d := (d.write 1 (zeroB d.size.toNat)).1) ⟨q1, q2⟩ (c := fmtC N (fmtN d.size N)) (s := fmtS d.size N) (slot := 0) hchk hwd.1.symm (fun p hp => by have := hpages p hp; rw [hwd.2.1]; omega) (.inl rfl)
  have eD : formatD d = commitD (d.write 1 (zeroB d.size.toNat)).1 (fmtC N (fmtN d.size N)) (fmtS d.size N) 0 := by
    unfold formatD
    rw [hN, if_neg (fun hh => hh hchk), if_neg (fun hh => hh hw0)]
  have dm := commitD_dim (d.write 1 (zeroB d.size.toNat)).1 (fmtC N (fmtN d.size N)) (fmtS d.size N) 0
  have eS : formatS d = ⟨(formatD d).1, fmtS d.size N, 0, fmtC N (fmtN d.size N), fmtC N (fmtN d.size N), none⟩ := by unfold formatS; rw [hN]
  rw [eS, eD]
  refine ⟨c1, ⟨⟨(dm.1.trans hwd.1).symm, ?_, fmtS_fits hg, ?_, ?_, fun l hl => by cases hl⟩, c2.ok, c2.fuse, by show 1 < _; decide, ?_⟩, c3⟩
  · show (N : Int) = _
    rw [dm.2, hwd.2.1, e2]
  · show (fmtC N (fmtN d.size N)).length = ((N : Int)).toNat
    rw [fmtC_length n1]; omega
  · show (fmtC N (fmtN d.size N)).length = ((N : Int)).toNat
    rw [fmtC_length n1]; omega
  · show WellC ((N : Int)).toNat (fmtP (fmtN d.size N)) _ (fmtC N (fmtN d.size N)) []
    have hget := fun k => fmtC_get (N := N) (np := fmtN d.size N) (k := k) n1
    have hnone : ∀ k, usedC (fmtP (fmtN d.size N)) (fmtC N (fmtN d.size N)) k = false := fun k => by
      cases hq : usedC (fmtP (fmtN d.size N)) (fmtC N (fmtN d.size N)) k with
      | false => rfl
      | true =>
        obtain ⟨a1, a2, a3⟩ := usedC_iff.1 hq
        rw [hget k] at a3
        split at a3
        · exfalso
          apply a2
          unfold fmtP
          exact List.mem_map.2 ⟨k - 2, List.mem_range.2 (by omega), by omega⟩
        · omega
    refine ⟨by rw [fmtC_length n1]; omega, by omega, ⟨by rw [hget, if_pos (by omega)], by rw [hget, if_pos (by omega)]⟩, fun p hp => ?_, by simp, (fun n hn => by rw [hnone] at hn; cases hn), ⟨fun _ => 0, (fun n hn => by rw [hnone] at hn; cases hn)⟩, fun n h2 hp => ?_⟩
    · have := hpages p hp
      refine ⟨this.1, by omega, ?_⟩
      unfold fmtP at hp
      obtain ⟨i, hi, rfl⟩ := List.mem_map.1 hp
      have := List.mem_range.1 hi
      rw [hget, if_pos (by omega)]
    · have hz0 : sumC ((N : Int)).toNat (fmtP (fmtN d.size N)) (Spa.page ⟨(commitD (d.write 1 (zeroB d.size.toNat)).1 (fmtC N (fmtN d.size N)) (fmtS d.size N) 0).1, fmtS d.size N, 0, fmtC N (fmtN d.size N), fmtC N (fmtN d.size N), none⟩) (fmtC N (fmtN d.size N)) n = 0 := by
        unfold sumC
        rw [sum_congr (g := fun _ => 0) (fun m _ => by unfold refC; rw [hnone]; rfl)]
        exact sum_zeros _
      have e0 : (fmtC N (fmtN d.size N)).getD n 0 = 0 := by
        rw [hget, if_neg]
        intro hlt
        apply hp
        show n ∈ fmtP (fmtN d.size N)
        unfold fmtP
        exact List.mem_map.2 ⟨n - 2, List.mem_range.2 (by omega), by omega⟩
      rw [e0, List.count_nil, Nat.zero_add]
      exact hz0.symm
end Go.Proofs.YtjdmggaeagnolaaGreatDoor.V
/- Spaces of one's own: contracts, short. -/
namespace Go.Proofs.YtjdmggaeagnolaaGreatDoor.V
open Go Go.Proofs Go.RowKit Crc
def At (w0 w : World) (b db : Nat) (S : Spa) : Prop := ∃ F, SpAt w b db S F ∧ (∀ k, F k → w0.heap.size ≤ k) ∧ Ext w0 w
variable {w0 w w' : World} {b db : Nat} {S : Spa} {R : List Nat}
theorem devG0 {size blocks : Int} (h : geoOK size blocks = true) : DevG (dev0 size blocks) := ⟨dev0_ok h, rfl⟩
theorem at_format {w1 : World} {d : Dev} {db : Nat} (h : DevNew w0 d db w1) (hd : DevG d) (hpen : d.pen.length ≤ 800000) :
    Calls Tryz.prog 52 #[.pointer (some ⟨db, 0, none⟩)] w1 (Ret fun v w' => ((formatD d).2 ≠ 0 ∧ v = .tuple #[.pointer none, .int .i64 (formatD d).2] ∧ Ext w0 w') ∨ ((formatD d).2 = 0 ∧ ∃ b, v = .tuple #[.pointer (some ⟨b, 0, none⟩), .int .i64 0] ∧ At w0 w' b db (formatS d))) := by
  obtain ⟨F, h1, h2, hx⟩ := h
  refine (format_calls h1 hpen).mono (Ret.mono ?_)
  rintro v w' (⟨q1, rfl, F', q2, q3, q4⟩ | ⟨q1, b, F', rfl, q2, q3, q4, q5⟩)
  · exact .inl ⟨q1, rfl, Only.ext hx q4 h2⟩
  · refine .inr ⟨q1, b, rfl, F', q2, fun k hk => ?_, Only.ext hx q5 h2⟩
    rcases q4 k hk with e | e
    · exact h2 k e
    · exact Nat.le_trans hx.size e
end Go.Proofs.YtjdmggaeagnolaaGreatDoor.V
/- Spaces: several blocks taken, and what Commit comes to: plain. -/
namespace Go.Proofs.YtjdmggaeagnolaaGreatDoor.V
open Go Go.Proofs Go.RowKit Crc
theorem freeL_nd (S : Spa) : S.freeL.Nodup := List.Nodup.sublist List.filter_sublist List.nodup_range
theorem take1 {S : Spa} (hl : S.now.length = S.N) (h01 : S.now.getD 0 0 ≠ 0 ∧ S.now.getD 1 0 ≠ 0) (hf : 0 < S.freeN) :
    S.takeI < S.N ∧ 2 ≤ S.takeI ∧ S.isFree S.takeI = true ∧ S.takeN = S.takeI ∧ S.takeE = 0 ∧ S.takeL = S.now.set S.takeI 1 ∧ S.freeL = S.takeI :: ({ S with now := S.now.set S.takeI 1 } : Spa).freeL := by
  obtain ⟨n, hn⟩ : ∃ n, n ∈ S.freeL := by
    unfold Spa.freeN at hf
    cases hq : S.freeL with
    | nil => rw [hq] at hf; simp at hf
    | cons a r => exact ⟨a, List.mem_cons_self⟩
  obtain ⟨h1, h2, h3⟩ := freeL_mem.1 hn
  have hlt : S.takeI < (List.range S.now.length).length := List.findIdx_lt_length_of_exists ⟨n, List.mem_range.2 (by omega), h3⟩
  rw [List.length_range] at hlt
  have hfr : S.isFree S.takeI = true := by
    have := List.findIdx_getElem (p := S.isFree) (xs := List.range S.now.length) (w := by rw [List.length_range]; exact hlt)
    rw [List.getElem_range] at this
    exact this
  obtain ⟨f1, f2, f3⟩ := isFree_iff.1 hfr
  have hno : ∀ j, j < S.takeI → S.isFree j = false := fun j hj => by
    have := List.not_of_lt_findIdx (p := S.isFree) (xs := List.range S.now.length) (i := j) hj
    rw [List.getElem_range] at this
    simpa using this
  have ht2 : 2 ≤ S.takeI := by
    rcases Nat.lt_or_ge S.takeI 2 with hh | hh
    · have : S.takeI = 0 ∨ S.takeI = 1 := by omega
      rcases this with e | e <;> rw [e] at f1 <;> omega
    · exact hh
  refine ⟨by omega, ht2, hfr, ?_, ?_, ?_, ?_⟩
  · unfold Spa.takeN; rw [if_pos hlt]
  · unfold Spa.takeE; rw [if_pos hlt]
  · unfold Spa.takeL; rw [if_pos hlt]
  · refine freeL_take (by omega) ht2 hfr hno rfl (fun j hj => ?_)
    show ((S.now.set S.takeI 1).getD j 0 == 0 && S.held.getD j 0 == 0 && cnt S.mark j == 0) = _
    rw [getD_setN]
    by_cases e : j = S.takeI
    · rw [if_pos ⟨e.symm, by omega⟩, if_pos e]; rfl
    · rw [if_neg (fun h => e h.1.symm), if_neg e]; rfl
namespace Spa
def tk (S : Spa) (k : Nat) : Spa := { S with now := onL S.now (S.freeL.take k) }
end Spa
theorem tk_ok {S : Spa} (hl : S.now.length = S.N) (h01 : S.now.getD 0 0 ≠ 0 ∧ S.now.getD 1 0 ≠ 0) : ∀ k, k ≤ S.freeN → (S.tk k).freeL = S.freeL.drop k ∧ (S.tk k).now.length = S.N ∧ ((S.tk k).now.getD 0 0 ≠ 0 ∧ (S.tk k).now.getD 1 0 ≠ 0)
  | 0, _ => ⟨rfl, hl, h01⟩
  | k + 1, hk => by
    obtain ⟨g1, g2, g3⟩ := tk_ok hl h01 k (by omega)
    have hf : 0 < (S.tk k).freeN := by unfold Spa.freeN at hk ⊢; rw [g1, List.length_drop]; omega
    obtain ⟨t1, t2, t3, t4, t5, t6, t7⟩ := take1 (S := S.tk k) g2 g3 hf
    rw [g1] at t7
    have hkl : k < S.freeL.length := hk
    rw [List.drop_eq_getElem_cons hkl] at t7
    injection t7 with e1 e2
    have et : S.freeL.take (k + 1) = S.freeL.take k ++ [(S.tk k).takeI] := by rw [List.take_add_one, List.getElem?_eq_getElem hkl, e1]; rfl
    have eS : S.tk (k + 1) = { S.tk k with now := (S.tk k).now.set (S.tk k).takeI 1 } := by
      unfold Spa.tk at et ⊢
      rw [et, onL_append]
    refine ⟨by rw [eS, e2], ?_, ?_⟩
    · rw [eS]; show (List.set _ _ _).length = _; rw [List.length_set]; exact g2
    · rw [eS]
      show (List.getD (List.set _ _ _) _ _ ≠ 0 ∧ List.getD (List.set _ _ _) _ _ ≠ 0)
      rw [getD_setN, getD_setN, if_neg (by omega), if_neg (by omega)]
      exact g3
theorem tk_step {S : Spa} (hl : S.now.length = S.N) (h01 : S.now.getD 0 0 ≠ 0 ∧ S.now.getD 1 0 ≠ 0) {k : Nat} (hk : k < S.freeN) :
    (S.tk k).takeN = S.freeL.getD k 0 ∧ (S.tk k).takeE = 0 ∧ ({ S.tk k with now := (S.tk k).takeL } : Spa) = S.tk (k + 1) ∧ S.freeL.take (k + 1) = S.freeL.take k ++ [S.freeL.getD k 0] := by
  obtain ⟨g1, g2, g3⟩ := tk_ok hl h01 k (by omega)
  have hf : 0 < (S.tk k).freeN := by unfold Spa.freeN at hk ⊢; rw [g1, List.length_drop]; omega
  obtain ⟨t1, t2, t3, t4, t5, t6, t7⟩ := take1 (S := S.tk k) g2 g3 hf
  rw [g1] at t7
  have hkl : k < S.freeL.length := hk
  rw [List.drop_eq_getElem_cons hkl] at t7
  injection t7 with e1 e2
  have eg : S.freeL.getD k 0 = (S.tk k).takeI := by rw [List.getD_eq_getElem?_getD, List.getElem?_eq_getElem hkl, ← e1]; rfl
  have et : S.freeL.take (k + 1) = S.freeL.take k ++ [S.freeL.getD k 0] := by rw [List.take_add_one, List.getElem?_eq_getElem hkl, eg, ← e1]; rfl
  refine ⟨by rw [t4, eg], t5, ?_, et⟩
  unfold Spa.tk at *
  rw [et, onL_append, eg, ← t6]
namespace Spa
def ns (S : Spa) : List Nat := S.freeL.take S.sup.pages.length
def comC (S : Spa) : List Nat := subs (onL S.now S.ns) S.sup.pages
def next (S : Spa) (root : Nat) : Sup := ⟨S.sup.gen + 1, S.sup.size, S.sup.blocks, root, S.ns⟩
def comE (S : Spa) (root : Nat) : Int := if root ≠ 0 ∧ S.asked root = false then 2 else if root ≠ 0 ∧ S.now.getD root 0 = 0 then 8 else if S.freeN < S.sup.pages.length then 9 else 0
def comD (S : Spa) (root : Nat) : Dev × Int := commitD S.dev S.comC (S.next root) (other S.slot)
def commit (S : Spa) (root : Nat) : Spa × Int :=
  if S.comE root ≠ 0 then (S, S.comE root)
  else if (S.comD root).2 ≠ 0 then ({ S with now := S.comC, dev := (S.comD root).1 }, (S.comD root).2)
  else (⟨(S.comD root).1, S.next root, other S.slot, S.comC, S.comC, none⟩, 0)
end Spa
structure PgsOk (S : Spa) : Prop where
  at_ : ∀ p ∈ S.sup.pages, 2 ≤ p ∧ p < S.N ∧ S.now.getD p 0 = 1
  nodup : S.sup.pages.Nodup
  len : S.sup.pages.length = cutsN S.N (perOf S.sup.size)
theorem ns_free {S : Spa} {k : Nat} (hk : k ∈ S.ns) : k < S.N ∧ 2 ≤ k ∧ S.isFree k = true := freeL_mem.1 (List.mem_of_mem_take hk)
theorem ns_nodup (S : Spa) : S.ns.Nodup := List.Nodup.sublist (List.take_sublist _ _) (freeL_nd S)
theorem on_get {S : Spa} (hl : S.now.length = S.N) (k : Nat) : (onL S.now S.ns).getD k 0 = if k ∈ S.ns then 1 else S.now.getD k 0 := onL_get _ _ _ (fun n hn => by rw [hl]; exact (ns_free hn).1)
theorem on_page {S : Spa} (hl : S.now.length = S.N) (hp : PgsOk S) {p : Nat} (hm : p ∈ S.sup.pages) : p ∉ S.ns ∧ (onL S.now S.ns).getD p 0 = 1 := by
  have h1 := (hp.at_ p hm).2.2
  have hn : p ∉ S.ns := fun e => by have := (isFree_iff.1 (ns_free e).2.2).1; omega
  exact ⟨hn, by rw [on_get hl, if_neg hn, h1]⟩
theorem sub_page {S : Spa} (hl : S.now.length = S.N) (hp : PgsOk S) {i : Nat} (hi : i < S.sup.pages.length) : atE (subs (onL S.now S.ns) (S.sup.pages.take i)) (S.sup.pages.getD i 0) = 0 := by
  have hg : S.sup.pages.getD i 0 = S.sup.pages[i] := by rw [List.getD_eq_getElem?_getD, List.getElem?_eq_getElem hi]; rfl
  have hm : S.sup.pages.getD i 0 ∈ S.sup.pages := by rw [hg]; exact List.getElem_mem _
  have hol : (onL S.now S.ns).length = S.N := by rw [onL_length, hl]
  have h1 := hp.at_ _ hm
  have hnt : S.sup.pages.getD i 0 ∉ S.sup.pages.take i := by
    intro e
    have hnd := hp.nodup
    rw [← List.take_append_drop i S.sup.pages, List.drop_eq_getElem_cons hi, List.nodup_append] at hnd
    exact hnd.2.2 _ e _ List.mem_cons_self hg
  have hgt := subs_get (S.sup.pages.take i) (onL S.now S.ns) (S.sup.pages.getD i 0) (List.Nodup.sublist (List.take_sublist _ _) hp.nodup) (fun n hn => by
    have hn' := List.mem_of_mem_take hn
    have := hp.at_ n hn'
    have := (on_page hl hp hn').2
    exact ⟨by omega, by omega, by omega⟩)
  rw [if_neg hnt, (on_page hl hp hm).2] at hgt
  unfold atE
  rw [subs_length, hol, if_neg (by omega), if_neg (by omega)]
theorem comC_get {S : Spa} (hl : S.now.length = S.N) (hp : PgsOk S) (k : Nat) : S.comC.getD k 0 = if k ∈ S.sup.pages then 0 else if k ∈ S.ns then 1 else S.now.getD k 0 := by
  have hol : (onL S.now S.ns).length = S.N := by rw [onL_length, hl]
  unfold Spa.comC
  rw [subs_get _ _ _ hp.nodup (fun n hn => by
    have := hp.at_ n hn
    have := (on_page hl hp hn).2
    exact ⟨by omega, by omega, by omega⟩)]
  split
  · rename_i hm
    rw [(on_page hl hp hm).2]
  · exact on_get hl k
theorem comC_length (S : Spa) : S.comC.length = S.now.length := by unfold Spa.comC; rw [subs_length, onL_length]
end Go.Proofs.YtjdmggaeagnolaaGreatDoor.V
/- Contracts of the package space: Commit. -/
namespace Go.Proofs.YtjdmggaeagnolaaGreatDoor.V
open Go Go.Proofs Go.RowKit Crc
theorem boxAE {ls : List Lf} {w : World} {b : Nat} {a : Addr} {cs rest : List Value} {t : TypeId} {K : LT ls → WP} (o : Nat) (x : LT ls) (h : Blk w b cs t) (ha : a = ⟨b, o, none⟩) (hx : cs.drop o = LT.vals ls x ++ rest) (hK : K x w) : ldAW ls a K w := by
  subst ha
  have := boxAt (o := o) x h hx hK
  rw [add_mk, Nat.zero_add] at this
  exact this
theorem boxC {w : World} {b o : Nat} {a : Addr} {cs : List Value} {t : TypeId} {v : Value} (h : Blk w b cs t) (ha : a = ⟨b, o, none⟩) (hv : cs[o]? = some v) : w.cell? a = some v := by
  subst ha
  rw [h.cell, hv]
def setsL : List Value → Nat → List Value → List Value
  | cs, _, [] => cs
  | cs, k, v :: r => setsL (cs.set k v) (k + 1) r
theorem storable_at {w : World} {b : Nat} {cs : List Value} {t : TypeId} (h : Blk w b cs t) {o : Nat} : ∀ (vs : List Value) (i : Nat), o + i + vs.length ≤ cs.length → (∀ v ∈ vs, v.oneCell' = true) → Storable w ⟨b, o, none⟩ i vs
  | [], _, _, _ => trivial
  | v :: r, i, hl, ho => by
    simp only [List.length_cons] at hl
    refine ⟨ho v List.mem_cons_self, ?_, ?_, storable_at h r (i + 1) (by omega) (fun u hu => ho u (List.mem_cons_of_mem _ hu))⟩
    · rw [add_mk, h.cell]
      exact ⟨_, List.getElem?_eq_getElem (by omega)⟩
    · rw [add_mk]
      exact h.frozen _
theorem setCells_at {b o : Nat} {t : TypeId} : ∀ (vs : List Value) (i : Nat) (w : World) (cs : List Value), Blk w b cs t → Blk (setCells w ⟨b, o, none⟩ i vs) b (setsL cs (o + i) vs) t ∧ Only (fun k => k = b) w (setCells w ⟨b, o, none⟩ i vs)
  | [], i, w, cs, h => ⟨h, Only.refl _ _⟩
  | v :: r, i, w, cs, h => by
    simp only [setCells, add_mk]
    have h2 := h.set (o + i) v
    have o2 : Only (fun k => k = b) w (w.setCell ⟨b, o + i, none⟩ v) := Only.of_grown (set_grown w b (o + i) v) (fun j hj => .inl (by injection hj with hj; exact hj.symm))
    obtain ⟨g1, g2⟩ := setCells_at (o := o) r (i + 1) _ _ h2
    exact ⟨g1, Only.trans o2 g2 (fun j hj => .inl hj)⟩
theorem refillE {w : World} {b n : Nat} (o : Nat) {a : Addr} {cs vs : List Value} {t : TypeId} {us : Array Value} {K : WP} (h : Blk w b cs t) (ha : a = ⟨b, o, none⟩) (hl : o + vs.length ≤ cs.length) (hv : ∀ v ∈ vs, v.oneCell' = true) (hu : us.size = n)
    (hK : ∀ w', Blk w' b (setsL cs o vs) t → Only (fun k => k = b) w w' → K w') : (guardW (us.size = n) <| stAW a vs K) w := by
  subst ha
  obtain ⟨g1, g2⟩ := setCells_at (o := o) vs 0 w cs h
  exact ⟨hu, storable_at h vs 0 (by omega) hv, hK _ g1 g2⟩
theorem stE {w : World} {b o : Nat} {a : Addr} {cs : List Value} {t : TypeId} {v : Value} {K : WP} (h : Blk w b cs t) (ha : a = ⟨b, o, none⟩) (ho : o < cs.length) (hK : ∀ w', Blk w' b (cs.set o v) t → Only (fun k => k = b) w w' → K w') : stW a v K w := by
  subst ha
  exact stW_blk h ho (hK _ (h.set o v) (Only.of_grown (set_grown w b o v) (fun j hj => .inl (by injection hj with hj; exact hj.symm))))
variable {w w' : World} {b db : Nat} {S : Spa} {F Fd : Nat → Prop} {x : SLC} {hb hr nb nr : Nat} {m : MkL}
theorem commitS_calls (h : SpM w b db S F Fd x hb hr nb nr m) (h01 : S.now.getD 0 0 ≠ 0 ∧ S.now.getD 1 0 ≠ 0) (hp : PgsOk S) (hgen : S.sup.gen + 1 < 18446744073709551616) (hpen : S.dev.pen.length ≤ 900000) {root : Nat} (hroot : root < 4294967296) :
    Calls Tryz.prog 15 #[.pointer (some ⟨b, 0, none⟩), .int .u32 (root : Int)] w (Ret fun v w' => v = .int .i64 (S.commit root).2 ∧ StepS w b db F (S.commit root).1 w') := by
  have hdim := h.dims
  have hN := hdim.n
  have hFlt := h.lt
  have hfn := freeN_le S
  have hlen := h.ok.now
  have hpgl := h.pgs.len
  have hbF : F b := (h.own b).2 (.inr (by simp [spOwn]))
  have hblt := hFlt b hbF
  have stay : ∀ {w' : World}, Ext w w' → StepS w b db F S w' := fun e => ⟨F, ⟨Fd, x, hb, hr, nb, nr, m, h.ext e⟩, fun k hk => .inl hk, Only.of_ext e⟩
  have fin : ∀ e : Int, S.comE root = e → e ≠ 0 → S.commit root = (S, e) := fun e he0 hne => by unfold Spa.commit; rw [if_pos (by rw [he0]; exact hne), he0]
  have hrn : (root : Int) = 0 ↔ root = 0 := by omega
  have hFw : ∀ j, w.heap.size ≤ j → ¬ F j := fun j hj hf => by have := hFlt j hf; omega
  apply calls15
  unfold S15
  refine joinW_s (fun _ w' => S.comE root = 0 ∧ Ext w w') ?_ (fun J hJ => ?_)
  rotate_left
  · refine splitW_f (by rfl) ?_
    refine joinW_s (fun y w' => y = (decide (root ≠ 0 ∧ S.asked root = false), ()) ∧ w' = w) ?_ (fun J2 hJ2 => ?_)
    rotate_left
    · refine splitW_i (fun hq => ?_) (fun hq => ?_)
      · have hq := bne_iff_ne.1 hq
        refine callW_of (asked_calls h hroot) ?_
        rintro _ w1 ⟨rfl, hw1⟩
        refine ⟨_, rfl, hJ2 _ _ ⟨?_, hw1⟩⟩
        congr 1
        have : root ≠ 0 := fun e => hq (by omega)
        cases hh : S.asked root <;> simp [this, hh]
      · have hq := bne_eq_false_iff_eq.1 hq
        refine hJ2 _ _ ⟨?_, rfl⟩
        congr 1
        have : root = 0 := by omega
        simp [this]
    rintro y w1 ⟨rfl, hw1⟩
    rw [hw1]
    refine splitW_i (fun hq => ?_) (fun hq => ?_)
    · have hq := of_decide_eq_true hq
      rw [fin 2 (by unfold Spa.comE; rw [if_pos hq]) (by decide)]
      exact ⟨rfl, stay (Ext.refl w)⟩
    have hq1 := of_decide_eq_false hq
    have full : ∀ {w2 : World}, Ext w w2 → S.comE root = (if S.freeN < S.sup.pages.length then 9 else 0) →
        (drewW <| ptrW (some (⟨b, 0, none⟩ : Addr)) fun p9 => ldW .slc ((p9.add 1).add 4) fun (u10 : Option Addr × Nat × Nat) =>
          callW Tryz.prog 23 [.pointer (some ⟨b, 0, none⟩)] (.one (.one (.int .i64))) fun (u11 : Int) =>
          heldW [[(((p9.add 1).add 4), (.slice u10.1 u10.2.1 u10.2.2))]] <|
          splitW (decide (u11 < ((u10.2.1 : Nat) : Int))) (fun w' => (Value.int .i64 (9 : Int)) = .int .i64 (S.commit root).2 ∧ StepS w b db F (S.commit root).1 w') (J ())) w2 := by
      intro w2 he2 hE
      refine draw_i fun w3 he3 _ _ => ?_
      have h3 := h.ext (he2.trans he3)
      obtain ⟨t, hbx⟩ := h3.box
      refine ptr_i (boxE (l := .slc) 5 x hbx (by rfl) (by rfl) ?_)
      refine callW_of (freeN_calls h3) ?_
      rintro _ w4 ⟨rfl, he4⟩
      refine ⟨_, rfl, ?_⟩
      have he34 := (he2.trans he3).trans he4
      refine ⟨fun l hl q hq => ?_, ?_⟩
      · simp only [List.mem_singleton] at hl
        subst hl
        simp only [List.mem_singleton] at hq
        subst hq
        exact boxC (hbx.ext he4) (o := 5) (by rfl) (by rfl)
      refine splitW_i (fun hq => ?_) (fun hq => ?_)
      · have hq := of_decide_eq_true hq
        rw [fin 9 (by rw [hE, if_pos (by omega)]) (by decide)]
        exact ⟨rfl, stay he34⟩
      · have hq := of_decide_eq_false hq
        exact hJ _ _ ⟨by rw [hE, if_neg (by omega)], he34⟩
    refine splitW_i (fun hq => ?_) (fun hq => ?_)
    · have hq := bne_iff_ne.1 hq
      have hr0 : root ≠ 0 := fun e => hq (by omega)
      obtain ⟨t, hbx⟩ := h.box
      refine ptr_i (boxE (l := .ptr) 8 (some ⟨nb, 0, none⟩) hbx (by rfl) (by rfl) ?_)
      refine callW_of (nowget_calls h root hroot) ?_
      rintro _ w2 ⟨rfl, hw2⟩
      refine ⟨_, rfl, ?_⟩
      rw [hw2]
      refine splitW_i (fun hz => ?_) (fun hz => ?_)
      · have hz := beq_iff_eq.1 hz
        rw [fin 8 (by unfold Spa.comE; rw [if_neg hq1, if_pos ⟨hr0, by omega⟩]) (by decide)]
        exact ⟨rfl, stay (Ext.refl w)⟩
      · have hz := beq_eq_false_iff_ne.1 hz
        exact full (Ext.refl w) (by unfold Spa.comE; rw [if_neg hq1, if_neg (fun hh => hz (by omega))])
    · have hq := bne_eq_false_iff_eq.1 hq
      exact full (Ext.refl w) (by unfold Spa.comE; rw [if_neg hq1, if_neg (fun hh => hh.1 (by omega))])
  rintro ⟨⟩ w1 ⟨hcE, he1⟩
  have hfree : S.sup.pages.length ≤ S.freeN := by
    unfold Spa.comE at hcE
    split at hcE
    · cases hcE
    split at hcE
    · cases hcE
    split at hcE
    · cases hcE
    · omega
  refine draw_i fun w2 he2 _ _ => ?_
  have h2 := h.ext (he1.trans he2)
  obtain ⟨t, hbx2⟩ := h2.box
  refine ptr_i (boxE (l := .int .u64) 1 (S.sup.gen : Int) hbx2 (by rfl) (by rfl) ?_)
  refine ptr_i (boxAE (ls := [.int .i64, .int .i64]) 2 (S.sup.size, S.sup.blocks, ()) hbx2 (by rfl) (by rfl) ?_)
  dsimp only
  refine new_i fun r19 w3 hb3 he3 hr3 hz3 => ?_
  refine ⟨fun l hl q hq => ?_, ?_⟩
  · simp only [List.mem_cons, List.not_mem_nil, or_false] at hl
    rcases hl with rfl | rfl
    · simp only [List.mem_cons, List.not_mem_nil, or_false] at hq
      rcases hq with rfl | rfl
      · exact boxC (hbx2.ext he3) (o := 2) (by rfl) (by rfl)
      · exact boxC (hbx2.ext he3) (o := 3) (by rfl) (by rfl)
    · simp only [List.mem_cons, List.not_mem_nil, or_false] at hq
      subst hq
      exact boxC (hbx2.ext he3) (o := 1) (by rfl) (by rfl)
  have hwr : IntKind.wrap .u64 ((S.sup.gen : Int) + 1) = ((S.sup.gen + 1 : Nat) : Int) := by rw [show ((S.sup.gen : Int) + 1) = ((S.sup.gen + 1 : Nat) : Int) from rfl, wrap_u64_nat hgen]
  rw [hwr]
  refine refill (vs := sV ⟨S.sup.gen + 1, S.sup.size, S.sup.blocks, root, []⟩ (none, 0, 0)) hb3 rfl (sV_one _ _) rfl ?_
  intro w4 hb4 hx4 hk4 hz4
  have he02 := he1.trans he2
  have hs02 := he02.size
  have hs3 := he3.size
  have he4 : Ext w w4 := hx4 w (he02.trans he3) (by omega)
  have h4 := h.ext he4
  obtain ⟨t, hbx4⟩ := h4.box
  refine ptr_i (boxE (l := .slc) 5 x hbx4 (by rfl) (by rfl) ?_)
  show loopW _ _ _ w4
  refine loopW_i (fun y' w' => ∃ (i : Nat) (A : Option Addr) (c : Nat), i ≤ x.2.1 ∧ y' = ((i : Int), ()) ∧ SpM w' b db (S.tk i) F Fd x hb hr nb nr m ∧ Blk w' r19 (sV ⟨S.sup.gen + 1, S.sup.size, S.sup.blocks, root, []⟩ (A, i, c)) 79 ∧ Owni (numE .u32) 31 w' w4.heap.size A i c (S.freeL.take i) ∧ Only F w w' ∧ w4.heap.size ≤ w'.heap.size) (fun y' => (x.2.1 - y'.1).toNat)
    ⟨0, none, 0, by omega, rfl, h4, hb4, Owni.nil _ _ _, Only.of_ext he4, Nat.le_refl _⟩ ?_
  rintro _ w5 ⟨i, A, c, hi, rfl, hS5, hb5, ho5, o5, hz5⟩
  dsimp only
  by_cases hlt : i < x.2.1
  · refine splitW_t (decide_eq_true (by omega)) ?_
    obtain ⟨q1, q2, q3⟩ := tk_ok hlen h01 i (by omega)
    obtain ⟨t1, t2, t3, t4⟩ := tk_step hlen h01 (k := i) (by omega)
    refine callW_of (takeS_calls hS5 q3) ?_
    rintro _ w6 ⟨rfl, hS6, o6⟩
    rw [t3] at hS6
    refine ⟨(((S.tk i).takeN : Int), (S.tk i).takeE, ()), rfl, ?_⟩
    dsimp only
    rw [t2, t1]
    refine splitW_f (by rfl) ?_
    have hb6 := hb5.only o6 (hFw r19 (by omega))
    have hAr : ∀ j, orow A = some j → w4.heap.size ≤ j := fun j hj => ho5.row j hj
    have ho6 := ho5.only o6 (fun j hj => hFw j (by have := hAr j hj; have := he4.size; omega))
    have hz6 := o6.2.2.2.1
    refine boxF (l := .slc) 4 (A, i, c) hb6 (by rfl) ?_
    dsimp only
    have hle := ho6.le
    refine append_newi (E := numE .u32) (ys := [S.freeL.getD i 0]) (by rfl) rfl elem_u32 ho6 (by omega) (by omega) (by omega) ?_
    intro A' c' w7 ho7 hg7
    have oc7 : Only (fun j => orow A = some j) w6 w7 := Only.of_grown hg7.grown (fun j hj => .inl hj)
    have hb7 := hb6.only oc7 (fun e => by have := hAr _ e; omega)
    have hS7 := hS6.only oc7 (fun j hj e => by have := hAr j e; have := hFlt j hj; have := he4.size; omega)
    have hz7 := hg7.grown.size
    rw [add_mk]
    refine stE hb7 (o := 4) (by rfl) (by show 4 < 5; omega) ?_
    intro w8 hb8 oc8
    have o8 : Only F w w8 := Only.trans (Only.trans (Only.trans o5 o6 (fun j hj => .inl hj)) oc7 (fun j hj => .inr (by have := hAr j hj; have := he4.size; omega))) oc8 (fun j hj => .inr (by have : j = r19 := hj; omega))
    refine ⟨⟨i + 1, A', c', by omega, by rw [wrap_i64 (by omega) (by omega)]; rfl, hS7.only oc8 (fun j hj e => by have := hFlt j hj; have : j = r19 := e; omega), hb8, ?_, o8, by have := oc8.2.2.2.1; omega⟩, by rw [wrap_i64 (by omega) (by omega)]; omega⟩
    rw [t4]
    exact ho7.only oc8 (fun j hj e => by have := ho7.row j hj; have : j = r19 := e; omega)
  obtain rfl : i = x.2.1 := by omega
  refine splitW_f (decide_eq_false (by omega)) ?_
  have enp : x.2.1 = S.sup.pages.length := hpgl.symm
  have hs4 := he4.size
  have hns : S.freeL.take x.2.1 = S.ns := by rw [enp]; rfl
  have hnl : S.ns.length = x.2.1 := by rw [← hns, List.length_take]; unfold Spa.freeN at hfree; omega
  have etk : S.tk x.2.1 = { S with now := onL S.now S.ns } := by unfold Spa.tk; rw [hns]
  rw [etk] at hS5
  rw [hns] at ho5
  obtain ⟨t, hbx5⟩ := hS5.box
  refine ptr_i (boxE (l := .slc) 5 x hbx5 (by rfl) (by rfl) ?_)
  show loopW _ _ _ w5
  have hAr : ∀ j, orow A = some j → w4.heap.size ≤ j := fun j hj => ho5.row j hj
  have hAlt : ∀ j, orow A = some j → j < w5.heap.size := fun j hj => ho5.row_lt j hj
  refine loopW_i (fun y' w' => ∃ (i : Nat), i ≤ x.2.1 ∧ y' = ((i : Int), ()) ∧ SpM w' b db { S with now := subs (onL S.now S.ns) (S.sup.pages.take i) } F Fd x hb hr nb nr m ∧ Blk w' r19 (sV ⟨S.sup.gen + 1, S.sup.size, S.sup.blocks, root, []⟩ (A, x.2.1, c)) 79 ∧ Owni (numE .u32) 31 w' w4.heap.size A x.2.1 c S.ns ∧ Only F w w' ∧ w5.heap.size ≤ w'.heap.size) (fun y' => (x.2.1 - y'.1).toNat)
    ⟨0, by omega, rfl, hS5, hb5, ho5, o5, Nat.le_refl _⟩ ?_
  rintro _ w6 ⟨i, hi, rfl, hS6, hb6, ho6, o6, hz6⟩
  dsimp only
  by_cases hlt : i < x.2.1
  · refine splitW_t (decide_eq_true (by omega)) ?_
    refine idx_num hS6.pgs.sl (by omega) (by omega) ?_
    rw [Int.toNat_natCast]
    obtain ⟨t, hbx6⟩ := hS6.box
    refine ptr_i (boxE (l := .ptr) 8 (some ⟨nb, 0, none⟩) hbx6 (by rfl) (by rfl) ?_)
    have h32 : S.sup.pages.getD i 0 < 4294967296 := h.ok.fits.at_ i
    refine callW_of (sub_now hS6 h32) ?_
    rintro _ w7 ⟨rfl, hS7, hg7⟩
    have hat := sub_page hlen hp (i := i) (by omega)
    refine ⟨((subN (subs (onL S.now S.ns) (S.sup.pages.take i)) (S.sup.pages.getD i 0) : Int), atE (subs (onL S.now S.ns) (S.sup.pages.take i)) (S.sup.pages.getD i 0), ()), rfl, ?_⟩
    dsimp only
    rw [hat]
    refine splitW_f (by rfl) ?_
    have hnrF : F nr := h.nrF
    have o7 : Only F w6 w7 := h.nrOnly hg7
    have et : S.sup.pages.take (i + 1) = S.sup.pages.take i ++ [S.sup.pages.getD i 0] := by
      have hil : i < S.sup.pages.length := by omega
      rw [List.take_add_one, List.getD_eq_getElem?_getD, List.getElem?_eq_getElem hil]; rfl
    refine ⟨⟨i + 1, by omega, by rw [wrap_i64 (by omega) (by omega)]; rfl, ?_, hb6.only o7 (hFw r19 (by omega)), ho6.only o7 (fun j hj => hFw j (by have := hAr j hj; omega)), Only.trans o6 o7 (fun j hj => .inl hj), by have := o7.2.2.2.1; omega⟩, by rw [wrap_i64 (by omega) (by omega)]; omega⟩
    rw [et, subs_append]
    exact hS7
  obtain rfl : i = x.2.1 := by omega
  refine splitW_f (decide_eq_false (by omega)) ?_
  have ecm : subs (onL S.now S.ns) (S.sup.pages.take x.2.1) = S.comC := by rw [List.take_of_length_le (by omega)]; rfl
  rw [ecm] at hS6
  obtain ⟨t, hbx6⟩ := hS6.box
  refine ptr_i (boxE (l := .int .i64) 6 S.slot hbx6 (by rfl) (by rfl) ?_)
  refine callW_of (other_calls w6 S.slot) ?_
  rintro _ w7 ⟨rfl, hw7⟩
  refine ⟨_, rfl, ?_⟩
  rw [hw7]
  refine draw_i fun w8 he8 _ _ => ?_
  have hS8 := hS6.ext he8
  have hb8 := hb6.ext he8
  have ho8 := ho6.ext he8
  obtain ⟨t, hbx8⟩ := hS8.box
  refine ptr_i (boxE (l := .ptr) 0 (some ⟨db, 0, none⟩) hbx8 (by rfl) (by rfl) ?_)
  refine ptr_i (boxE (l := .ptr) 8 (some ⟨nb, 0, none⟩) hbx8 (by rfl) (by rfl) ?_)
  have hb8' : Blk w8 r19 (sV (S.next root) (A, x.2.1, c)) 79 := hb8
  refine boxA (ls := sLs) (sT (S.next root) (A, x.2.1, c)) hb8' rfl ?_
  obtain ⟨q, hnc⟩ := hS8.nowC
  have hff : (S.next root).Fits := ⟨hgen, h.ok.fits.size, h.ok.fits.blocks, hroot, fun p hm => by have := (ns_free hm).1; omega⟩
  have hp8 : Pg w8 (A, x.2.1, c) (S.next root).pages := ⟨ho8.sl, ho8.le.1⟩
  have hFd : ∀ j, Fd j → F j := fun j hj => (h.own j).2 (.inl hj)
  have esz : S.sup.size = S.dev.size := h.ok.size
  have o8 : Only F w w8 := Only.trans o6 (Only.of_ext (F := F) he8) (fun j hj => .inl hj)
  refine callW_of (commit_calls hS8.dev (by rw [← esz]; exact hnc) hff hp8 (fun a ha hf => hFw _ (by have := hAr a.block (by rw [show A = some a from ha]; rfl); omega) (hFd _ hf)) ?_ hpen (other S.slot)) ?_
  · show S.ns.length = cutsN S.comC.length (perOf S.dev.size)
    rw [hnl, enp, hp.len, comC_length, hlen, esz]
  rintro _ w9 ⟨rfl, hst⟩
  refine ⟨_, rfl, ?_⟩
  have hdm := commitD_dim S.dev S.comC (S.next root) (other S.slot)
  obtain ⟨F9, Fd9, hS9, hF9, o9⟩ := hS8.setDev hst hdm
  have hF9' : ∀ k, F9 k → F k ∨ w.heap.size ≤ k := fun k hk => by
    rcases hF9 k hk with e | e
    · exact .inl e
    · exact .inr (Nat.le_trans o8.2.2.2.1 e)
  have o09 : Only F w w9 := Only.trans o8 o9 (fun j hj => .inl hj)
  have eC : S.commit root = if (S.comD root).2 ≠ 0 then ({ S with now := S.comC, dev := (S.comD root).1 }, (S.comD root).2) else (⟨(S.comD root).1, S.next root, other S.slot, S.comC, S.comC, none⟩, 0) := by
    unfold Spa.commit
    rw [if_neg (fun hh => hh hcE)]
  refine splitW_i (fun hq => ?_) (fun hq => ?_)
  · have hq := bne_iff_ne.1 hq
    rw [eC, if_pos (show (S.comD root).2 ≠ 0 from hq)]
    exact ⟨rfl, F9, ⟨Fd9, x, hb, hr, nb, nr, m, hS9⟩, hF9', o09⟩
  have hq := bne_eq_false_iff_eq.1 hq
  rw [eC, if_neg (fun hh => hh (show (S.comD root).2 = 0 from hq))]
  have hz8 := he8.size
  have hz9 := o9.2.2.2.1
  have hA9 : ∀ j, orow A = some j → ¬ F j := fun j hj => hFw j (by have := hAr j hj; omega)
  have hb9 := hb8'.only o9 (hFw r19 (by omega))
  have ho9 := ho8.only o9 hA9
  refine draw_i fun w10 he10 _ _ => ?_
  have hS10 := hS9.ext he10
  have hb10 := hb9.ext he10
  have ho10 := ho9.ext he10
  refine boxA (ls := sLs) (sT (S.next root) (A, x.2.1, c)) hb10 rfl ?_
  obtain ⟨t, hbx10⟩ := hS10.box
  refine ptr_i (boxE (l := .ptr) 8 (some ⟨nb, 0, none⟩) hbx10 (by rfl) (by rfl) ?_)
  obtain ⟨q10, hnc10⟩ := hS10.nowC
  refine callW_of (cntclone_calls hnc10) ?_
  rintro _ w11 ⟨⟨b2, r2, q2, rfl, hc11, hb2, hr2⟩, he11⟩
  refine ⟨some ⟨b2, 0, none⟩, rfl, ?_⟩
  have hb11 := hb10.ext he11
  refine ⟨fun l hl q hq => ?_, ?_⟩
  · simp only [List.mem_singleton] at hl
    subst hl
    simp only [List.mem_cons, List.not_mem_nil, or_false] at hq
    rcases hq with rfl | rfl | rfl | rfl | rfl
    · exact boxC hb11 (o := 0) (by rfl) (by rfl)
    · exact boxC hb11 (o := 1) (by rfl) (by rfl)
    · exact boxC hb11 (o := 2) (by rfl) (by rfl)
    · exact boxC hb11 (o := 3) (by rfl) (by rfl)
    · exact boxC hb11 (o := 4) (by rfl) (by rfl)
  have hS11 := hS10.ext he11
  have ho11 := ho10.ext he11
  obtain ⟨t, hbx11⟩ := hS11.box
  refine ptr_i ?_
  refine refillE (vs := sV (S.next root) (A, x.2.1, c)) 1 hbx11 (by rfl) (by show 1 + 5 ≤ 10; omega) (sV_one _ _) rfl ?_
  intro w12 hb12 oc12
  refine ptr_i (stE hb12 (o := 6) (by rfl) (by show 6 < 10; omega) fun w13 hb13 oc13 => ?_)
  refine ptr_i (stE hb13 (o := 7) (by rfl) (by show 7 < 10; omega) fun w14 hb14 oc14 => ?_)
  refine ptr_i (stE hb14 (o := 9) (by rfl) (by show 9 < 10; omega) fun w15 hb15 oc15 => ?_)
  have ob : Only (fun k => k = b) w11 w15 := Only.trans (Only.trans (Only.trans oc12 oc13 (fun j hj => .inl hj)) oc14 (fun j hj => .inl hj)) oc15 (fun j hj => .inl hj)
  have o15 : Only F w w15 := Only.trans (Only.trans o09 (Only.of_ext (F := F) (he10.trans he11)) (fun j hj => .inl hj)) ob (fun j hj => .inl (by rw [show j = b from hj]; exact hbF))
  have hnd := hS11.nodup
  have hap := hS11.apart
  have hlt11 := hS11.lt
  have hown := hS11.own
  have hz10 := he10.size
  have hz11 := he11.size
  have hz15 := ob.2.2.2.1
  have hin : ∀ k, k ∈ [b, nb, nr] → k ∈ spOwn b hb hr nb nr x m := fun k hk => by
    simp only [List.mem_cons, List.not_mem_nil, or_false] at hk
    rcases hk with rfl | rfl | rfl <;> simp [spOwn]
  have hb9lt : b < w9.heap.size := hS9.lt b ((hS9.own b).2 (.inr (hin b (by simp))))
  have hnb9 : nb < w9.heap.size := hS9.lt nb ((hS9.own nb).2 (.inr (hin nb (by simp))))
  have hnr9 : nr < w9.heap.size := hS9.lt nr ((hS9.own nr).2 (.inr (hin nr (by simp))))
  have hFd9lt : ∀ k, Fd9 k → k < w9.heap.size := fun k hk => hS9.lt k ((hS9.own k).2 (.inl hk))
  have hnbF : F nb := (h.own nb).2 (.inr (by simp [spOwn]))
  have hnrF : F nr := h.nrF
  simp only [spOwn, List.nodup_cons, List.mem_cons, not_or] at hnd
  obtain ⟨⟨n1, n2, n3, n4, n5⟩, ⟨n6, n7, n8, n9⟩, ⟨n10, n11, n12⟩, ⟨n13, n14⟩, n15, n16⟩ := hnd
  have hne2 := hc11.ne
  have hA2 : ∀ k, k ∈ rowL (A, x.2.1, c) → w4.heap.size ≤ k ∧ k < w5.heap.size := by
    intro k hk
    unfold rowL at hk
    cases A with
    | none => simp at hk
    | some a =>
      simp only [Option.map_some, Option.toList_some, List.mem_singleton] at hk
      subst hk
      exact ⟨hAr a.block rfl, hAlt a.block rfl⟩
  have hA3 : ∀ k, k ∈ rowL (A, x.2.1, c) → ¬ Fd9 k := fun k hk hf => by
    have h1 := hA2 k hk
    rcases hF9 k ((hS9.own k).2 (.inl hf)) with e | e
    · exact hFw k (by omega) e
    · omega
  have hrn : (rowL (A, x.2.1, c)).Nodup := by unfold rowL; cases A <;> simp
  obtain ⟨q11, hnc11⟩ := hS11.nowC
  refine ⟨rfl, fun k => Fd9 k ∨ k ∈ spOwn b b2 r2 nb nr (A, x.2.1, c) none, ⟨Fd9, (A, x.2.1, c), b2, r2, nb, nr, none, ⟨⟨t, hb15⟩, hS11.dev.apart ob (fun j hj e => hap b (hin b (by simp)) (by rw [← show j = b from e]; exact hj)), ⟨(ho11.only ob (fun j hj e => by have := hAr j hj; have : j = b := e; omega)).sl, ho8.le.1⟩, ⟨q2, hc11.only ob (by show ¬ b2 = b; omega) (by show ¬ r2 = b; omega)⟩, ⟨q11, hnc11.only ob (fun e => n3 (show nb = b from e).symm) (fun e => n4 (show nr = b from e).symm)⟩, trivial, fun _ => Iff.rfl, ?_, ?_, ?_, ⟨?_, ?_, hff, ?_, ?_, fun l hl => by cases hl⟩⟩⟩, ?_, o15⟩
  · simp only [spOwn, mkBl, List.append_nil, List.nodup_cons, List.mem_cons, not_or]
    refine ⟨⟨by omega, by omega, n3, n4, fun hk => by have := hA2 _ hk; omega⟩, ⟨hne2, by omega, by omega, fun hk => by have := hA2 _ hk; omega⟩, ⟨by omega, by omega, fun hk => by have := hA2 _ hk; omega⟩, ⟨n13, fun hk => by have := hA2 _ hk; have := hFlt nb hnbF; omega⟩, fun hk => by have := hA2 _ hk; have := hFlt nr hnrF; omega, hrn⟩
  · intro k hk hf
    simp only [spOwn, mkBl, List.append_nil, List.mem_cons] at hk
    have := hFd9lt k hf
    rcases hk with rfl | rfl | rfl | rfl | rfl | hk
    · exact hap _ (hin _ (by simp)) hf
    · omega
    · omega
    · exact hap _ (hin _ (by simp)) hf
    · exact hap _ (hin _ (by simp)) hf
    · exact hA3 k hk hf
  · intro k hk
    have := hA2 k hk
    omega
  · show S.sup.size = (S.comD root).1.size
    rw [show (S.comD root).1.size = S.dev.size from hdm.1]; exact esz
  · show S.sup.blocks = (S.comD root).1.blocks
    rw [show (S.comD root).1.blocks = S.dev.blocks from hdm.2]; exact h.ok.blocks
  · show S.comC.length = _
    rw [comC_length, hlen]; rfl
  · show S.comC.length = _
    rw [comC_length, hlen]; rfl
  · rintro k (hk | hk)
    · exact hF9' k ((hS9.own k).2 (.inl hk))
    · simp only [spOwn, mkBl, List.append_nil, List.mem_cons] at hk
      rcases hk with rfl | rfl | rfl | rfl | rfl | hk
      · exact .inl hbF
      · exact .inr (by omega)
      · exact .inr (by omega)
      · exact .inl hnbF
      · exact .inl hnrF
      · have := hA2 k hk
        exact .inr (by omega)
end Go.Proofs.YtjdmggaeagnolaaGreatDoor.V
/- Contracts of the package space: Open, Root. -/
namespace Go.Proofs.YtjdmggaeagnolaaGreatDoor.V
open Go Go.Proofs Go.RowKit Crc
def opnC (d : Dev) : Int × Sup × Int := chooseS (B (d.read 0).1) (B (d.read 1).1)
def pgK (d : Dev) (p : Nat) : Fra × Int := kindR (B (d.read (p : Int)).1) 2
def opnL (d : Dev) : List ByteArray := (opnC d).2.1.pages.map fun p => (pgK d p).1.2.2
def opnOK (d : Dev) : Prop := (opnC d).2.2 = 0 ∧ (opnC d).2.1.size = d.size ∧ (opnC d).2.1.blocks = d.blocks ∧ (∀ p ∈ (opnC d).2.1.pages, (pgK d p).2 = 0 ∧ (pgK d p).1.2.1 = (opnC d).2.1.gen) ∧ loadE d.size d.blocks (opnL d) = 0
def openS (d : Dev) : Spa := ⟨d, (opnC d).2.1, (opnC d).1, loadL (opnL d), loadL (opnL d), none⟩
theorem choose_ok {a b : List UInt8} (h : (chooseS a b).2.2 = 0) : chk (chooseS a b).2.1 = 0 := by
  have key : ∀ c, (getS c).2 = 0 → chk (getS c).1 = 0 := by
    intro c hc
    have h2 := (getS_ok hc).1
    unfold putS at h2
    split at h2
    · rename_i hk
      exact hk
    · rename_i hk
      injection h2 with _ h3
  unfold chooseS at h ⊢
  split at h
  · cases h
  · rename_i h1
    rw [if_neg h1]
    split at h
    · rename_i h2
      rw [if_pos h2]
      refine key b ?_
      rcases h2 with h2 | h2
      · exact Decidable.not_not.1 (fun hb => h1 ⟨h2, hb⟩)
      · exact h2.1
    · rename_i h2
      rw [if_neg h2]
      exact key a (Decidable.not_not.1 (fun ha => h2 (.inl ha)))
theorem choose_fits (a b : List UInt8) : (chooseS a b).2.1.Fits := by
  unfold chooseS
  split
  · exact sup0_fits
  · split
    · exact getS_fits b
    · exact getS_fits a
theorem read_size {d : Dev} (h : d.Ok) (k : Int) : (d.read k).1.size ≤ 4096 := by
  by_cases hk : 0 ≤ k ∧ k < d.blocks
  · have h1 := (h.read hk.1 hk.2).2
    obtain ⟨g1, g2, g3, g4, g5⟩ := geo_room h.geo
    omega
  · unfold Dev.read
    rw [if_pos hk]
    show (ByteArray.empty).size ≤ 4096
    decide
theorem loadE_facts {size blocks : Int} {ps : List ByteArray} (h : loadE size blocks ps = 0) : geoOK size blocks = true ∧ fitsP blocks.toNat (perOf size) ps := by
  unfold loadE at h
  split at h
  · cases h
  · rename_i h1
    split at h
    · cases h
    · rename_i h2
      exact ⟨by cases hh : geoOK size blocks with
        | true => rfl
        | false => exact absurd hh h1, Decidable.not_not.1 h2⟩
theorem geoEq_iff {a b : Int × Int} : geoEq a b = true ↔ a.1 = b.1 ∧ a.2 = b.2 := by simp [geoEq]
theorem open_calls {w : World} {db : Nat} {d : Dev} {Fd : Nat → Prop} (h : DevAt w db d Fd) :
    Calls Tryz.prog 10 #[.pointer (some ⟨db, 0, none⟩)] w (Ret fun v w' => Ext w w' ∧ ((¬ opnOK d ∧ v = .tuple #[.pointer none, .int .i64 10]) ∨ (opnOK d ∧ ∃ b F, v = .tuple #[.pointer (some ⟨b, 0, none⟩), .int .i64 0] ∧ SpAt w' b db (openS d) F ∧ w.heap.size ≤ b ∧ ∀ k, F k → Fd k ∨ w.heap.size ≤ k))) := by
  have hgeo := h.ok.geo
  have hFlt := h.lt
  have hs0 := read_size h.ok 0
  have hs1 := read_size h.ok 1
  apply calls10
  unfold S10
  refine splitW_f (by rfl) ?_
  refine callW_of (read_calls h 0) ?_
  rintro _ w1 ⟨rfl, he1⟩
  refine ⟨((d.read 0).1, (d.read 0).2, ()), rfl, ?_⟩
  refine callW_of (read_calls (h.ext he1) 1) ?_
  rintro _ w2 ⟨rfl, he2⟩
  refine ⟨((d.read 1).1, (d.read 1).2, ()), rfl, ?_⟩
  dsimp only
  refine callW_of (choose_calls w2 (d.read 0).1 (d.read 1).1 (by omega) (by omega)) ?_
  rintro _ w3 ⟨x, rfl, hp3, he3, hx3⟩
  have eC : chooseS (B (d.read 0).1) (B (d.read 1).1) = opnC d := rfl
  rw [eC] at hp3 ⊢
  have hff : (opnC d).2.1.Fits := choose_fits _ _
  refine ⟨((opnC d).1, sT (opnC d).2.1 x, (opnC d).2.2, ()), rfl, ?_⟩
  have he03 := (he1.trans he2).trans he3
  refine boxedS (s := (opnC d).2.1) (x := x) (by rfl) (fun r4 w4 hb4 he4 hr4 => ?_)
  have he04 := he03.trans he4
  refine draw_i fun w5 he5 _ _ => ?_
  have hb5 := hb4.ext he5
  have he05 := he04.trans he5
  have hp5 := (hp3.ext he4).ext he5
  have bad : ∀ {w' : World}, ¬ opnOK d → Ext w w' → (Ext w w' ∧ ((¬ opnOK d ∧ Value.tuple #[.pointer none, .int .i64 (10 : Int)] = .tuple #[.pointer none, .int .i64 10]) ∨ (opnOK d ∧ ∃ b F, Value.tuple #[.pointer none, .int .i64 (10 : Int)] = .tuple #[.pointer (some ⟨b, 0, none⟩), .int .i64 0] ∧ SpAt w' b db (openS d) F ∧ w.heap.size ≤ b ∧ ∀ k, F k → Fd k ∨ w.heap.size ≤ k))) := fun hn he => ⟨he, .inl ⟨hn, rfl⟩⟩
  refine splitW_i (fun hq => ?_) (fun hq => ?_)
  · have hq := bne_iff_ne.1 hq
    exact bad (fun hh => hq hh.1) he05
  have hq0 := bne_eq_false_iff_eq.1 hq
  have hq0 : (opnC d).2.2 = 0 := hq0
  have hchk := choose_ok (a := B (d.read 0).1) (b := B (d.read 1).1) hq0
  obtain ⟨⟨c1, c2, c3, c4⟩, c5, c6⟩ := chk_ok hchk
  have c4 : ((opnC d).2.1.pages.length : Int) = pagesOf (opnC d).2.1.size (opnC d).2.1.blocks := c4
  have hple := pagesOf_le (size := (opnC d).2.1.size) (blocks := (opnC d).2.1.blocks)
  refine boxAE (ls := [.int .i64, .int .i64]) 1 ((opnC d).2.1.size, (opnC d).2.1.blocks, ()) hb5 (by rfl) (by rfl) ?_
  dsimp only
  refine callW_of (geo_calls (h.ext he05)) ?_
  rintro _ w6 ⟨rfl, he6⟩
  refine ⟨(d.size, d.blocks, ()), rfl, ?_⟩
  have hb6 := hb5.ext he6
  have he06 := he05.trans he6
  refine ⟨fun l hl q hq => ?_, ?_⟩
  · simp only [List.mem_singleton] at hl
    subst hl
    simp only [List.mem_cons, List.not_mem_nil, or_false] at hq
    rcases hq with rfl | rfl
    · exact boxC hb6 (o := 1) (by rfl) (by rfl)
    · exact boxC hb6 (o := 2) (by rfl) (by rfl)
  dsimp only
  refine ⟨_, fun w' => neq_geoS w' ((opnC d).2.1.size, (opnC d).2.1.blocks) (d.size, d.blocks) _ _, ?_⟩
  refine splitW_i (fun hq => ?_) (fun hq => ?_)
  · refine bad (fun hh => ?_) he06
    have : geoEq ((opnC d).2.1.size, (opnC d).2.1.blocks) (d.size, d.blocks) = true := geoEq_iff.2 ⟨hh.2.1, hh.2.2.1⟩
    rw [this] at hq
    cases hq
  have hq1 : (opnC d).2.1.size = d.size ∧ (opnC d).2.1.blocks = d.blocks := by
    have : geoEq ((opnC d).2.1.size, (opnC d).2.1.blocks) (d.size, d.blocks) = true := by simpa using hq
    exact geoEq_iff.1 this
  refine boxF (l := .slc) 4 x hb6 (by rfl) ?_
  have hp6 := hp5.ext he6
  have hpl := hp6.len
  have hge : ∀ j, w.heap.size ≤ j → ¬ Fd j := fun j hj hf => by have := hFlt j hf; omega
  have hs06 := he06.size
  refine loopW_i (fun y' w' => ∃ (i : Nat) (A : Option Addr) (c : Nat), i ≤ x.2.1 ∧ y' = ((A, i, c), (i : Int), ()) ∧ Ext w6 w' ∧ Owni strE 9 w' w6.heap.size A i c ((opnL d).take i) ∧ (∀ p ∈ (opnC d).2.1.pages.take i, (pgK d p).2 = 0 ∧ (pgK d p).1.2.1 = (opnC d).2.1.gen)) (fun y' => (x.2.1 - y'.2.1).toNat)
    ⟨0, none, 0, by omega, rfl, Ext.refl _, Owni.nil _ _ _, by simp⟩ ?_
  rintro _ w7 ⟨i, A, c, hi, rfl, he7, ho7, hall⟩
  dsimp only
  have he07 := he06.trans he7
  by_cases hlt : i < x.2.1
  · refine splitW_t (decide_eq_true (by omega)) ?_
    refine idx_num (hp6.sl.ext he7) (by omega) (by omega) ?_
    rw [Int.toNat_natCast]
    have hil : i < (opnC d).2.1.pages.length := by omega
    have hpi : (opnC d).2.1.pages[i]? = some ((opnC d).2.1.pages.getD i 0) := by rw [List.getD_eq_getElem?_getD, List.getElem?_eq_getElem hil]; rfl
    have hpm : (opnC d).2.1.pages.getD i 0 ∈ (opnC d).2.1.pages := by
      obtain ⟨_, e⟩ := List.getElem?_eq_some_iff.1 hpi
      rw [← e]; exact List.getElem_mem _
    have h32 : (opnC d).2.1.pages.getD i 0 < 4294967296 := hff.at_ i
    rw [wrap_i64 (by omega) (by omega)]
    have hrs := read_size h.ok ((opnC d).2.1.pages.getD i 0 : Nat)
    refine callW_of (read_calls (h.ext he07) ((opnC d).2.1.pages.getD i 0 : Nat)) ?_
    rintro _ w8 ⟨rfl, he8⟩
    refine ⟨((d.read ((opnC d).2.1.pages.getD i 0 : Nat)).1, (d.read ((opnC d).2.1.pages.getD i 0 : Nat)).2, ()), rfl, ?_⟩
    dsimp only
    refine callW_of (fkind_calls w8 (d.read ((opnC d).2.1.pages.getD i 0 : Nat)).1 (by omega) 2) ?_
    rintro _ w9 ⟨rfl, he9⟩
    have eK : kindR (B (d.read ((opnC d).2.1.pages.getD i 0 : Nat)).1) 2 = pgK d ((opnC d).2.1.pages.getD i 0) := rfl
    rw [eK]
    refine ⟨(fT (pgK d ((opnC d).2.1.pages.getD i 0)).1, (pgK d ((opnC d).2.1.pages.getD i 0)).2, ()), rfl, ?_⟩
    refine boxed (f := (pgK d ((opnC d).2.1.pages.getD i 0)).1) (fun r15 w10 hb10 he10 hr10 => ?_)
    have he710 := (he8.trans he9).trans he10
    have he010 := he07.trans he710
    have hb4' := hb6.ext (he7.trans he710)
    refine splitW_i (fun hz => ?_) (fun hz => ?_)
    · have hz := bne_iff_ne.1 hz
      exact bad (fun hh => hz (hh.2.2.2.1 _ hpm).1) he010
    have hz0 := bne_eq_false_iff_eq.1 hz
    refine boxF (l := .int .u64) 1 (((pgK d ((opnC d).2.1.pages.getD i 0)).1.2.1 : Nat) : Int) hb10 (by rfl) ?_
    refine box0 (((opnC d).2.1.gen : Nat) : Int) hb4' (by rfl) ?_
    refine splitW_i (fun hz => ?_) (fun hz => ?_)
    · have hz := bne_iff_ne.1 hz
      exact bad (fun hh => hz (by rw [(hh.2.2.2.1 _ hpm).2])) he010
    have hz1 := bne_eq_false_iff_eq.1 hz
    refine boxF (l := .str) 2 (pgK d ((opnC d).2.1.pages.getD i 0)).1.2.2 hb10 (by rfl) ?_
    have ho10 := ho7.ext he710
    have hs710 := he710.size
    have hs67 := he7.size
    refine append_newi (E := strE) (ys := [(pgK d ((opnC d).2.1.pages.getD i 0)).1.2.2]) (by rfl) rfl elem_strK' ho10 (by omega) (by omega) (by omega) ?_
    intro A' c' w11 ho11 hg11
    have hAr : ∀ j, orow A = some j → w6.heap.size ≤ j := fun j hj => ho10.row j hj
    refine ⟨⟨i + 1, A', c', by omega, by rw [wrap_i64 (by omega) (by omega)]; rfl, (he7.trans he710).grown hg11.grown (fun j hj => hAr j hj), ?_, ?_⟩, by rw [wrap_i64 (by omega) (by omega)]; omega⟩
    · have eL : (opnL d)[i]? = some (pgK d ((opnC d).2.1.pages.getD i 0)).1.2.2 := by unfold opnL; rw [List.getElem?_map, hpi]; rfl
      rw [List.take_add_one, eL]
      exact ho11
    · intro p hpm'
      rw [List.take_add_one, hpi] at hpm'
      simp only [Option.toList_some, List.mem_append, List.mem_singleton] at hpm'
      rcases hpm' with e | rfl
      · exact hall p e
      · exact ⟨hz0, by omega⟩
  obtain rfl : i = x.2.1 := by omega
  refine splitW_f (decide_eq_false (by omega)) ?_
  rw [List.take_of_length_le (by omega)] at hall
  have hLl : (opnL d).length = x.2.1 := by unfold opnL; rw [List.length_map]; exact hpl
  rw [List.take_of_length_le (by omega)] at ho7
  refine callW_of (geo_calls (h.ext he07)) ?_
  rintro _ w8 ⟨rfl, he8⟩
  refine ⟨(d.size, d.blocks, ()), rfl, ?_⟩
  dsimp only
  refine callW_of (load_calls (size := d.size) (blocks := d.blocks) (c := c) (ho7.ext he8).sl) ?_
  rintro _ w9 ⟨xo, rfl, hld, he9⟩
  refine ⟨(xo, loadE d.size d.blocks (opnL d), ()), rfl, ?_⟩
  dsimp only
  have he79 := he8.trans he9
  have he09 := he07.trans he79
  refine splitW_i (fun hz => ?_) (fun hz => ?_)
  · have hz := bne_iff_ne.1 hz
    exact bad (fun hh => hz hh.2.2.2.2) he09
  have hz := bne_eq_false_iff_eq.1 hz
  rw [if_pos hz] at hld
  obtain ⟨cb, cr, rfl, hc9, hcb, hcr⟩ := hld
  have hOK : opnOK d := ⟨hq0, hq1.1, hq1.2, hall, hz⟩
  refine draw_i fun w10 he10 _ _ => ?_
  have he69 := he7.trans he79
  have hb10 := hb6.ext (he69.trans he10)
  refine boxA (ls := sLs) (sT (opnC d).2.1 x) hb10 rfl ?_
  have hc10 := hc9.ext he10
  refine callW_of (cntclone_calls hc10) ?_
  rintro _ w11 ⟨⟨b2, r2, q2, rfl, hc11, hb2, hr2⟩, he11⟩
  refine ⟨some ⟨b2, 0, none⟩, rfl, ?_⟩
  have hb11 := hb10.ext he11
  refine ⟨fun l hl q hq => ?_, ?_⟩
  · simp only [List.mem_singleton] at hl
    subst hl
    simp only [List.mem_cons, List.not_mem_nil, or_false] at hq
    rcases hq with rfl | rfl | rfl | rfl | rfl
    · exact boxC hb11 (o := 0) (by rfl) (by rfl)
    · exact boxC hb11 (o := 1) (by rfl) (by rfl)
    · exact boxC hb11 (o := 2) (by rfl) (by rfl)
    · exact boxC hb11 (o := 3) (by rfl) (by rfl)
    · exact boxC hb11 (o := 4) (by rfl) (by rfl)
  refine new_i fun r25 w12 hb12 he12 hr12 hz12 => ?_
  have he011 := (he09.trans he10).trans he11
  have he012 := he011.trans he12
  have hs3 := he03.size
  have hs04 := he04.size
  have hs05 := he05.size
  have hs79 := he79.size
  have hs10 := he10.size
  have hs11 := he11.size
  have hs8 := he8.size
  have hs7 := he7.size
  have hs23 := he3.size
  have hs02 := (he1.trans he2).size
  have hne := hc9.ne
  have hne2 := hc11.ne
  have hcbl := hc9.head.lt
  have hcrl := hc9.row.lt
  have hcb2 := hc11.head.lt
  have hcr2 := hc11.row.lt
  have hA2 : ∀ k, k ∈ rowL x → w.heap.size ≤ k ∧ k < w8.heap.size := by
    intro k hk
    unfold rowL at hk
    cases hxa : x.1 with
    | none => rw [hxa] at hk; simp at hk
    | some a =>
      rw [hxa] at hk
      simp only [Option.map_some, Option.toList_some, List.mem_singleton] at hk
      subst hk
      have h1 := hx3 a hxa
      by_cases hx0 : 0 < x.2.1
      · obtain ⟨a', e1, e2, e3⟩ := hp3.sl.2.2 hx0
        rw [hxa] at e1
        injection e1 with e1
        subst e1
        have hlen3 := hp3.sl.len
        have hm : ((opnC d).2.1.pages)[0]? = some ((opnC d).2.1.pages.getD 0 0) := by rw [List.getD_eq_getElem?_getD, List.getElem?_eq_getElem (by omega)]; rfl
        obtain ⟨a2, g1, g2, g3⟩ := hp3.sl.at_ hm
        rw [hxa] at g1
        injection g1 with g1
        subst g1
        have hcell := g3.1
        have hlt := World.block_lt_of_cell? w3 _ hcell
        have hab : ((a.add (0 * 1)).add 0).block = a.block := by unfold Addr.add; split <;> rfl
        have : a.block < w3.heap.size := by
          have h5 := hlt
          revert h5
          unfold Addr.add
          split <;> intro h5 <;> exact h5
        have hs36 := (he4.trans (he5.trans he6)).size
        omega
      · exfalso
        have h0 : (opnC d).2.1.pages.length = 0 := by omega
        have := fmtN_le (size := d.size) (N := d.blocks.toNat) (by rw [Int.toNat_of_nonneg (by have := geo_room hgeo; omega)]; exact hgeo)
        have hf := (loadE_facts hz).2
        have hf := fitsP_len hf
        rw [hLl] at hf
        unfold fmtN at this
        omega
  have hrn : (rowL x).Nodup := by unfold rowL; cases x.1 <;> simp
  have hdimN := geo_dims hgeo
  refine ⟨he012, .inr ⟨hOK, r25, fun k => Fd k ∨ k ∈ spOwn r25 cb cr b2 r2 x none, rfl, ⟨Fd, x, cb, cr, b2, r2, none, ⟨⟨_, hb12⟩, h.ext he012, hp6.ext (((he69.trans he10).trans he11).trans he12), ⟨[], ?_⟩, ⟨q2, ?_⟩, trivial, fun _ => Iff.rfl, ?_, ?_, ?_, ⟨hq1.1, hq1.2, hff, ?_, ?_, fun l hl => by cases hl⟩⟩⟩, by omega, ?_⟩⟩
  · show Cnt w12 cb cr (opnC d).2.1.size [] (loadL (opnL d))
    rw [hq1.1]
    exact (hc10.ext he11).ext he12
  · show Cnt w12 b2 r2 (opnC d).2.1.size q2 (loadL (opnL d))
    rw [hq1.1]
    exact hc11.ext he12
  · simp only [spOwn, mkBl, List.append_nil, List.nodup_cons, List.mem_cons, not_or]
    refine ⟨⟨by omega, by omega, by omega, by omega, fun hk => by have := hA2 _ hk; omega⟩, ⟨hne, by omega, by omega, fun hk => by have := hA2 _ hk; omega⟩, ⟨by omega, by omega, fun hk => by have := hA2 _ hk; omega⟩, ⟨hne2, fun hk => by have := hA2 _ hk; omega⟩, fun hk => by have := hA2 _ hk; omega, hrn⟩
  · intro k hk
    refine hge k ?_
    simp only [spOwn, mkBl, List.append_nil, List.mem_cons] at hk
    have h08 : w.heap.size ≤ w8.heap.size := (he07.trans he8).size
    rcases hk with rfl | rfl | rfl | rfl | rfl | hk
    · omega
    · omega
    · omega
    · omega
    · omega
    · exact (hA2 k hk).1
  · intro k hk
    have := hA2 k hk
    have := he9.size
    omega
  · obtain ⟨f1, f2⟩ := loadE_facts hz
    obtain ⟨h8, _⟩ := geo8 hgeo
    show (loadL (opnL d)).length = ((opnC d).2.1.blocks).toNat
    rw [loadL_length (show 1 ≤ perOf d.size by have := (perOf_spec h8).1; omega) f2, hq1.2]
  · obtain ⟨f1, f2⟩ := loadE_facts hz
    obtain ⟨h8, _⟩ := geo8 hgeo
    show (loadL (opnL d)).length = ((opnC d).2.1.blocks).toNat
    rw [loadL_length (show 1 ≤ perOf d.size by have := (perOf_spec h8).1; omega) f2, hq1.2]
  · rintro k (hk | hk)
    · exact .inl hk
    · right
      simp only [spOwn, mkBl, List.append_nil, List.mem_cons] at hk
      have h08 : w.heap.size ≤ w8.heap.size := (he07.trans he8).size
      rcases hk with rfl | rfl | rfl | rfl | rfl | hk
      · omega
      · omega
      · omega
      · omega
      · omega
      · exact (hA2 k hk).1
theorem root_calls {w : World} {b db : Nat} {S : Spa} {F Fd : Nat → Prop} {x : SLC} {hb hr nb nr : Nat} {m : MkL} (h : SpM w b db S F Fd x hb hr nb nr m) :
    Calls Tryz.prog 20 #[.pointer (some ⟨b, 0, none⟩)] w (Ret fun v w' => v = .int .u32 (S.sup.root : Int) ∧ w' = w) := by
  apply calls20
  unfold S20
  obtain ⟨t, hbx⟩ := h.box
  exact splitW_f (by rfl) (ptr_i (boxE (l := .int .u32) 4 (S.sup.root : Int) hbx (by rfl) (by rfl) ⟨rfl, rfl⟩))
end Go.Proofs.YtjdmggaeagnolaaGreatDoor.V
/- Spaces that are well, with what was committed and marked: plain. -/
namespace Go.Proofs.YtjdmggaeagnolaaGreatDoor.V
open Go Go.Proofs Go.RowKit Crc
theorem wB_le2 {c : Nat} {r : List UInt8} (hc : c < 65536) : wB (le 2 c ++ r) = c :: wB r := by
  unfold wB
  rw [List.length_append, le_length, show (2 + r.length) / 2 = r.length / 2 + 1 by omega, List.range_succ_eq_map, List.map_cons, List.map_map]
  rw [List.cons.injEq]
  refine ⟨?_, ?_⟩
  · rw [Nat.mul_zero, List.drop_zero, List.take_left' (le_length _ _), lev_le2 hc]
  · apply List.map_congr_left
    intro k _
    simp only [Function.comp]
    rw [show 2 * (k.succ) = (le 2 c).length + 2 * k by rw [le_length]; omega, ← List.drop_drop, List.drop_left]
theorem wB_flat : ∀ cs : List Nat, (∀ c ∈ cs, c < 65536) → wB (cs.flatMap (le 2)) = cs
  | [], _ => rfl
  | c :: r, h => by rw [List.flatMap_cons, wB_le2 (h c List.mem_cons_self), wB_flat r (fun x hx => h x (List.mem_cons_of_mem _ hx))]
theorem chunks_take (l : List Nat) (per : Nat) : ∀ k, (List.range k).flatMap (fun i => (l.drop (i * per)).take per) = l.take (k * per)
  | 0 => by simp
  | k + 1 => by
    rw [List.range_succ, List.flatMap_append, chunks_take l per k, Nat.succ_mul, List.take_add]
    simp
theorem loadL_pages {l : List Nat} {per : Nat} (hp : 1 ≤ per) (h : ∀ c ∈ l, c < 65536) : loadL (pagesL l per) = l := by
  unfold loadL pagesL
  rw [List.flatMap_map]
  have e : ((List.range (cutsN l.length per)).flatMap fun i => wB (B ⟨(pageB l per i).toArray⟩)) = (List.range (cutsN l.length per)).flatMap fun i => (l.drop (i * per)).take per := by
    congr 1
    funext i
    rw [B_mk]
    unfold pageB
    exact wB_flat _ (fun c hc => h c (List.mem_of_mem_drop (List.mem_of_mem_take hc)))
  rw [e, chunks_take, List.take_of_length_le]
  have := mt (cutsN_lt (n := l.length) (k := per) (i := cutsN l.length per) hp).2 (by omega)
  omega
theorem freeN_mono {S S' : Spa} (hN : S'.N = S.N) (h : ∀ n, S.isFree n = true → S'.isFree n = true) : S.freeN ≤ S'.freeN := by
  unfold Spa.freeN Spa.freeL
  rw [← List.countP_eq_length_filter, ← List.countP_eq_length_filter, hN]
  refine List.countP_mono_left (fun n _ hn => ?_)
  rw [Bool.and_eq_true] at hn ⊢
  exact ⟨hn.1, h n hn.2⟩
theorem nodup_sub : ∀ {a b : List Nat}, a.Nodup → (∀ x ∈ a, x ∈ b) → a.length ≤ b.length
  | [], b, _, _ => Nat.zero_le _
  | x :: r, b, hn, h => by
    obtain ⟨hx, hr⟩ := List.nodup_cons.1 hn
    have hb := h x List.mem_cons_self
    have := nodup_sub (a := r) (b := b.erase x) hr (fun y hy => by
      have hyx : y ≠ x := fun e => hx (e ▸ hy)
      exact (List.mem_erase_of_ne hyx).2 (h y (List.mem_cons_of_mem _ hy)))
    rw [List.length_erase_of_mem hb] at this
    have := List.length_pos_of_mem hb
    rw [List.length_cons]
    omega
theorem wrL_reads : ∀ (l : List (Nat × Fra)) (d : Dev), DevG d → (∀ p ∈ l, (p.1 : Int) < d.blocks ∧ ((B p.2.2.2).length : Int) ≤ roomOf d.size) → (l.map (·.1)).Nodup →
    ∀ p ∈ l, ((wrL d l).1.read (p.1 : Int)).1 = mkB (putB d.size.toNat p.2)
  | [], d, _, _, _, p, hp => by cases hp
  | kf :: r, d, h, hl, hnd, p, hp => by
    obtain ⟨h1, h2⟩ := hl kf List.mem_cons_self
    obtain ⟨g1, g2, g3⟩ := writeF_good h h1 h2
    obtain ⟨d1, d2, d3⟩ := writeF_dim d kf.1 kf.2
    have hr := fun p hp => hl p (List.mem_cons_of_mem kf hp)
    have hr' : ∀ p ∈ r, (p.1 : Int) < (writeF d kf.1 kf.2).1.blocks ∧ ((B p.2.2.2).length : Int) ≤ roomOf (writeF d kf.1 kf.2).1.size := fun p hp => by rw [d1, d2]; exact hr p hp
    obtain ⟨k1, k2, k3⟩ := wrL_good r _ g2 hr'
    rw [List.map_cons, List.nodup_cons] at hnd
    unfold wrL
    rw [if_neg (fun hh => hh g1)]
    rcases List.mem_cons.1 hp with rfl | hp
    · rw [k3 (p.1 : Int) (by rw [d2]; exact ⟨by omega, h1⟩) (fun q hq e => hnd.1 (List.mem_map.2 ⟨q, hq, by omega⟩)), g3 _ ⟨by omega, h1⟩, if_pos rfl]
    · have := wrL_reads r _ g2 hr' hnd.2 p hp
      rw [this, d1]
theorem pgFs_fst {gen : Nat} {ps : List Nat} {l : List ByteArray} (h : ps.length = l.length) : (pgFs gen ps l).map (·.1) = ps := by
  unfold pgFs
  rw [List.map_map]
  have : (fun p : Nat × ByteArray => p.1) = Prod.fst := rfl
  show (ps.zip l).map Prod.fst = ps
  rw [List.map_fst_zip (by omega)]
theorem commit_reads {d : Dev} (h : DevG d) {c : List Nat} {s : Sup} {slot : Int} (hchk : chk s = 0) (hsz : s.size = d.size) (hps : ∀ p ∈ s.pages, 2 ≤ p ∧ (p : Int) < d.blocks) (hnd : s.pages.Nodup) (hslot : slot = 0 ∨ slot = 1)
    (hlen : s.pages.length = cutsN c.length (perOf d.size)) :
    ((commitD d c s slot).1.read slot).1 = mkB (putS s).1 ∧ (∀ j : Int, 0 ≤ j → j < d.blocks → j ≠ slot → (∀ p ∈ s.pages, (p : Int) ≠ j) → ((commitD d c s slot).1.read j).1 = (d.read j).1) ∧
      ∀ i, i < s.pages.length → ((commitD d c s slot).1.read ((s.pages.getD i 0 : Nat) : Int)).1 = mkB (putB d.size.toNat ((2 : UInt8), s.gen, (pagesL c (perOf d.size)).getD i ByteArray.empty)) := by
  obtain ⟨z, N, e1, e2, e3, e4, e5, e6, e7, e8⟩ := h.ok.facts
  have hPl := pagesL_length c (perOf d.size)
  have hL : ∀ p ∈ pgFs s.gen s.pages (pagesL c (perOf d.size)), p.1 ∈ s.pages ∧ ((B p.2.2.2).length : Int) ≤ roomOf d.size := by
    intro p hp
    unfold pgFs at hp
    obtain ⟨q, hq, rfl⟩ := List.mem_map.1 hp
    have h1 := (List.of_mem_zip hq).1
    have h2 := (List.of_mem_zip hq).2
    refine ⟨h1, ?_⟩
    unfold pagesL at h2
    obtain ⟨i, _, hi⟩ := List.mem_map.1 h2
    show ((B q.2).length : Int) ≤ _
    rw [← hi, B_mk]
    have := pageB_len c (perOf d.size) i
    omega
  have hL' : ∀ p ∈ pgFs s.gen s.pages (pagesL c (perOf d.size)), (p.1 : Int) < d.blocks ∧ ((B p.2.2.2).length : Int) ≤ roomOf d.size := fun p hp => ⟨(hps _ (hL p hp).1).2, (hL p hp).2⟩
  obtain ⟨w1, w2, w3⟩ := wrL_good _ d h hL'
  have w4 := wrL_reads _ d h hL' (by rw [pgFs_fst (by omega)]; exact hnd)
  obtain ⟨dm1, dm2, dm3⟩ := wrL_dim (pgFs s.gen s.pages (pagesL c (perOf d.size))) d
  have hget := fun i (hi : i < s.pages.length) => pgFs_get (gen := s.gen) (ps := s.pages) (l := pagesL c (perOf d.size)) (by omega) (i := i) (by omega)
  obtain ⟨f1, f2, f3, f4⟩ := flush_good w2
  have fd := flush_dim (wrL d (pgFs s.gen s.pages (pagesL c (perOf d.size)))).1
  unfold commitD
  generalize (pgFs s.gen s.pages (pagesL c (perOf d.size))) = L at *
  generalize hr : (wrL d L) = r at *
  have hp0 : (putS s).2 = 0 := by rw [putS_good hchk]
  have hpl := (putS_length hchk).1
  have hs2 : ((((mkB (putS s).1).size : Nat)) : Int) = r.1.flush.1.size := by rw [mkB_size, hpl, fd.1, dm1, hsz]
  have hsl : 0 ≤ slot ∧ slot < r.1.flush.1.blocks := by rw [fd.2.1, dm2]; omega
  obtain ⟨q1, q2, q3⟩ := write_ok f2.ok hsl hs2 f2.fuse
  have hrw := fun (j : Int) (hj : 0 ≤ j ∧ j < r.1.flush.1.blocks) => read_write f2.ok hsl hs2 (by rw [f2.fuse]; decide) (j := j) hj
  have hw0 := (hrw slot hsl).1
  obtain ⟨y1, y2, y3, y4⟩ := flush_good (d := (r.1.flush.1.write slot (mkB (putS s).1)).1) ⟨q1, q2⟩
  rw [if_neg (fun hh => hh w1), if_neg (fun hh => hh f1), if_neg (fun hh => hh hp0), if_neg (fun hh => hh hw0)]
  refine ⟨?_, fun j hj hjb hjs hno => ?_, fun i hi => ?_⟩
  · rw [y4, (hrw slot hsl).2, if_pos rfl]
  · rw [y4 j, (hrw j (by rw [fd.2.1, dm2]; omega)).2, if_neg hjs, f4 j, w3 j ⟨hj, hjb⟩ (fun p hp => hno p.1 (hL p hp).1)]
  · have hg := hget i hi
    have hm := List.mem_of_getElem? hg
    have h2 := hps _ (hL _ hm).1
    dsimp only at h2
    rw [y4, (hrw _ (by rw [fd.2.1, dm2]; omega)).2, if_neg (by omega), f4, w4 _ hm]
structure HeldOK (S : Spa) : Prop where
  slot : S.slot = 0 ∨ S.slot = 1
  chk : chk S.sup = 0
  cur : getS (B (S.dev.read S.slot).1) = (S.sup, 0)
  old : (getS (B (S.dev.read (other S.slot)).1)).2 ≠ 0 ∨ (getS (B (S.dev.read (other S.slot)).1)).1.gen < S.sup.gen
  pgs : ∀ i, i < S.sup.pages.length → (S.dev.read ((S.sup.pages.getD i 0 : Nat) : Int)).1 = mkB (putB S.dev.size.toNat ((2 : UInt8), S.sup.gen, (pagesL S.held (perOf S.dev.size)).getD i ByteArray.empty))
  fit : ∀ c ∈ S.held, c < 65536
def MW (N : Nat) (ps : List Nat) (pg : PgF) : Option (List Nat) → Option (List Nat) → Prop
  | none, none => True
  | some l, some m => WellC N ps pg l m
  | _, _ => False
structure Great (S : Spa) (R H : List Nat) (M : Option (List Nat)) : Prop where
  good : Good S R
  heldOK : HeldOK S
  hwell : WellC S.N S.sup.pages S.page S.held H
  mwell : MW S.N S.sup.pages S.page S.mark M
  room : S.sup.pages.length ≤ S.freeN
theorem MW.pgs_eq {N : Nat} {ps : List Nat} {pg pg' : PgF} {l m : Option (List Nat)} (h : MW N ps pg l m) (ho : ∀ n, cnt l n ≠ 0 → 2 ≤ n → n < N → pg' n = pg n) : MW N ps pg' l m := by
  cases l with
  | none => cases m with
    | none => trivial
    | some _ => exact h.elim
  | some l => cases m with
    | none => exact h.elim
    | some m =>
      have h : WellC N ps pg l m := h
      refine WellC.pgs_eq h (fun n hn => ho n ?_ ?_ (h.lt hn))
      · have := (usedC_iff.1 hn).2.2
        show l.getD n 0 ≠ 0
        omega
      · exact (usedC_iff.1 hn).1
theorem HeldOK.pgsOk {S : Spa} {R : List Nat} (h : HeldOK S) (hg : Good S R) : PgsOk S := by
  obtain ⟨⟨c1, c2, c3, c4⟩, c5, c6⟩ := chk_ok h.chk
  have hN : S.sup.blocks = (S.N : Int) := hg.dims.blocks
  have h4 := pagesOf_cuts (size := S.sup.size) (N := S.N) (by rw [← hN]; exact c1)
  rw [hN, h4] at c4
  refine ⟨hg.well.pgs, ?_, by unfold fmtN at c4; omega⟩
  rw [List.nodup_iff_pairwise_ne, List.pairwise_iff_getElem]
  intro i j hi hj hij e
  apply (c5 j hj).2.2
  rw [List.getD_eq_getElem?_getD, List.getElem?_eq_getElem hj, Option.getD_some, ← e]
  exact List.mem_take_iff_getElem.2 ⟨i, by omega, rfl⟩
theorem great_put {S : Spa} {R H : List Nat} {M : Option (List Nat)} {p : Page} (h : Great S (p.2.1 ++ R) H M) (ht : 3 ≤ p.1.toNat) (hk : (p.2.1.length : Int) ≤ S.room 0 / 4) (hd : (p.2.2.size : Int) ≤ S.room p.2.1.length) (hfree : S.sup.pages.length < S.freeN) :
    (S.put p).2.2 = 0 ∧ PutOk S (S.put p).1 p (S.put p).2.1 ∧ Great (S.put p).1 ((S.put p).2.1 :: R) H M := by
  obtain ⟨h1, h2, h3⟩ := put_good h.good ht hk hd hfree
  refine ⟨h1, h2, ?_⟩
  generalize (S.put p).1 = S' at *
  generalize (S.put p).2.1 = n at *
  have hN : S'.N = S.N := by unfold Spa.N; rw [h2.sup]
  obtain ⟨f1, f2, f3⟩ := isFree_iff.1 h2.free
  have hb := h.good.dims.blocks
  have hn := h.good.dims.n
  have ho := h.heldOK
  have hslot : ∀ j : Int, j = 0 ∨ j = 1 → (S'.dev.read j).1 = (S.dev.read j).1 := fun j hj => h2.read j (by omega) (by omega) (by have := h2.two; omega)
  refine ⟨h3, ⟨?_, ?_, ?_, ?_, ?_, ?_⟩, ?_, ?_, ?_⟩
  · rw [h2.slot]; exact ho.slot
  · rw [h2.sup]; exact ho.chk
  · rw [h2.slot, h2.sup, hslot _ ho.slot]; exact ho.cur
  · rw [h2.slot, h2.sup, hslot _ (by unfold other; split <;> simp)]; exact ho.old
  · intro i hi
    rw [h2.sup] at hi ⊢
    rw [h2.held, h2.dim.1, h2.read _ (by omega) ?_ ?_]
    · exact ho.pgs i hi
    · have := (h.good.well.pgs (S.sup.pages.getD i 0) (by rw [List.getD_eq_getElem?_getD, List.getElem?_eq_getElem hi]; exact List.getElem_mem _)).2.1
      omega
    · intro e
      have e : S.sup.pages.getD i 0 = n := by omega
      apply h2.pgs
      rw [← e, List.getD_eq_getElem?_getD, List.getElem?_eq_getElem hi]; exact List.getElem_mem _
  · rw [h2.held]; exact ho.fit
  · rw [hN, h2.sup, h2.held]
    exact WellC.pgs_eq h.hwell (fun m hm => h2.other m (fun e => by subst e; have := (usedC_iff.1 hm).2.2; omega) (h.hwell.lt hm))
  · rw [hN, h2.sup, h2.mark]
    exact h.mwell.pgs_eq (fun m hm _ hmN => h2.other m (fun e => by subst e; exact hm f3) hmN)
  · have := h2.freeL
    have hh := h.room
    rw [h2.sup]
    unfold Spa.freeN at hfree ⊢
    rw [this] at hfree
    simp only [List.length_cons] at hfree
    omega
theorem Great.setNow {S : Spa} {R R' H : List Nat} {M : Option (List Nat)} {c : List Nat} (h : Great S R H M) (hg : Good { S with now := c } R') (hr : S.sup.pages.length ≤ ({ S with now := c } : Spa).freeN) : Great { S with now := c } R' H M :=
  ⟨hg, ⟨h.heldOK.slot, h.heldOK.chk, h.heldOK.cur, h.heldOK.old, h.heldOK.pgs, h.heldOK.fit⟩, h.hwell, h.mwell, hr⟩
theorem Great.perm {S : Spa} {R R' H : List Nat} {M : Option (List Nat)} (h : Great S R H M) (hp : R.Perm R') : Great S R' H M := ⟨h.good.perm hp, h.heldOK, h.hwell, h.mwell, h.room⟩
theorem great_abort {S : Spa} {R H : List Nat} {M : Option (List Nat)} (h : Great S R H M) : Great { S with now := S.held, mark := none } H H none := by
  have hd := h.good.ok
  refine ⟨⟨⟨hd.size, hd.blocks, hd.fits, hd.held, hd.held, fun l hl => by cases hl⟩, h.good.dev, h.good.fuse, h.good.gen, h.hwell⟩, ⟨h.heldOK.slot, h.heldOK.chk, h.heldOK.cur, h.heldOK.old, h.heldOK.pgs, h.heldOK.fit⟩, h.hwell, trivial, Nat.le_trans h.room (freeN_mono rfl fun n hn => ?_)⟩
  obtain ⟨f1, f2, f3⟩ := isFree_iff.1 hn
  exact isFree_iff.2 ⟨f2, f2, rfl⟩
theorem great_open {S : Spa} {R H : List Nat} {M : Option (List Nat)} (h : Great S R H M) : opnOK S.dev ∧ openS S.dev = { S with now := S.held, mark := none } := by
  have ho := h.heldOK
  have hd := h.good.dims
  have hP := ho.pgsOk h.good
  have hsz := h.good.ok.size
  have hgeo := h.good.dev.geo
  obtain ⟨z, N, e1, e2, e3, e4, e5, e6, e7, e8⟩ := h.good.dev.facts
  have hgs : (getS (B (S.dev.read S.slot).1)).2 = 0 := by rw [ho.cur]
  have eC : opnC S.dev = (S.slot, S.sup, 0) := by
    unfold opnC chooseS
    have h1 := ho.cur
    have h2 := ho.old
    rcases ho.slot with e | e
    · rw [e] at h1 h2 ⊢
      have eo : other 0 = 1 := rfl
      rw [eo] at h2
      rw [if_neg (by rw [h1]; exact fun hh => hh.1 rfl), if_neg (by
        rw [h1]
        rintro (hh | ⟨h3, h4⟩)
        · exact hh rfl
        · rcases h2 with h2 | h2
          · exact h2 h3
          · dsimp only at h4; omega), h1]
    · rw [e] at h1 h2 ⊢
      have eo : other 1 = 0 := rfl
      rw [eo] at h2
      rw [if_neg (by rw [h1]; exact fun hh => hh.2 rfl), if_pos (by
        rw [h1]
        rcases h2 with h2 | h2
        · exact .inl h2
        · exact .inr ⟨rfl, h2⟩), h1]
  have hper : 1 ≤ perOf S.dev.size := by omega
  have hPl : (pagesL S.held (perOf S.dev.size)).length = S.sup.pages.length := by
    rw [pagesL_length, hP.len, h.good.ok.held, hsz]
  have ePg : ∀ i, i < S.sup.pages.length → pgK S.dev (S.sup.pages.getD i 0) = (((2 : UInt8), S.sup.gen, (pagesL S.held (perOf S.dev.size)).getD i ByteArray.empty), 0) := by
    intro i hi
    unfold pgK
    rw [ho.pgs i hi, B_mkB]
    have hez : S.dev.size.toNat = z := by omega
    rw [hez]
    have hpl : (B ((pagesL S.held (perOf S.dev.size)).getD i ByteArray.empty)).length ≤ 2 * perOf S.dev.size := by
      have hi' : i < cutsN S.held.length (perOf S.dev.size) := by rw [← pagesL_length]; omega
      unfold pagesL
      rw [List.getD_eq_getElem?_getD, List.getElem?_map, List.getElem?_range hi']
      show (B ⟨(pageB S.held (perOf S.dev.size) i).toArray⟩).length ≤ _
      rw [B_mk]
      exact pageB_len _ _ _
    have hg := h.good.gen
    have := getR_putB (size := z) (f := ((2 : UInt8), S.sup.gen, (pagesL S.held (perOf S.dev.size)).getD i ByteArray.empty)) (by rw [← e1]; omega) (by omega) (by omega) (by dsimp only; omega) (by dsimp only; omega)
    unfold kindR
    rw [this, if_neg (fun hh => hh.2 rfl)]
  have eL : opnL S.dev = pagesL S.held (perOf S.dev.size) := by
    unfold opnL
    rw [eC]
    refine List.ext_getElem? (fun i => ?_)
    show ((S.sup.pages).map fun p => (pgK S.dev p).1.2.2)[i]? = _
    rw [List.getElem?_map]
    by_cases hi : i < S.sup.pages.length
    · have hpi : S.sup.pages[i]? = some (S.sup.pages.getD i 0) := by rw [List.getD_eq_getElem?_getD, List.getElem?_eq_getElem hi]; rfl
      rw [hpi, Option.map_some, ePg i hi, List.getD_eq_getElem?_getD, List.getElem?_eq_getElem (by omega)]
      rfl
    · rw [List.getElem?_eq_none (by omega), List.getElem?_eq_none (by omega)]; rfl
  have eH : loadL (pagesL S.held (perOf S.dev.size)) = S.held := loadL_pages hper ho.fit
  have hbl := hd.blocks
  have hsb := h.good.ok.blocks
  refine ⟨⟨by rw [eC], by rw [eC]; exact hsz, by rw [eC]; exact hsb, fun p hp => ?_, ?_⟩, ?_⟩
  · rw [eC] at hp ⊢
    obtain ⟨i, hi, e⟩ := List.mem_iff_getElem.1 hp
    have e : S.sup.pages.getD i 0 = p := by rw [List.getD_eq_getElem?_getD, List.getElem?_eq_getElem hi]; exact e
    rw [← e, ePg i hi]
    exact ⟨rfl, rfl⟩
  · rw [eL]
    unfold loadE
    have hhl := h.good.ok.held
    have hbN : S.dev.blocks.toNat = S.held.length := by rw [hhl]; omega
    rw [if_neg (by rw [hgeo]; simp), if_neg, eH, if_pos h.hwell.head]
    rw [hbN]
    exact fun hh => hh (pagesL_sizes _ _)
  · unfold openS
    rw [eC, eL, eH]
end Go.Proofs.YtjdmggaeagnolaaGreatDoor.V
/- Spaces that are well: Commit, Format, Mark, Back, Done, Share, Drop: plain. -/
namespace Go.Proofs.YtjdmggaeagnolaaGreatDoor.V
open Go Go.Proofs Go.RowKit Crc
theorem WellC.swap {N : Nat} {ps ps' : List Nat} {pg pg' : PgF} {c c' R : List Nat} (h : WellC N ps pg c R) (hl : c'.length = N) (hh : c'.getD 0 0 = 1 ∧ c'.getD 1 0 = 1) (hps : ∀ p ∈ ps', 2 ≤ p ∧ p < N ∧ c'.getD p 0 = 1)
    (hu : ∀ n, usedC ps' c' n = usedC ps c n) (hpg : ∀ n, usedC ps c n = true → pg' n = pg n) (hc : ∀ n, 2 ≤ n → n ∉ ps' → c'.getD n 0 = if n ∈ ps then 0 else c.getD n 0) : WellC N ps' pg' c' R := by
  have hs : ∀ x, sumC N ps' pg' c' x = sumC N ps pg c x := by
    intro x
    unfold sumC
    congr 1
    apply List.map_congr_left
    intro m _
    unfold refC
    rw [hu m]
    by_cases hm : usedC ps c m = true
    · rw [if_pos hm, if_pos hm, kidsP, hpg m hm]
    · rw [if_neg hm, if_neg hm]
  refine ⟨hl, h.two, hh, hps, fun n hn => by rw [hu]; exact h.root n hn, fun n hn => ?_, ?_, fun n h2 hn => ?_⟩
  · rw [hu] at hn
    rw [kidsP, hpg n hn]
    exact ⟨(h.good n hn).1, fun k hk => by rw [hu]; exact (h.good n hn).2 k hk⟩
  · obtain ⟨r, hr⟩ := h.rank
    refine ⟨r, fun n hn k hk => ?_⟩
    rw [hu] at hn
    rw [kidsP, hpg n hn] at hk
    exact hr n hn k hk
  · rw [hs, hc n h2 hn]
    by_cases hp : n ∈ ps
    · rw [if_pos hp]
      have hnu : ∀ k, usedC ps c k = true → k ≠ n := fun k hk e => (usedC_iff.1 hk).2.1 (e ▸ hp)
      have h1 : R.count n = 0 := List.count_eq_zero.2 (fun hm => hnu n (h.root n hm) rfl)
      have h2 : sumC N ps pg c n = 0 := by
        unfold sumC
        rw [sum_congr (g := fun _ => 0) (fun m _ => ?_)]
        · exact sum_zeros _
        · unfold refC
          split
          · rename_i hm
            exact List.count_eq_zero.2 (fun hk => hnu n ((h.good m hm).2 n hk) rfl)
          · rfl
      omega
    · rw [if_neg hp]
      exact h.sum n h2 hp
theorem other_two {s : Int} (h : s = 0 ∨ s = 1) : (other s = 0 ∨ other s = 1) ∧ other (other s) = s ∧ other s ≠ s := by
  rcases h with rfl | rfl <;> decide
theorem great_commit {S : Spa} {R H : List Nat} {M : Option (List Nat)} (h : Great S R H M) {root : Nat} (hroot : root = 0 ∨ usedC S.sup.pages S.now root = true) (hgen : S.sup.gen + 1 < 1000000000000) (hfit : ∀ n, S.now.getD n 0 < 65536) :
    S.commit root = (⟨(S.comD root).1, S.next root, other S.slot, S.comC, S.comC, none⟩, 0) ∧ Great (S.commit root).1 R R none ∧ (S.comD root).1.pen = [] ∧ (∀ k, usedC S.sup.pages S.now k = true → (S.commit root).1.page k = S.page k) ∧ S.comE root = 0 ∧ chk (S.next root) = 0 ∧ (S.next root).Fits := by
  have hg := h.good
  have ho := h.heldOK
  have hP := ho.pgsOk hg
  have hdim := hg.dims
  have hN := hdim.n
  have hbl := hdim.blocks
  have hlen := hg.ok.now
  have hsz := hg.ok.size
  have hsb := hg.ok.blocks
  obtain ⟨⟨c1, c2, c3, c4⟩, c5, c6⟩ := chk_ok ho.chk
  have hnl : S.ns.length = S.sup.pages.length := by have := h.room; unfold Spa.ns; rw [List.length_take]; unfold Spa.freeN at this; omega
  have hnsm : ∀ k ∈ S.ns, k < S.N ∧ 2 ≤ k ∧ S.now.getD k 0 = 0 ∧ k ∉ S.sup.pages := fun k hk => by
    obtain ⟨a1, a2, a3⟩ := ns_free hk
    have a4 := (isFree_iff.1 a3).1
    exact ⟨a1, a2, a4, fun e => by have := (hP.at_ k e).2.2; omega⟩
  have hE : S.comE root = 0 := by
    unfold Spa.comE
    have hroot' : root ≠ 0 → S.asked root = true ∧ S.now.getD root 0 ≠ 0 := fun hr => by
      rcases hroot with e | e
      · exact absurd e hr
      · have := used_asked hg e
        exact ⟨this.1, this.2.1⟩
    rw [if_neg (fun hh => by rw [(hroot' hh.1).1] at hh; cases hh.2), if_neg (fun hh => (hroot' hh.1).2 hh.2), if_neg (by have := h.room; omega)]
  have hrootlt : root < S.N := by
    rcases hroot with e | e
    · omega
    · exact (used_asked hg e).2.2
  have hff : (S.next root).Fits := ⟨by show S.sup.gen + 1 < _; omega, hg.ok.fits.size, hg.ok.fits.blocks, by show root < _; omega, fun p hm => by have := (hnsm p hm).1; omega⟩
  have hchk : chk (S.next root) = 0 := by
    rw [chk_long]
    · show (if 14 + 4 * (S.ns.length : Int) > roomOf S.sup.size then (3 : Int) else 0) = 0
      rw [hnl, if_neg (by omega)]
    · refine ⟨c1, (show S.sup.gen + 1 ≠ 0 by omega), ?_, (show (S.ns.length : Int) = pagesOf S.sup.size S.sup.blocks by rw [hnl]; exact c4)⟩
      rcases hroot with e | e
      · exact .inl e
      · right
        have := (usedC_iff.1 e).1
        show pageOK S.sup.blocks root = true
        unfold pageOK
        rw [decide_eq_true]
        exact ⟨this, by omega⟩
    · intro j hj
      have hj : j < S.ns.length := hj
      have eg : (S.next root).pages.getD j 0 = S.ns[j] := by show S.ns.getD j 0 = _; rw [List.getD_eq_getElem?_getD, List.getElem?_eq_getElem hj]; rfl
      obtain ⟨a1, a2, a3, a4⟩ := hnsm _ (List.getElem_mem hj)
      refine ⟨?_, ?_, ?_⟩
      · rw [eg]
        show pageOK S.sup.blocks _ = true
        unfold pageOK
        rw [decide_eq_true]
        exact ⟨a2, by omega⟩
      · rw [eg]
        show S.ns[j] ≠ root
        intro e
        rcases hroot with e2 | e2
        · omega
        · have := (usedC_iff.1 e2).2.2
          rw [e] at a3
          omega
      · rw [eg]
        intro hm
        have hnd := ns_nodup S
        rw [← List.take_append_drop j S.ns, List.drop_eq_getElem_cons hj, List.nodup_append] at hnd
        exact hnd.2.2 _ hm _ List.mem_cons_self rfl
  obtain ⟨o1, o2, o3⟩ := other_two ho.slot
  have hps : ∀ p ∈ (S.next root).pages, 2 ≤ p ∧ (p : Int) < S.dev.blocks := fun p hp => by have := hnsm p hp; rw [← hsb, hbl]; omega
  have hcl := comC_length S
  obtain ⟨k1, k2, k3, k4⟩ := commit_good (d := S.dev) ⟨hg.dev, hg.fuse⟩ (c := S.comC) (s := S.next root) (slot := other S.slot) hchk hsz hps o1
  obtain ⟨r1, r2, r3⟩ := commit_reads (d := S.dev) ⟨hg.dev, hg.fuse⟩ (c := S.comC) (s := S.next root) (slot := other S.slot) hchk hsz hps (ns_nodup S) o1 (by show S.ns.length = _; rw [hnl, hP.len, hcl, hlen, hsz])
  have dm := commitD_dim S.dev S.comC (S.next root) (other S.slot)
  have eD : S.comD root = commitD S.dev S.comC (S.next root) (other S.slot) := rfl
  have eC : S.commit root = (⟨(S.comD root).1, S.next root, other S.slot, S.comC, S.comC, none⟩, 0) := by
    unfold Spa.commit
    rw [if_neg (fun hh => hh hE), if_neg (fun hh => hh k1)]
  have hpage : ∀ k, usedC S.sup.pages S.now k = true → (S.commit root).1.page k = S.page k := by
    intro k hk
    rw [eC]
    have hkN := (used_asked hg hk).2.2
    obtain ⟨a1, a2, a3⟩ := usedC_iff.1 hk
    show pageR S.N (B ((S.comD root).1.read k).1) = pageR S.N (B (S.dev.read k).1)
    rw [eD, r2 (k : Int) (by omega) (by rw [← hsb, hbl]; omega) (by omega) (fun p hp e => by
      have := (hnsm p hp).2.2.1
      have e : p = k := by omega
      subst e
      omega)]
  have hget := comC_get hlen hP
  have hu : ∀ k, usedC S.ns S.comC k = usedC S.sup.pages S.now k := by
    intro k
    rw [Bool.eq_iff_iff, usedC_iff, usedC_iff, hget k]
    by_cases hp : k ∈ S.sup.pages
    · simp [hp]
    · rw [if_neg hp]
      by_cases hn : k ∈ S.ns
      · have := (hnsm k hn).2.2.1
        simp only [hn, not_true_eq_false, false_and, and_false, hp, not_false_eq_true, true_and, false_iff, not_and]
        intro _; omega
      · rw [if_neg hn]; simp [hn, hp]
  have hw : WellC S.N S.ns (S.commit root).1.page S.comC R := by
    refine WellC.swap hg.well (hcl.trans hlen) ?_ (fun p hp => ?_) hu hpage (fun n h2 hn => ?_)
    · have hd := hg.well.head
      rw [hget, hget, if_neg (fun e => by have := (hP.at_ 0 e).1; omega), if_neg (fun e => by have := (hnsm 0 e).2.1; omega), if_neg (fun e => by have := (hP.at_ 1 e).1; omega), if_neg (fun e => by have := (hnsm 1 e).2.1; omega)]
      exact hd
    · obtain ⟨a1, a2, a3, a4⟩ := hnsm p hp
      exact ⟨a2, a1, by rw [hget, if_neg a4, if_pos hp]⟩
    · rw [hget, if_neg hn]
  rw [eC] at hw hpage
  refine ⟨eC, ?_, k3, by rw [eC]; exact hpage, hE, hchk, hff⟩
  rw [eC]
  refine ⟨⟨⟨?_, ?_, hff, ?_, ?_, fun l hl => by cases hl⟩, k2.ok, k2.fuse, hgen, hw⟩, ⟨o1, hchk, ?_, ?_, ?_, ?_⟩, hw, trivial, ?_⟩
  · show S.sup.size = (S.comD root).1.size
    rw [eD, dm.1]; exact hsz
  · show S.sup.blocks = (S.comD root).1.blocks
    rw [eD, dm.2]; exact hsb
  · show S.comC.length = S.N
    rw [hcl, hlen]
  · show S.comC.length = S.N
    rw [hcl, hlen]
  · show getS (B ((S.comD root).1.read (other S.slot)).1) = _
    rw [eD, r1, B_mkB]
    exact getS_put hff (by rw [putS_good hchk])
  · right
    show (getS (B ((S.comD root).1.read (other (other S.slot))).1)).1.gen < S.sup.gen + 1
    rw [o2, eD, r2 S.slot (by have := ho.slot; omega) (by rw [← hsb, hbl]; have := ho.slot; have := hg.well.two; omega) (fun e => o3 e.symm) (fun p hp => by have := (hnsm p hp).2.1; have := ho.slot; omega), ho.cur]
    show S.sup.gen < _
    omega
  · intro i hi
    have hi : i < S.ns.length := hi
    show ((S.comD root).1.read ((S.ns.getD i 0 : Nat) : Int)).1 = mkB (putB (S.comD root).1.size.toNat (2, S.sup.gen + 1, (pagesL S.comC (perOf (S.comD root).1.size)).getD i ByteArray.empty))
    rw [eD, dm.1]
    exact r3 i hi
  · intro c hc
    obtain ⟨i, hi, e⟩ := List.mem_iff_getElem.1 hc
    have e : S.comC.getD i 0 = c := by rw [List.getD_eq_getElem?_getD, List.getElem?_eq_getElem hi]; exact e
    rw [← e, hget]
    have := hfit i
    split
    · omega
    · split <;> omega
  · show S.ns.length ≤ List.length _
    rw [hnl]
    refine nodup_sub hP.nodup (fun p hp => ?_)
    obtain ⟨a1, a2, a3⟩ := hP.at_ p hp
    refine freeL_mem.2 ⟨a2, a1, isFree_iff.2 ⟨?_, ?_, rfl⟩⟩
    · show S.comC.getD p 0 = 0
      rw [hget, if_pos hp]
    · show S.comC.getD p 0 = 0
      rw [hget, if_pos hp]
theorem fmtN_le2 {size : Int} {N : Nat} (h : geoOK size N = true) : 2 * fmtN size N + 2 ≤ N := by
  obtain ⟨h8, n, hn, h1, h2⟩ := geo8 h
  obtain rfl : N = n := by omega
  obtain ⟨hp1, hp2, _⟩ := perOf_spec h8
  have hx : cutsN N (perOf size) ≤ (N + 55) / 56 := by
    unfold cutsN
    rw [Nat.div_le_iff_le_mul_add_pred (by omega)]
    have h3 : N + 55 < 56 * ((N + 55) / 56 + 1) := Nat.lt_mul_div_succ _ (by omega)
    have h4 : 56 * ((N + 55) / 56) ≤ perOf size * ((N + 55) / 56) := Nat.mul_le_mul_right _ hp1
    omega
  unfold fmtN
  omega
theorem getS_zero (n : Nat) : (getS (B (zeroB n))).2 ≠ 0 := by
  intro h
  obtain ⟨h1, h2⟩ := getS_ok h
  have hc := putS_ok (s := (getS (B (zeroB n))).1) (by rw [h1])
  rw [putS_good hc] at h1
  injection h1 with h1 _
  have h3 : (B (zeroB n)).getD 0 0 = 0 := by
    unfold zeroB
    have : ∀ k : Nat, (List.replicate k (0 : UInt8)).getD 0 0 = 0 := fun k => by cases k <;> rfl
    first
      | (rw [B_mk]; exact this _)
      | (rw [B_mkB]; exact this _)
  rw [← h1] at h3
  have h4 : (putB (getS (B (zeroB n))).1.size.toNat (fraS (getS (B (zeroB n))).1)).getD 0 0 = 1 := by
    unfold putB bodyB headB
    rfl
  rw [h4] at h3
  cases h3
theorem great_format {d : Dev} (h : DevG d) (hchk : chk (fmtS d.size d.blocks.toNat) = 0) : (formatD d).2 = 0 ∧ Great (formatS d) [] [] none ∧ (formatS d).dev.pen = [] := by
  obtain ⟨g1, g2, g3⟩ := format_good h hchk
  refine ⟨g1, ?_, g3⟩
  obtain ⟨z, N, e1, e2, e3, e4, e5, e6, e7, e8⟩ := h.ok.facts
  have hN : d.blocks.toNat = N := by omega
  have hg : geoOK d.size (N : Int) = true := by rw [← e2]; exact h.ok.geo
  obtain ⟨n1, n2, n3⟩ := fmtN_le hg
  have n4 := fmtN_le2 hg
  rw [hN] at hchk
  have hz : (((zeroB d.size.toNat).size : Nat) : Int) = d.size := by rw [zeroB_size]; omega
  have h1 : 0 ≤ (1 : Int) ∧ (1 : Int) < d.blocks := by omega
  obtain ⟨q1, q2, q3⟩ := write_ok h.ok h1 hz h.fuse
  have hw0 := (read_write h.ok h1 hz (by rw [h.fuse]; decide) h1).1
  have hw1 := (read_write h.ok h1 hz (by rw [h.fuse]; decide) h1).2
  have hwd := write_dim d 1 (zeroB d.size.toNat)
  have hpm : ∀ p, p ∈ fmtP (fmtN d.size N) ↔ 2 ≤ p ∧ p < 2 + fmtN d.size N := fun p => by
    unfold fmtP
    constructor
    · intro hp
      obtain ⟨i, hi, rfl⟩ := List.mem_map.1 hp
      have := List.mem_range.1 hi
      omega
    · intro hp
      exact List.mem_map.2 ⟨p - 2, List.mem_range.2 (by omega), by omega⟩
  have hnd : (fmtP (fmtN d.size N)).Nodup := by
    unfold fmtP
    rw [List.nodup_iff_pairwise_ne, List.pairwise_map]
    exact List.Pairwise.imp (fun hab e => by omega) List.pairwise_lt_range
  have hfl := fmtC_length (N := N) (np := fmtN d.size N) n1
  obtain ⟨r1, r2, r3⟩ := commit_reads (d := (d.write 1 (zeroB d.size.toNat)).1) ⟨q1, q2⟩ (c := fmtC N (fmtN d.size N)) (s := fmtS d.size N) (slot := 0) hchk hwd.1.symm (fun p hp => by have := (hpm p).1 hp; rw [hwd.2.1]; omega) hnd (.inl rfl) (by rw [hwd.1, hfl]; exact fmtP_length _)
  have eD : formatD d = commitD (d.write 1 (zeroB d.size.toNat)).1 (fmtC N (fmtN d.size N)) (fmtS d.size N) 0 := by
    unfold formatD
    rw [hN, if_neg (fun hh => hh hchk), if_neg (fun hh => hh hw0)]
  have dm := commitD_dim (d.write 1 (zeroB d.size.toNat)).1 (fmtC N (fmtN d.size N)) (fmtS d.size N) 0
  have eS : formatS d = ⟨(formatD d).1, fmtS d.size N, 0, fmtC N (fmtN d.size N), fmtC N (fmtN d.size N), none⟩ := by unfold formatS; rw [hN]
  rw [eS] at g2 ⊢
  refine ⟨g2, ⟨.inl rfl, hchk, ?_, .inl ?_, ?_, ?_⟩, g2.well, trivial, ?_⟩
  · show getS (B ((formatD d).1.read 0).1) = _
    rw [eD, r1, B_mkB]
    exact getS_put (fmtS_fits hg) (by rw [putS_good hchk])
  · show (getS (B ((formatD d).1.read 1).1)).2 ≠ 0
    rw [eD, r2 1 (by omega) (by rw [hwd.2.1]; omega) (by omega) (fun p hp => by have := (hpm p).1 hp; omega), hw1, if_pos rfl]
    exact getS_zero _
  · intro i hi
    show ((formatD d).1.read (((fmtP (fmtN d.size N)).getD i 0 : Nat) : Int)).1 = mkB (putB (formatD d).1.size.toNat ((2 : UInt8), 1, (pagesL (fmtC N (fmtN d.size N)) (perOf (formatD d).1.size)).getD i ByteArray.empty))
    rw [eD, dm.1]
    exact r3 i hi
  · intro c hc
    have hc : c ∈ fmtC N (fmtN d.size N) := hc
    unfold fmtC at hc
    rw [List.mem_append, List.mem_replicate, List.mem_replicate] at hc
    omega
  · show (fmtP (fmtN d.size N)).length ≤ List.length _
    rw [fmtP_length]
    have := nodup_sub (a := (List.range (fmtN d.size N)).map (· + (2 + fmtN d.size N))) (b := Spa.freeL ⟨(formatD d).1, fmtS d.size N, 0, fmtC N (fmtN d.size N), fmtC N (fmtN d.size N), none⟩) ?_ ?_
    · rw [List.length_map, List.length_range] at this
      exact this
    · rw [List.nodup_iff_pairwise_ne, List.pairwise_map]
      exact List.Pairwise.imp (fun hab e => by omega) List.pairwise_lt_range
    · intro k hk
      obtain ⟨i, hi, rfl⟩ := List.mem_map.1 hk
      have := List.mem_range.1 hi
      refine freeL_mem.2 ⟨by show i + (2 + fmtN d.size N) < ((N : Int)).toNat; omega, by omega, isFree_iff.2 ⟨?_, ?_, rfl⟩⟩
      · show (fmtC N (fmtN d.size N)).getD _ 0 = 0
        rw [fmtC_get n1, if_neg (by omega)]
      · show (fmtC N (fmtN d.size N)).getD _ 0 = 0
        rw [fmtC_get n1, if_neg (by omega)]
theorem great_mark {S : Spa} {R H : List Nat} {M : Option (List Nat)} (h : Great S R H M) : Great { S with mark := some S.now } R H (some R) := by
  have hd := h.good.ok
  refine ⟨⟨⟨hd.size, hd.blocks, hd.fits, hd.held, hd.now, fun l hl => by cases hl; exact hd.now⟩, h.good.dev, h.good.fuse, h.good.gen, h.good.well⟩, ⟨h.heldOK.slot, h.heldOK.chk, h.heldOK.cur, h.heldOK.old, h.heldOK.pgs, h.heldOK.fit⟩, h.hwell, h.good.well, Nat.le_trans h.room (freeN_mono rfl fun n hn => ?_)⟩
  obtain ⟨f1, f2, f3⟩ := isFree_iff.1 hn
  exact isFree_iff.2 ⟨f1, f2, f1⟩
theorem great_back {S : Spa} {R H m l : List Nat} (h : Great S R H (some m)) (hm : S.mark = some l) : Great { S with now := l, mark := none } m H none := by
  have hd := h.good.ok
  have hw := h.mwell
  rw [hm] at hw
  refine ⟨⟨⟨hd.size, hd.blocks, hd.fits, hd.held, hd.mark l hm, fun l hl => by cases hl⟩, h.good.dev, h.good.fuse, h.good.gen, hw⟩, ⟨h.heldOK.slot, h.heldOK.chk, h.heldOK.cur, h.heldOK.old, h.heldOK.pgs, h.heldOK.fit⟩, h.hwell, trivial, Nat.le_trans h.room (freeN_mono rfl fun n hn => ?_)⟩
  obtain ⟨f1, f2, f3⟩ := isFree_iff.1 hn
  rw [hm] at f3
  exact isFree_iff.2 ⟨f3, f2, rfl⟩
theorem great_done {S : Spa} {R H : List Nat} {M : Option (List Nat)} (h : Great S R H M) : Great { S with mark := none } R H none := by
  have hd := h.good.ok
  refine ⟨⟨⟨hd.size, hd.blocks, hd.fits, hd.held, hd.now, fun l hl => by cases hl⟩, h.good.dev, h.good.fuse, h.good.gen, h.good.well⟩, ⟨h.heldOK.slot, h.heldOK.chk, h.heldOK.cur, h.heldOK.old, h.heldOK.pgs, h.heldOK.fit⟩, h.hwell, trivial, Nat.le_trans h.room (freeN_mono rfl fun n hn => ?_)⟩
  obtain ⟨f1, f2, f3⟩ := isFree_iff.1 hn
  exact isFree_iff.2 ⟨f1, f2, rfl⟩
theorem Great.less {S : Spa} {R R' H : List Nat} {M : Option (List Nat)} {c : List Nat} (h : Great S R H M) (hg : Good { S with now := c } R') (hle : ∀ k, c.getD k 0 ≤ S.now.getD k 0) : Great { S with now := c } R' H M := by
  refine h.setNow hg (Nat.le_trans h.room (freeN_mono rfl fun n hn => ?_))
  obtain ⟨f1, f2, f3⟩ := isFree_iff.1 hn
  exact isFree_iff.2 ⟨by have := hle n; show c.getD n 0 = 0; omega, f2, f3⟩
theorem Great.more {S : Spa} {R R' H : List Nat} {M : Option (List Nat)} {n : Nat} (h : Great S R H M) (hu : usedC S.sup.pages S.now n = true) (hg : Good { S with now := S.now.set n (S.now.getD n 0 + 1) } R') : Great { S with now := S.now.set n (S.now.getD n 0 + 1) } R' H M := by
  refine h.setNow hg (Nat.le_trans h.room (freeN_mono rfl fun k hk => ?_))
  obtain ⟨f1, f2, f3⟩ := isFree_iff.1 hk
  refine isFree_iff.2 ⟨?_, f2, f3⟩
  show (S.now.set n (S.now.getD n 0 + 1)).getD k 0 = 0
  have := (usedC_iff.1 hu).2.2
  rw [getD_setN, if_neg (fun e => by rw [e.1] at this; omega)]
  exact f1
end Go.Proofs.YtjdmggaeagnolaaGreatDoor.V
/- Blobs: plain. -/
namespace Go.Proofs.YtjdmggaeagnolaaGreatDoor.V
open Go Go.Proofs Go.RowKit Crc
def part (r : Nat) (b : ByteArray) (i : Nat) : ByteArray := b.extract (i * r) (min b.size ((i + 1) * r))
end Go.Proofs.YtjdmggaeagnolaaGreatDoor.V
/- Spaces that are well, and blobs; what may have changed is told by Kept: plain. -/
namespace Go.Proofs.YtjdmggaeagnolaaGreatDoor.V
open Go Go.Proofs Go.RowKit Crc
end Go.Proofs.YtjdmggaeagnolaaGreatDoor.V
/- Spaces of one's own, short: Commit, Open, Root, Format of nothing. -/
namespace Go.Proofs.YtjdmggaeagnolaaGreatDoor.V
open Go Go.Proofs Go.RowKit Crc
variable {w0 w w' : World} {b db : Nat} {S : Spa} {R H : List Nat} {M : Option (List Nat)}
theorem format_nil (w : World) : Calls Tryz.prog 52 #[.pointer none] w (Ret fun v w' => v = .tuple #[.pointer none, .int .i64 1] ∧ w' = w) := by
  apply calls52
  unfold S52
  exact splitW_t (by rfl) ⟨rfl, rfl⟩
end Go.Proofs.YtjdmggaeagnolaaGreatDoor.V
/- Contracts of the package space: Abort, Mark, Back, Done, Gen. -/
namespace Go.Proofs.YtjdmggaeagnolaaGreatDoor.V
open Go Go.Proofs Go.RowKit Crc
theorem spOwn_perm (b hb hr nb nr : Nat) (x : SLC) (m : MkL) : (spOwn b hb hr nb nr x m).Perm ((b :: hb :: hr :: rowL x) ++ (nb :: nr :: mkBl m)) := by
  unfold spOwn
  refine List.Perm.cons b (List.Perm.cons hb (List.Perm.cons hr ?_))
  refine List.Perm.trans ?_ List.perm_middle.symm
  exact List.Perm.cons nb List.perm_middle.symm
variable {w w' : World} {b db : Nat} {S : Spa} {F Fd : Nat → Prop} {x : SLC} {hb hr nb nr : Nat} {m : MkL}
theorem SpM.parts (h : SpM w b db S F Fd x hb hr nb nr m) : (b :: hb :: hr :: rowL x).Nodup ∧ (nb :: nr :: mkBl m).Nodup ∧ ∀ k ∈ nb :: nr :: mkBl m, k ∉ b :: hb :: hr :: rowL x := by
  have := (List.Perm.nodup_iff (spOwn_perm b hb hr nb nr x m)).1 h.nodup
  rw [List.nodup_append] at this
  exact ⟨this.1, this.2.1, fun k hk hk2 => this.2.2 k hk2 k hk rfl⟩
theorem SpM.remake (h : SpM w b db S F Fd x hb hr nb nr m) (ob : Only (fun k => k = b) w w') {nb' nr' : Nat} {m' : MkL} {now' : List Nat} {mark' : Option (List Nat)} {t : TypeId} (hbx : Blk w' b (spV db S.sup x S.slot hb nb' m') t)
    (hnow : ∃ q, Cnt w nb' nr' S.sup.size q now') (hmk : MkAt w S.sup.size m' mark') (hne : ∀ k ∈ nb' :: nr' :: mkBl m', k ∉ b :: hb :: hr :: rowL x ∧ ¬ Fd k) (hnd : (nb' :: nr' :: mkBl m').Nodup) (hl : now'.length = S.N) (hlm : ∀ l, mark' = some l → l.length = S.N) :
    SpM w' b db { S with now := now', mark := mark' } (fun k => Fd k ∨ k ∈ spOwn b hb hr nb' nr' x m') Fd x hb hr nb' nr' m' := by
  obtain ⟨p1, p2, p3⟩ := h.parts
  obtain ⟨q, hc⟩ := hnow
  obtain ⟨q1, c1⟩ := h.heldC
  have hap := h.apart
  have hnb : ∀ k ∈ nb' :: nr' :: mkBl m', ¬ k = b := fun k hk e => (hne k hk).1 (by rw [e]; simp)
  have hbb : ∀ k, k ∈ hb :: hr :: rowL x → ¬ k = b := fun k hk e => by
    rw [List.nodup_cons] at p1
    exact p1.1 (e ▸ hk)
  refine ⟨⟨t, hbx⟩, h.dev.apart ob (fun j hj e => hap b (by simp [spOwn]) (by rw [← show j = b from e]; exact hj)), ⟨h.pgs.sl.only ob (fun a ha => hbb _ (by simp [rowL, ha])), h.pgs.nc⟩, ⟨q1, c1.only ob (hbb _ (by simp)) (hbb _ (by simp))⟩, ⟨q, hc.only ob (hnb _ (by simp)) (hnb _ (by simp))⟩, hmk.only ob (fun j hj => hnb j (by simp [hj])), fun _ => Iff.rfl, ?_, ?_, fun j hj => Nat.lt_of_lt_of_le (h.rowlt j hj) ob.2.2.2.1, ⟨h.ok.size, h.ok.blocks, h.ok.fits, h.ok.held, hl, hlm⟩⟩
  · rw [List.Perm.nodup_iff (spOwn_perm b hb hr nb' nr' x m'), List.nodup_append]
    exact ⟨p1, hnd, fun a ha c hc e => (hne c hc).1 (e ▸ ha)⟩
  · intro k hk
    rcases List.mem_append.1 ((spOwn_perm b hb hr nb' nr' x m').mem_iff.1 hk) with e | e
    · exact hap k ((spOwn_perm b hb hr nb nr x m).mem_iff.2 (List.mem_append_left _ e))
    · exact (hne k e).2
theorem SpM.sub (h : SpM w b db S F Fd x hb hr nb nr m) {nb' nr' : Nat} {m' : MkL} (hs : ∀ k ∈ nb' :: nr' :: mkBl m', k ∈ nb :: nr :: mkBl m ∨ w.heap.size ≤ k) : (∀ k ∈ nb' :: nr' :: mkBl m', k ∉ b :: hb :: hr :: rowL x ∧ ¬ Fd k) ∧ ∀ k, (Fd k ∨ k ∈ spOwn b hb hr nb' nr' x m') → F k ∨ w.heap.size ≤ k := by
  obtain ⟨p1, p2, p3⟩ := h.parts
  have hlt := h.lt
  refine ⟨fun k hk => ?_, fun k hk => ?_⟩
  · rcases hs k hk with e | e
    · exact ⟨p3 k e, h.apart k ((spOwn_perm b hb hr nb nr x m).mem_iff.2 (List.mem_append_right _ e))⟩
    · refine ⟨fun hm => ?_, fun hf => ?_⟩
      · have := hlt k ((h.own k).2 (.inr ((spOwn_perm b hb hr nb nr x m).mem_iff.2 (List.mem_append_left _ hm))))
        omega
      · have := hlt k ((h.own k).2 (.inl hf))
        omega
  · rcases hk with hk | hk
    · exact .inl ((h.own k).2 (.inl hk))
    · rcases List.mem_append.1 ((spOwn_perm b hb hr nb' nr' x m').mem_iff.1 hk) with e | e
      · exact .inl ((h.own k).2 (.inr ((spOwn_perm b hb hr nb nr x m).mem_iff.2 (List.mem_append_left _ e))))
      · rcases hs k e with e | e
        · exact .inl ((h.own k).2 (.inr ((spOwn_perm b hb hr nb nr x m).mem_iff.2 (List.mem_append_right _ e))))
        · exact .inr e
theorem SpM.bF (h : SpM w b db S F Fd x hb hr nb nr m) : F b := (h.own b).2 (.inr (by simp [spOwn]))
theorem MkAt.ptr {w : World} {size : Int} {m : MkL} {l : Option (List Nat)} (h : MkAt w size m l) : (mkPt m).isNone = l.isNone := by
  cases m <;> cases l <;> first | rfl | exact h.elim
theorem abort_calls (h : SpM w b db S F Fd x hb hr nb nr m) :
    Calls Tryz.prog 32 #[.pointer (some ⟨b, 0, none⟩)] w (Ret fun v w' => v = .int .i64 0 ∧ StepS w b db F { S with now := S.held, mark := none } w') := by
  apply calls32
  unfold S32
  obtain ⟨t, hbx⟩ := h.box
  obtain ⟨q1, c1⟩ := h.heldC
  refine splitW_f (by rfl) (ptr_i (boxE (l := .ptr) 7 (some ⟨hb, 0, none⟩) hbx (by rfl) (by rfl) ?_))
  refine callW_of (cntclone_calls c1) ?_
  rintro _ w1 ⟨⟨b2, r2, q2, rfl, hc1, hb2, hr2⟩, he1⟩
  refine ⟨some ⟨b2, 0, none⟩, rfl, ?_⟩
  have h1 := h.ext he1
  refine ptr_i (stE (hbx.ext he1) (o := 8) (by rfl) (by show 8 < 10; omega) fun w2 hb12 oc2 => ?_)
  refine ptr_i (stE hb12 (o := 9) (by rfl) (by show 9 < 10; omega) fun w3 hb13 oc3 => ?_)
  have ob : Only (fun k => k = b) w1 w3 := Only.trans oc2 oc3 (fun j hj => .inl hj)
  have hs := h1.sub (nb' := b2) (nr' := r2) (m' := none)
  obtain ⟨s1, s2⟩ := h.sub (nb' := b2) (nr' := r2) (m' := none) (fun k hk => by
    simp only [mkBl, List.mem_cons, List.not_mem_nil, or_false] at hk
    rcases hk with rfl | rfl
    · exact .inr hb2
    · exact .inr hr2)
  have hm := h1.remake ob (nb' := b2) (nr' := r2) (m' := none) (mark' := none) hb13 ⟨q2, hc1⟩ trivial s1 (by simp [mkBl]; exact hc1.ne) h.ok.held (fun l hl => by cases hl)
  exact ⟨rfl, _, hm.toAt, s2, Only.trans (Only.of_ext (F := F) he1) ob (fun j hj => .inl (by rw [show j = b from hj]; exact h.bF))⟩
theorem mark_calls (h : SpM w b db S F Fd x hb hr nb nr m) (hm : S.mark = none) :
    Calls Tryz.prog 64 #[.pointer (some ⟨b, 0, none⟩)] w (Ret fun v w' => v = .int .i64 0 ∧ StepS w b db F { S with mark := some S.now } w') := by
  apply calls64
  unfold S64
  obtain ⟨t, hbx⟩ := h.box
  obtain ⟨q1, c1⟩ := h.nowC
  have hmp := h.markC.ptr
  rw [hm] at hmp
  refine splitW_f (by rfl) (ptr_i (boxE (l := .ptr) 9 (mkPt m) hbx (by rfl) (by rfl) ?_))
  refine splitW_f (by rw [hmp]; rfl) ?_
  refine ptr_i (boxE (l := .ptr) 8 (some ⟨nb, 0, none⟩) hbx (by rfl) (by rfl) ?_)
  refine callW_of (cntclone_calls c1) ?_
  rintro _ w1 ⟨⟨b2, r2, q2, rfl, hc1, hb2, hr2⟩, he1⟩
  refine ⟨some ⟨b2, 0, none⟩, rfl, ?_⟩
  have h1 := h.ext he1
  refine ptr_i (stE (hbx.ext he1) (o := 9) (by rfl) (by show 9 < 10; omega) fun w3 hb13 ob => ?_)
  obtain ⟨s1, s2⟩ := h.sub (nb' := nb) (nr' := nr) (m' := some (b2, r2)) (fun k hk => by
    simp only [mkBl, List.mem_cons, List.not_mem_nil, or_false] at hk
    rcases hk with rfl | rfl | rfl | rfl
    · exact .inl (by simp)
    · exact .inl (by simp)
    · exact .inr hb2
    · exact .inr hr2)
  have hnb := h.lt nb ((h.own nb).2 (.inr (by simp [spOwn])))
  have hnr := h.lt nr ((h.own nr).2 (.inr (by simp [spOwn])))
  have hm := h1.remake ob (nb' := nb) (nr' := nr) (m' := some (b2, r2)) (mark' := some S.now) hb13 ⟨q1, c1.ext he1⟩ ⟨q2, hc1⟩ s1 (by
    have := c1.ne
    have := hc1.ne
    simp only [mkBl, List.nodup_cons, List.mem_cons, List.not_mem_nil, or_false, not_or, not_false_eq_true, List.nodup_nil, and_true]
    omega) h.ok.now (fun l hl => by cases hl; exact h.ok.now)
  exact ⟨rfl, _, hm.toAt, s2, Only.trans (Only.of_ext (F := F) he1) ob (fun j hj => .inl (by rw [show j = b from hj]; exact h.bF))⟩
theorem sback_calls (h : SpM w b db S F Fd x hb hr nb nr m) {l : List Nat} (hm : S.mark = some l) :
    Calls Tryz.prog 65 #[.pointer (some ⟨b, 0, none⟩)] w (Ret fun v w' => v = .int .i64 0 ∧ StepS w b db F { S with now := l, mark := none } w') := by
  apply calls65
  unfold S65
  obtain ⟨t, hbx⟩ := h.box
  have hmk := h.markC
  have hl := h.ok.mark l hm
  rw [hm] at hmk
  cases m with
  | none => exact hmk.elim
  | some a =>
    obtain ⟨q, hc⟩ := hmk
    refine splitW_f (by rfl) (ptr_i (boxE (l := .ptr) 9 (some ⟨a.1, 0, none⟩) hbx (by rfl) (by rfl) ?_))
    refine splitW_f (by rfl) ?_
    refine ptr_i (boxE (l := .ptr) 9 (some ⟨a.1, 0, none⟩) hbx (by rfl) (by rfl) ?_)
    refine ptr_i (stE hbx (o := 8) (by rfl) (by show 8 < 10; omega) fun w2 hb12 oc2 => ?_)
    refine ptr_i (stE hb12 (o := 9) (by rfl) (by show 9 < 10; omega) fun w3 hb13 oc3 => ?_)
    have ob : Only (fun k => k = b) w w3 := Only.trans oc2 oc3 (fun j hj => .inl hj)
    obtain ⟨s1, s2⟩ := h.sub (nb' := a.1) (nr' := a.2) (m' := none) (fun k hk => by
      simp only [mkBl, List.mem_cons, List.not_mem_nil, or_false] at hk
      rcases hk with rfl | rfl <;> exact .inl (by simp [mkBl]))
    have hm := h.remake ob (nb' := a.1) (nr' := a.2) (m' := none) (mark' := none) hb13 ⟨q, hc⟩ trivial s1 (by simp [mkBl]; exact hc.ne) hl (fun l hl => by cases hl)
    exact ⟨rfl, _, hm.toAt, s2, ob.mono (fun j hj => by rw [show j = b from hj]; exact h.bF)⟩
theorem sdone_calls (h : SpM w b db S F Fd x hb hr nb nr m) {l : List Nat} (hm : S.mark = some l) :
    Calls Tryz.prog 66 #[.pointer (some ⟨b, 0, none⟩)] w (Ret fun v w' => v = .int .i64 0 ∧ StepS w b db F { S with mark := none } w') := by
  apply calls66
  unfold S66
  obtain ⟨t, hbx⟩ := h.box
  obtain ⟨q1, c1⟩ := h.nowC
  have hmp := h.markC.ptr
  rw [hm] at hmp
  refine splitW_f (by rfl) (ptr_i (boxE (l := .ptr) 9 (mkPt m) hbx (by rfl) (by rfl) ?_))
  refine splitW_f (by rw [hmp]; rfl) ?_
  refine ptr_i (stE hbx (o := 9) (by rfl) (by show 9 < 10; omega) fun w3 hb13 ob => ?_)
  obtain ⟨s1, s2⟩ := h.sub (nb' := nb) (nr' := nr) (m' := none) (fun k hk => by
    simp only [mkBl, List.mem_cons, List.not_mem_nil, or_false] at hk
    rcases hk with rfl | rfl <;> exact .inl (by simp))
  have hm := h.remake ob (nb' := nb) (nr' := nr) (m' := none) (mark' := none) hb13 ⟨q1, c1⟩ trivial s1 (by simp [mkBl]; exact c1.ne) h.ok.now (fun l hl => by cases hl)
  exact ⟨rfl, _, hm.toAt, s2, ob.mono (fun j hj => by rw [show j = b from hj]; exact h.bF)⟩
theorem gen_calls (h : SpM w b db S F Fd x hb hr nb nr m) :
    Calls Tryz.prog 9 #[.pointer (some ⟨b, 0, none⟩)] w (Ret fun v w' => v = .int .u64 (S.sup.gen : Int) ∧ w' = w) := by
  apply calls9
  unfold S9
  obtain ⟨t, hbx⟩ := h.box
  exact splitW_f (by rfl) (ptr_i (boxE (l := .int .u64) 1 (S.sup.gen : Int) hbx (by rfl) (by rfl) ⟨rfl, rfl⟩))
end Go.Proofs.YtjdmggaeagnolaaGreatDoor.V
/- Great spaces: contracts, short, by the blocks that they own. -/
namespace Go.Proofs.YtjdmggaeagnolaaGreatDoor.V
open Go Go.Proofs Go.RowKit Crc
theorem MW.none_iff {N : Nat} {ps : List Nat} {pg : PgF} {l m : Option (List Nat)} (h : MW N ps pg l m) : (l = none ↔ m = none) := by
  cases l <;> cases m <;> first | exact h.elim | simp
variable {w w' : World} {b db : Nat} {S : Spa} {F : Nat → Prop} {R H : List Nat} {M : Option (List Nat)}
theorem sp_fit (h : SpAt w b db S F) : ∀ n, S.now.getD n 0 < 65536 := by
  obtain ⟨Fd, x, hb, hr, nb, nr, m, h⟩ := h
  exact fun n => (cnt_lt h n).1
theorem sp_free (h : SpAt w b db S F) : Calls Tryz.prog 23 #[.pointer (some ⟨b, 0, none⟩)] w (Ret fun v w' => v = .int .i64 (S.freeN : Int) ∧ Ext w w') := by
  obtain ⟨Fd, x, hb, hr, nb, nr, m, h⟩ := h
  exact freeN_calls h
theorem sp_get (h : SpAt w b db S F) {n : Nat} (hn : n < 4294967296) : Calls Tryz.prog 25 #[.pointer (some ⟨b, 0, none⟩), .int .u32 (n : Int)] w (Ret (PgRet w (S.get n))) := by
  obtain ⟨Fd, x, hb, hr, nb, nr, m, h⟩ := h
  exact getS_calls h hn
theorem sp_root (h : SpAt w b db S F) : Calls Tryz.prog 20 #[.pointer (some ⟨b, 0, none⟩)] w (Ret fun v w' => v = .int .u32 (S.sup.root : Int) ∧ w' = w) := by
  obtain ⟨Fd, x, hb, hr, nb, nr, m, h⟩ := h
  exact root_calls h
def PutR (S S' : Spa) (p : Page) (R H : List Nat) (M : Option (List Nat)) (n : Nat) (e : Int) : Prop :=
  (e = 3 ∧ n = 0 ∧ S' = S ∧ S.room p.2.1.length < (p.2.2.size : Int)) ∨ (e = 9 ∧ n = 0 ∧ S' = S ∧ S.freeN ≤ S.sup.pages.length) ∨ (e = 0 ∧ PutOk S S' p n ∧ Great S' (n :: R) H M ∧ (∀ q ∈ S'.dev.pen, q ∈ S.dev.pen ∨ q.1 = (n : Int)) ∧ S.sup.pages.length < S.freeN)
theorem put_pen {S : Spa} {p : Page} (h : (S.put p).2.2 = 0) : ∀ q ∈ (S.put p).1.dev.pen, q ∈ S.dev.pen ∨ q.1 = ((S.put p).2.1 : Int) := by
  revert h
  unfold Spa.put
  split
  · rename_i hq
    intro h
    exact absurd h hq
  · split
    · rename_i _ hq
      intro h
      exact absurd h hq
    · split
      · rename_i _ _ hq
        intro h
        exact absurd h hq
      · intro _ q hq
        revert hq
        dsimp only
        unfold writeF
        split
        · exact fun hq => .inl hq
        · unfold Dev.write
          split
          · exact fun hq => .inl hq
          · split
            · exact fun hq => .inl hq
            · intro hq
              rcases List.mem_append.1 hq with e | e
              · exact .inl e
              · rw [List.mem_singleton.1 e]
                exact .inr rfl
theorem sp_put (h : SpAt w b db S F) {p : Page} {A : Option Addr} {n c : Nat} (hg : Great S (p.2.1 ++ R) H M) (hpen : S.dev.pen.length ≤ 900000) (hs : Sli (numE .u32) w A n p.2.1) (hA : ∀ a, A = some a → ¬ F a.block) (ht : 3 ≤ p.1.toNat) (hk : (p.2.1.length : Int) ≤ S.room 0 / 4) (hds : p.2.2.size ≤ 1000000000) :
    Calls Tryz.prog 24 #[.pointer (some ⟨b, 0, none⟩), .agg (pgV p (A, n, c)).toArray] w (Ret fun v w' => ∃ (S' : Spa) (k : Nat) (e : Int), v = .tuple #[.int .u32 (k : Int), .int .i64 e] ∧ PutR S S' p R H M k e ∧ StepS w b db F S' w') := by
  obtain ⟨Fd, x, hb, hr, nb, nr, m, h'⟩ := h
  have hdim := hg.good.dims
  have hN := hdim.n
  have hsz := hdim.size
  have hroom := hdim.room
  have hku : ∀ k ∈ p.2.1, usedC S.sup.pages S.now k = true := fun k hk => hg.good.well.root k (List.mem_append_left _ hk)
  have hr0 : S.room 0 = S.sup.size - 18 := by unfold Spa.room; rw [hroom, if_neg (by omega)]; omega
  refine (putS_calls h' hg.good.h01 (by have := hg.good.gen; omega) (by omega) p hs (fun k hk => by
    have := hg.good.well.lt (hku k hk)
    omega) hA hds).mono (Ret.mono ?_)
  rintro v w' ⟨rfl, hst⟩
  refine ⟨(S.put p).1, (S.put p).2.1, (S.put p).2.2, rfl, ?_, hst⟩
  have c1 : ¬ (p.1.toNat < 3 ∨ p.2.1.length > 65535 ∨ ∃ k ∈ p.2.1, S.asked k = false) := by
    rintro (e | e | ⟨k, hk, e⟩)
    · omega
    · omega
    · rw [(used_asked hg.good (hku k hk)).1] at e; cases e
  have c2 : ¬ ∃ k ∈ p.2.1, S.now.getD k 0 = 0 := by
    rintro ⟨k, hk, e⟩
    exact (used_asked hg.good (hku k hk)).2.1 e
  by_cases hd : (p.2.2.size : Int) ≤ S.room p.2.1.length
  · by_cases hf : S.sup.pages.length < S.freeN
    · obtain ⟨g1, g2, g3⟩ := great_put hg ht hk hd hf
      exact .inr (.inr ⟨g1, g2, g3, put_pen g1, hf⟩)
    · have hE : S.putE p = 9 := by
        unfold Spa.putE
        rw [if_neg c1, if_neg c2, if_neg (by rintro (e | e) <;> omega), if_pos (by omega)]
      have hP : S.put p = (S, 0, 9) := by unfold Spa.put; rw [if_pos (by rw [hE]; decide), hE]
      rw [hP]
      exact .inr (.inl ⟨rfl, rfl, rfl, by omega⟩)
  · have hE : S.putE p = 3 := by
      unfold Spa.putE
      rw [if_neg c1, if_neg c2, if_pos (.inr (by omega))]
    have hP : S.put p = (S, 0, 3) := by unfold Spa.put; rw [if_pos (by rw [hE]; decide), hE]
    rw [hP]
    exact .inl ⟨rfl, rfl, rfl, by omega⟩
theorem sp_drop (h : SpAt w b db S F) {n : Nat} (hg : Great S (n :: R) H M) : Calls Tryz.prog 26 #[.pointer (some ⟨b, 0, none⟩), .int .u32 (n : Int)] w (Ret fun v w' => v = .int .i64 0 ∧ ∃ c' : List Nat, Great { S with now := c' } R H M ∧ StepS w b db F { S with now := c' } w' ∧ Drp S.asked S.page S.now [n] c' 0 ∧ ∀ k, c'.getD k 0 ≤ S.now.getD k 0) := by
  obtain ⟨Fd, x, hb, hr, nb, nr, m, h'⟩ := h
  obtain ⟨c', d1, d2, d3, d4⟩ := drop_good hg.good
  have hu := hg.good.well.root n (by simp)
  have hnN := hg.good.well.lt hu
  have hN := hg.good.dims.n
  refine (drop_calls h' (n := n) (by omega) (c' := c') (e := 0) (fun _ => d1) (fun e => by rw [(used_asked hg.good hu).1] at e; cases e)).mono (Ret.mono ?_)
  rintro v w' ⟨rfl, hS, hO⟩
  exact ⟨rfl, c', hg.less d2 d4, ⟨F, hS.toAt, fun k hk => .inl hk, hO⟩, d1, d4⟩
theorem sp_share (h : SpAt w b db S F) {n : Nat} (hg : Great S R H M) (hu : usedC S.sup.pages S.now n = true) (h6 : S.now.getD n 0 < 65535) :
    Calls Tryz.prog 31 #[.pointer (some ⟨b, 0, none⟩), .int .u32 (n : Int)] w (Ret fun v w' => v = .int .i64 0 ∧ Great { S with now := S.now.set n (S.now.getD n 0 + 1) } (n :: R) H M ∧ StepS w b db F { S with now := S.now.set n (S.now.getD n 0 + 1) } w') := by
  obtain ⟨Fd, x, hb, hr, nb, nr, m, h'⟩ := h
  obtain ⟨s1, s2, s3⟩ := share_good hg.good hu h6
  have hnN := hg.good.well.lt hu
  have hN := hg.good.dims.n
  refine (share_calls h' (n := n) (by omega)).mono (Ret.mono ?_)
  rintro v w' ⟨rfl, hS, hO⟩
  rw [s1]
  rw [s3] at s2 hS
  exact ⟨rfl, hg.more hu s2, F, hS.toAt, fun k hk => .inl hk, hO⟩
structure ComOk (S S' : Spa) (root : Nat) (R : List Nat) : Prop where
  great : Great S' R R none
  sup : S'.sup = S.next root
  now : S'.now = S.comC
  held : S'.held = S.comC
  mark : S'.mark = none
  pen : S'.dev.pen = []
  page : ∀ k, usedC S.sup.pages S.now k = true → S'.page k = S.page k
theorem sp_commit (h : SpAt w b db S F) (hg : Great S R H M) {root : Nat} (hroot : root = 0 ∨ usedC S.sup.pages S.now root = true) (hgen : S.sup.gen + 1 < 1000000000000) (hpen : S.dev.pen.length ≤ 900000) :
    Calls Tryz.prog 15 #[.pointer (some ⟨b, 0, none⟩), .int .u32 (root : Int)] w (Ret fun v w' => v = .int .i64 0 ∧ ComOk S (S.commit root).1 root R ∧ StepS w b db F (S.commit root).1 w') := by
  have hfit := sp_fit h
  obtain ⟨Fd, x, hb, hr, nb, nr, m, h'⟩ := h
  obtain ⟨c1, c2, c3, c4, c5, c6, c7⟩ := great_commit hg hroot hgen hfit
  have hr32 : root < 4294967296 := by
    have := hg.good.dims.n
    rcases hroot with e | e
    · omega
    · have := (used_asked hg.good e).2.2; omega
  refine (commitS_calls h' hg.good.h01 (hg.heldOK.pgsOk hg.good) (by omega) hpen hr32).mono (Ret.mono ?_)
  rintro v w' ⟨rfl, hst⟩
  exact ⟨by rw [c1], ⟨c2, by rw [c1], by rw [c1], by rw [c1], by rw [c1], by rw [c1]; exact c3, c4⟩, hst⟩
theorem sp_open (h : SpAt w b db S F) (hg : Great S R H M) :
    Calls Tryz.prog 10 #[.pointer (some ⟨db, 0, none⟩)] w (Ret fun v w' => ∃ b' F', v = .tuple #[.pointer (some ⟨b', 0, none⟩), .int .i64 0] ∧ SpAt w' b' db { S with now := S.held, mark := none } F' ∧ Ext w w' ∧ w.heap.size ≤ b' ∧ ∀ k, F' k → F k ∨ w.heap.size ≤ k) := by
  obtain ⟨Fd, x, hb, hr, nb, nr, m, h'⟩ := h
  obtain ⟨o1, o2⟩ := great_open hg
  refine (open_calls h'.dev).mono (Ret.mono ?_)
  rintro v w' ⟨he, ⟨hn, _⟩ | ⟨_, b', F', rfl, hS, hb', hF⟩⟩
  · exact absurd o1 hn
  · rw [o2] at hS
    refine ⟨b', F', rfl, hS, he, hb', fun k hk => ?_⟩
    rcases hF k hk with e | e
    · exact .inl ((h'.own k).2 (.inl e))
    · exact .inr e
theorem sp_abort (h : SpAt w b db S F) : Calls Tryz.prog 32 #[.pointer (some ⟨b, 0, none⟩)] w (Ret fun v w' => v = .int .i64 0 ∧ StepS w b db F { S with now := S.held, mark := none } w') := by
  obtain ⟨Fd, x, hb, hr, nb, nr, m, h'⟩ := h
  exact abort_calls h'
theorem sp_mark (h : SpAt w b db S F) (hm : S.mark = none) : Calls Tryz.prog 64 #[.pointer (some ⟨b, 0, none⟩)] w (Ret fun v w' => v = .int .i64 0 ∧ StepS w b db F { S with mark := some S.now } w') := by
  obtain ⟨Fd, x, hb, hr, nb, nr, m, h'⟩ := h
  exact mark_calls h' hm
theorem sp_back (h : SpAt w b db S F) {l : List Nat} (hm : S.mark = some l) : Calls Tryz.prog 65 #[.pointer (some ⟨b, 0, none⟩)] w (Ret fun v w' => v = .int .i64 0 ∧ StepS w b db F { S with now := l, mark := none } w') := by
  obtain ⟨Fd, x, hb, hr, nb, nr, m, h'⟩ := h
  exact sback_calls h' hm
theorem sp_done (h : SpAt w b db S F) {l : List Nat} (hm : S.mark = some l) : Calls Tryz.prog 66 #[.pointer (some ⟨b, 0, none⟩)] w (Ret fun v w' => v = .int .i64 0 ∧ StepS w b db F { S with mark := none } w') := by
  obtain ⟨Fd, x, hb, hr, nb, nr, m, h'⟩ := h
  exact sdone_calls h' hm
end Go.Proofs.YtjdmggaeagnolaaGreatDoor.V
/- Acts that came in, opened. -/
namespace Go.Proofs.YtjdmggaeagnolaaGreatDoor.V
open Go Go.ChangeShapes Go.WideShapes Go.ChangeAt Go.RowKit Go.Deep Go.Proofs Crc
theorem n_u8 {z : Int} (h : (Lit.int .u8 z).wf = true) : ∃ y : UInt8, z = (y.toNat : Int) := by
  have := nat_u8 h
  exact ⟨UInt8.ofNat z.toNat, by rw [UInt8.toNat_ofNat']; omega⟩
abbrev ActV := Int × UInt8 × Int × Int × ByteArray
def actE : Enc ActV where
  k := 5
  f a := [.int .i64 a.1, .int .u8 (a.2.1.toNat : Int), .int .i64 a.2.2.1, .int .i64 a.2.2.2.1, .string a.2.2.2.2]
  len _ := rfl
  one _ := by
    intro v hv
    simp only [List.mem_cons, List.not_mem_nil, or_false] at hv
    rcases hv with rfl | rfl | rfl | rfl | rfl <;> rfl
  pos := by decide
def I64 (z : Int) : Prop := -9223372036854775808 ≤ z ∧ z < 9223372036854775808
def actQ (a : ActV) : Prop := I64 a.1 ∧ I64 a.2.2.1 ∧ I64 a.2.2.2.1 ∧ a.2.2.2.2.size ≤ 9223372036854775807
section
variable {H : Type} {enc : TypeId × Value → H} {w : World} {base : Nat} {spare : Nat → Bool} {held : Bool}
theorem dec_act {n : Nat} {cs : List Value} {x : DataW H × List MemPlace} (h : DataW.trod enc Tryz.prog w base spare held n 36 cs = some x) : ∃ a : ActV, actE.f a = cs ∧ actQ a := by
  obtain ⟨hl, m, hf2⟩ := dec_fields (ts := [3, 5, 3, 3, 9]) (by kernel_rfl) (by kernel_rfl) (by kernel_rfl) (by kernel_rfl) h
  obtain ⟨v0, y0, e0, h0⟩ := hf2 0 _ rfl
  obtain ⟨v1, y1, e1, h1⟩ := hf2 1 _ rfl
  obtain ⟨v2, y2, e2, h2⟩ := hf2 2 _ rfl
  obtain ⟨v3, y3, e3, h3⟩ := hf2 3 _ rfl
  obtain ⟨v4, y4, e4, h4⟩ := hf2 4 _ rfl
  obtain ⟨z0, hz0, hw0⟩ := dec_int (k := .i64) (by kernel_rfl) h0
  obtain ⟨z1, hz1, hw1⟩ := dec_int (k := .u8) (by kernel_rfl) h1
  obtain ⟨z2, hz2, hw2⟩ := dec_int (k := .i64) (by kernel_rfl) h2
  obtain ⟨z3, hz3, hw3⟩ := dec_int (k := .i64) (by kernel_rfl) h3
  obtain ⟨s, hs, hsl⟩ := dec_string (by kernel_rfl) h4
  obtain ⟨u, rfl⟩ := n_u8 hw1
  cases hz0; cases hz1; cases hz2; cases hz3; cases hs
  refine ⟨(z0, u, z2, z3, s), ?_, nat_i64 hw0, nat_i64 hw2, nat_i64 hw3, by simpa [maxLen] using hsl⟩
  match cs, hl with
  | [a0, a1, a2, a3, a4], _ =>
    simp only [List.getElem?_cons_zero, List.getElem?_cons_succ, Option.some.injEq] at e0 e1 e2 e3 e4
    rw [e0, e1, e2, e3, e4]
    rfl
end
end Go.Proofs.YtjdmggaeagnolaaGreatDoor.V
/- Contracts of the package device: Rot. -/
namespace Go.Proofs.YtjdmggaeagnolaaGreatDoor.V
open Go Go.Proofs Go.RowKit Crc
end Go.Proofs.YtjdmggaeagnolaaGreatDoor.V
/- Contracts of the package device: sectors, an iterator with a state of its own. -/
namespace Go.Proofs.YtjdmggaeagnolaaGreatDoor.V
open Go Go.Proofs Go.RowKit Crc
def DeB (w : World) : Prop := ∀ j, j < 64 → w.cell? ⟨0, j, none⟩ = some (.int .u8 (Lib.deBruijn64tab.getD j 0 : Nat))
theorem DeB.ext {w w' : World} (h : DeB w) (he : Ext w w') : DeB w' := fun j hj => he.cell (h j hj)
def ctz (m : Nat) : Nat := Lib.ctz 64 m
theorem ctz_spec {m : Nat} (h0 : m ≠ 0) (h : m < 18446744073709551616) : ∃ q, m = 2 ^ ctz m * (2 * q + 1) ∧ ctz m < 64 := by
  have := Lib.ctzFrom_spec 64 m (by omega) (by omega)
  unfold ctz Lib.ctz
  rw [if_neg h0]
  exact this
theorem low_bit {m : Nat} (h0 : m ≠ 0) (h : m < 18446744073709551616) (j : Nat) : (m &&& (m - 1)).testBit j = (m.testBit j && decide (j ≠ ctz m)) := by
  obtain ⟨q, e, hk⟩ := ctz_spec h0 h
  generalize ctz m = k at e hk ⊢
  have hp : 0 < 2 ^ k := Nat.two_pow_pos k
  have e1 : m = 2 ^ k * (2 * q + 1) + 0 := by omega
  have e2 : m - 1 = 2 ^ k * (2 * q) + (2 ^ k - 1) := by rw [e, Nat.mul_add]; omega
  have t1 : m.testBit j = if j < k then Nat.testBit 0 j else (2 * q + 1).testBit (j - k) := by rw [e1, Nat.testBit_two_pow_mul_add _ hp]
  have t2 : (m - 1).testBit j = if j < k then (2 ^ k - 1).testBit j else (2 * q).testBit (j - k) := by rw [e2, Nat.testBit_two_pow_mul_add _ (by omega)]
  rw [Nat.testBit_and, t1, t2]
  by_cases hj : j < k
  · rw [if_pos hj]; simp
  · rw [if_neg hj, if_neg hj]
    by_cases hjk : j = k
    · subst hjk
      simp
    · rw [decide_eq_true hjk, Bool.and_true]
      obtain ⟨t, ht⟩ : ∃ t, j - k = t + 1 := ⟨j - k - 1, by omega⟩
      rw [ht, Nat.testBit_succ, Nat.testBit_succ, show (2 * q + 1) / 2 = q by omega, show (2 * q) / 2 = q by omega, Bool.and_self]
theorem ctz_bit {m : Nat} (h0 : m ≠ 0) (h : m < 18446744073709551616) : m.testBit (ctz m) = true := by
  obtain ⟨q, e, hk⟩ := ctz_spec h0 h
  generalize ctz m = k at e hk ⊢
  have hp : 0 < 2 ^ k := Nat.two_pow_pos k
  have e1 : m = 2 ^ k * (2 * q + 1) + 0 := by omega
  rw [e1, Nat.testBit_two_pow_mul_add _ hp, if_neg (by omega), Nat.sub_self]
  simp
theorem low_lt {m : Nat} (h : m ≠ 0) : m &&& (m - 1) < m := by
  have := Nat.and_le_right (n := m) (m := m - 1)
  omega
def secM : Nat → Nat → Nat
  | 0, m => m
  | i + 1, m => secM i (m &&& (m - 1))
theorem secM_succ : ∀ (i m : Nat), secM (i + 1) m = secM i m &&& (secM i m - 1)
  | 0, m => rfl
  | i + 1, m => by rw [secM, secM_succ i]; rfl
theorem secM_le : ∀ (i m : Nat), secM i m ≤ m
  | 0, m => Nat.le_refl m
  | i + 1, m => by
    rw [secM_succ]
    exact Nat.le_trans Nat.and_le_left (secM_le i m)
def secL (m : Nat) : List Nat := if h : m = 0 then [] else ctz m :: secL (m &&& (m - 1))
termination_by m
decreasing_by exact low_lt h
theorem secL_zero : secL 0 = [] := by rw [secL]; rfl
theorem secL_cons {m : Nat} (h : m ≠ 0) : secL m = ctz m :: secL (m &&& (m - 1)) := by rw [secL, dif_neg h]
theorem sec_get (m : Nat) : ∀ i, i < (secL m).length → (secL m)[i]? = some (ctz (secM i m)) ∧ secM i m ≠ 0 := by
  induction m using Nat.strongRecOn with
  | _ m ih =>
    intro i hi
    by_cases h : m = 0
    · subst h
      rw [secL_zero] at hi
      simp at hi
    · rw [secL_cons h] at hi ⊢
      cases i with
      | zero => exact ⟨rfl, h⟩
      | succ i => exact ih _ (low_lt h) i (by simpa using hi)
theorem sec_end (m : Nat) : secM (secL m).length m = 0 := by
  induction m using Nat.strongRecOn with
  | _ m ih =>
    by_cases h : m = 0
    · subst h
      rw [secL_zero]
      rfl
    · rw [secL_cons h]
      exact ih _ (low_lt h)
theorem tz_idx (m a : Nat) (h0 : m ≠ 0) (h : m < 18446744073709551616) (hlow : m &&& (18446744073709551616 - m) = a) :
    ishr .u64 (IntKind.wrap .u64 (iand .u64 (m : Int) (IntKind.wrap .u64 (0 - (m : Int))) * 285870213051353865)) 58 = ((a * 285870213051353865 % 18446744073709551616 / 288230376151711744 : Nat) : Int) := by
  have hneg : IntKind.wrap .u64 (0 - (m : Int)) = ((18446744073709551616 - m : Nat) : Int) := by rw [wrap_u64]; omega
  rw [hneg, iand_nat (by rfl) (show m < 2 ^ 64 by omega) (show 18446744073709551616 - m < 2 ^ 64 by omega), hlow, wrap_u64]
  have e : (a : Int) * 285870213051353865 % 18446744073709551616 = ((a * 285870213051353865 % 18446744073709551616 : Nat) : Int) := by omega
  rw [e]
  generalize a * 285870213051353865 % 18446744073709551616 = q
  exact ishr_nat .u64 q 58 (by decide)
theorem tz_calls (w : World) (m : Nat) (h0 : m ≠ 0) (h : m < 18446744073709551616) (hT : DeB w) :
    Calls Tryz.prog 86 #[.int .u64 (m : Int)] w (Ret fun v w' => v = .int .i64 (ctz m : Nat) ∧ w' = w) := by
  apply calls86
  unfold S86
  obtain ⟨hlow, hk⟩ := Lib.lowest_bit 64 m h0 (by omega)
  obtain ⟨hi, htab⟩ := Lib.deBruijn64_at _ hk
  rw [tz_idx m _ h0 h hlow]
  generalize 2 ^ Lib.ctz 64 m * 285870213051353865 % 18446744073709551616 / 288230376151711744 = idx at hi htab ⊢
  refine splitW_f (beq_eq_false_iff_ne.2 (by omega)) ?_
  refine guard_i ⟨by omega, by omega⟩ ?_
  rw [Int.toNat_natCast, Nat.mul_one]
  have hc : ctz m < 64 := hk
  refine ld_i (l := .int .u8) (x := ((ctz m : Nat) : Int)) ?_ ?_
  · rw [add_mk, Nat.zero_add, hT _ hi, htab]
    rfl
  · exact ⟨by rw [wrap_i64 (by omega) (by omega)], rfl⟩
def RSec (r m : Nat) (i : Nat) : WP := fun w => Blk w r [.int .u64 (secM i m : Nat)] 37 ∧ DeB w
def TSec (r m : Nat) (i : Nat) (w : World) : World := w.setCell ⟨r, 0, none⟩ (.int .u64 (secM (i + 1) m : Nat))
def secV (m : Nat) : List (List Value) := (secL m).map fun k => [.int .i64 (k : Nat)]
theorem sectors_calls {w : World} {m : Nat} (hm : m < 18446744073709551616) (hT : DeB w) :
    Calls Tryz.prog 49 #[.int .u64 (m : Int)] w (Ret fun v w' => ∃ r, IterT Tryz.prog v (secV m) (RSec r m) (TSec r m) ∧ RSec r m 0 w' ∧ r = w.heap.size ∧ w'.heap.size = r + 1 ∧ Ext w w') := by
  apply calls49
  unfold S49
  refine new_i fun r w1 hb1 he1 hr1 hz1 => ?_
  refine ⟨r, ⟨_, _, rfl, by kernel_rfl, fun l J E w' hJ hR hd hY => ?_⟩, ⟨hb1, hT.ext he1⟩, hr1.symm, hz1, he1⟩
  apply calls85
  unfold S85
  have hlen : (secV m).length = (secL m).length := by simp [secV]
  rw [hlen]
  refine ⟨fun _ w' => ∃ i, i ≤ (secL m).length ∧ J i w', fun _ w' => match w'.cell? ⟨r, 0, none⟩ with | some (.int _ n) => n.toNat | _ => 0, ⟨0, Nat.zero_le _, hJ⟩, ?_⟩
  rintro _ w2 ⟨i, hi, hJ⟩
  have hR2 := hR i w2 hJ
  have hle := secM_le i m
  refine ldW_blk (x := ((secM i m : Nat) : Int)) hR2.1 (by rfl) ?_
  by_cases hlt : i < (secL m).length
  · obtain ⟨hget, hne⟩ := sec_get m i hlt
    refine splitW_t (bne_iff_ne.2 (by omega)) ?_
    refine ldW_blk (x := ((secM i m : Nat) : Int)) hR2.1 (by rfl) ?_
    refine callW_of (tz_calls w2 (secM i m) hne (by omega) hR2.2) ?_
    rintro _ w3 ⟨rfl, hw⟩
    refine ⟨_, rfl, ?_⟩
    obtain rfl : w2 = w3 := hw.symm
    refine .inr ⟨l, rfl, ?_⟩
    have hy := hY i w2 (by omega) hJ
    have el : (secV m)[i]'(by omega) = [.int .i64 (ctz (secM i m) : Nat)] := by
      have : (secV m)[i]? = some [.int .i64 (ctz (secM i m) : Nat)] := by unfold secV; rw [List.getElem?_map, hget]; rfl
      exact (List.getElem?_eq_some_iff.1 this).2
    rw [el] at hy
    obtain ⟨fn, tmps, asg, bd, hy1, hy2⟩ := hy
    refine ⟨fn, tmps, asg, bd, hy1, RoundIn.mono hy2 ?_⟩
    rintro (v | x | _) w4 hv
    · rcases hv with ⟨rfl, hR4, hJ4⟩ | ⟨rfl, hE⟩
      · refine ⟨true, rfl, splitW_f (by rfl) ?_⟩
        refine ldW_blk (x := ((secM i m : Nat) : Int)) hR4.1 (by rfl) (ldW_blk (x := ((secM i m : Nat) : Int)) hR4.1 (by rfl) ?_)
        have e : iand .u64 ((secM i m : Nat) : Int) (IntKind.wrap .u64 (((secM i m : Nat) : Int) - 1)) = ((secM (i + 1) m : Nat) : Int) := by
          have e1 : IntKind.wrap .u64 (((secM i m : Nat) : Int) - 1) = ((secM i m - 1 : Nat) : Int) := by rw [wrap_u64]; omega
          rw [e1, iand_nat (by rfl) (by show _ < 2 ^ 64; omega) (by show _ < 2 ^ 64; omega), secM_succ]
        rw [e]
        refine stW_blk hR4.1 (by show 0 < 1; omega) ?_
        refine ⟨⟨i + 1, hlt, hJ4⟩, ?_⟩
        have h5 := (hR (i + 1) _ hJ4).1
        have c5 : (w4.setCell ⟨r, 0, none⟩ (.int .u64 (secM (i + 1) m : Nat))).cell? ⟨r, 0, none⟩ = some (.int .u64 (secM (i + 1) m : Nat)) := by
          have := h5.cell 0
          exact this
        have c2 : w2.cell? ⟨r, 0, none⟩ = some (.int .u64 (secM i m : Nat)) := hR2.1.cell 0
        dsimp only
        rw [c5, c2]
        simp only [Int.toNat_natCast]
        rw [secM_succ]
        exact low_lt hne
      · exact ⟨false, rfl, splitW_t (by rfl) (.inr hE)⟩
    · exact hv
    · exact hv
  · obtain rfl : i = (secL m).length := by omega
    have hz := sec_end m
    rw [hz]
    exact splitW_f (by rfl) (.inl hJ)
end Go.Proofs.YtjdmggaeagnolaaGreatDoor.V
/- Contracts of the package device: Crash. -/
namespace Go.Proofs.YtjdmggaeagnolaaGreatDoor.V
open Go Go.Proofs Go.RowKit Crc
def mixS (old new : List UInt8) (p : Nat → Bool) : List UInt8 := (List.range old.length).map fun i => if p (i / 64) then new.getD i 0 else old.getD i 0
theorem mixS_length (old new : List UInt8) (p : Nat → Bool) : (mixS old new p).length = old.length := by simp [mixS]
theorem mixS_get {old new : List UInt8} {p : Nat → Bool} {i : Nat} (h : i < old.length) : (mixS old new p)[i]? = some (if p (i / 64) then new.getD i 0 else old.getD i 0) := by
  unfold mixS
  rw [List.getElem?_map, List.getElem?_range h]
  rfl
theorem mixS_none {old new : List UInt8} {p : Nat → Bool} (h : ∀ j, j * 64 < old.length → p j = false) : mixS old new p = old := by
  apply List.ext_getElem?
  intro i
  by_cases hi : i < old.length
  · rw [mixS_get hi, h _ (by omega)]
    simp [hi]
  · rw [List.getElem?_eq_none (by rw [mixS_length]; omega), List.getElem?_eq_none (by omega)]
theorem mix_copy {old new : List UInt8} {p : Nat → Bool} {k : Nat} (hn : new.length = old.length) (hk : k * 64 + 64 ≤ old.length) :
    (mixS old new p).take (k * 64) ++ (new.drop (k * 64)).take 64 ++ (mixS old new p).drop (k * 64 + 64) = mixS old new (fun j => p j || decide (j = k)) := by
  have hl := mixS_length old new p
  apply List.ext_getElem?
  intro i
  by_cases h1 : i < old.length
  · rw [mixS_get h1]
    by_cases h2 : i < k * 64
    · rw [List.append_assoc, List.getElem?_append_left (by rw [List.length_take]; omega), List.getElem?_take, if_pos h2, mixS_get h1, decide_eq_false (by omega), Bool.or_false]
    · by_cases h3 : i < k * 64 + 64
      · rw [List.append_assoc, List.getElem?_append_right (by rw [List.length_take]; omega), List.length_take, List.getElem?_append_left (by simp; omega), List.getElem?_take, if_pos (by omega), List.getElem?_drop, show k * 64 + (i - min (k * 64) (mixS old new p).length) = i by omega,
          decide_eq_true (by omega), Bool.or_true, if_pos rfl, List.getD_eq_getElem?_getD, List.getElem?_eq_getElem (by omega)]
        rfl
      · rw [List.getElem?_append_right (by simp; omega), List.getElem?_drop, show k * 64 + 64 + (i - ((mixS old new p).take (k * 64) ++ (new.drop (k * 64)).take 64).length) = i by simp; omega, mixS_get h1, decide_eq_false (by omega), Bool.or_false]
  · rw [List.getElem?_eq_none (by simp; omega), List.getElem?_eq_none (by rw [mixS_length]; omega)]
def pickE : Enc (Int × Nat) where
  k := 2
  f x := [.int .i64 x.1, .int .u64 (x.2 : Int)]
  len _ := rfl
  one _ := by
    intro v hv
    simp only [List.mem_cons, List.not_mem_nil, or_false] at hv
    rcases hv with rfl | rfl <;> rfl
  pos := by decide
def Dev.secs (d : Dev) : Nat := d.size.toNat / 64
def Dev.pick1 (d : Dev) (p : Int × Nat) : Prop := 0 ≤ p.1 ∧ p.1 < (d.pen.length : Int) ∧ p.2 / 2 ^ d.secs = 0
def Dev.pickOK (d : Dev) (l : List (Int × Nat)) : Prop := (∀ p ∈ l, d.pick1 p) ∧ (l.map (·.1)).Nodup
def applyP (pen : List (Int × ByteArray)) (dur : List ByteArray) (p : Int × Nat) : List ByteArray :=
  dur.set (pen.getD p.1.toNat w00).1.toNat (mkB (mixS (B (dur.getD (pen.getD p.1.toNat w00).1.toNat ByteArray.empty)) (B (pen.getD p.1.toNat w00).2) p.2.testBit))
def Dev.crashed (d : Dev) (l : List (Int × Nat)) : Dev := ⟨d.size, d.blocks, l.foldl (applyP d.pen) d.dur, [], 0, -1⟩
theorem apply_len (pen : List (Int × ByteArray)) : ∀ (l : List (Int × Nat)) (dur : List ByteArray), (l.foldl (applyP pen) dur).length = dur.length
  | [], _ => rfl
  | p :: r, dur => by rw [List.foldl_cons, apply_len pen r]; simp [applyP]
theorem apply_each {n : Int} (pen : List (Int × ByteArray)) : ∀ (l : List (Int × Nat)) (dur : List ByteArray), (∀ s ∈ dur, (s.size : Int) = n) → ∀ s ∈ l.foldl (applyP pen) dur, (s.size : Int) = n
  | [], _, h => h
  | p :: r, dur, h => by
    rw [List.foldl_cons]
    refine apply_each pen r _ (fun s hs => ?_)
    unfold applyP at hs
    generalize (pen.getD p.1.toNat w00).1.toNat = i at hs
    by_cases hi : i < dur.length
    · rcases List.mem_or_eq_of_mem_set hs with hs | rfl
      · exact h s hs
      · rw [mkB_size, mixS_length, ← B_size]
        apply h
        rw [List.getD_eq_getElem?_getD, List.getElem?_eq_getElem hi]
        exact List.getElem_mem _
    · rw [List.set_eq_of_length_le (by omega)] at hs
      exact h s hs
theorem Dev.Ok.crashed {d : Dev} (h : d.Ok) (l : List (Int × Nat)) : (d.crashed l).Ok := by
  refine ⟨h.geo, ?_, apply_each _ _ _ h.each, (fun p hp => by cases hp), (by show (-1 : Int) ≤ -1; omega), (by show (-1 : Int) < 9223372036854775808; omega)⟩
  show (((l.foldl (applyP d.pen) d.dur).length : Nat) : Int) = d.blocks
  rw [apply_len]
  exact h.len
theorem Only.same7 {F : Nat → Prop} {a : Nat} {w0 w w' : World} (h : Only F w0 w) (hs : SameBut a (a + 1) w w') (ha : w0.heap.size ≤ a) : Only F w0 w' := by
  obtain ⟨h1, h2, h3, h4, h5⟩ := h
  obtain ⟨s1, s2, s3, s4, s5⟩ := hs
  exact ⟨s1.trans h1, s2.trans h2, s3.trans h3, by omega, fun k hk hF => (s5 k (by omega) (by omega)).trans (h5 k hk hF)⟩
theorem BlkB.same {a b : Nat} {w w' : World} {cs : List Value} {t : TypeId} (h : BlkB w b cs t) (hs : SameBut a (a + 1) w w') (hb : b < a) : BlkB w' b cs t := (hs.2.2.2.2 b (by omega) (by omega)).trans h
theorem Owni.sameDf {α : Type} {E : Enc α} {e : TypeId} {Bd : Nat} {w w' : World} {B : Nat} {A : Option Addr} {n c : Nat} {xs : List α} (h : Owni E e w B A n c xs) (hs : SameDf Bd w w') : Owni E e w' B A n c xs := by
  refine ⟨h.1, ?_⟩
  rcases h.2 with hn | ⟨g, cap, cur, hv, hb, hgg, rest⟩
  · exact .inl hn
  · exact .inr ⟨g, cap, cur, hv, hb, (hs.2.2.2.2 g (.inr (by rw [hgg]; simp))).trans hgg, rest⟩
theorem DeB.only {F : Nat → Prop} {w w' : World} (h : DeB w) (k : Only F w w') (h0 : ¬ F 0) : DeB w' := fun j hj => by
  have hc := h j hj
  have hlt := World.block_lt_of_cell? w _ hc
  have := k.2.2.2.2 0 hlt h0
  unfold World.cell? at hc ⊢
  rw [this]
  exact hc
theorem Ext.only' {F : Nat → Prop} {a w w' : World} (h : Ext a w) (k : Only F w w') (hF : ∀ j, F j → a.heap.size ≤ j) : Ext a w' := Only.ext h k hF
theorem DeB.pos {w : World} (h : DeB w) : 0 < w.heap.size := World.block_lt_of_cell? w _ (h 0 (by omega))
theorem Only.grow {F : Nat → Prop} {w0 w w' : World} {row : Option Nat} (h : Only F w0 w) (hg : w.grownBy w' row) (hr : ∀ j, row = some j → F j ∨ w0.heap.size ≤ j) : Only F w0 w' :=
  Only.trans h (Only.of_grown (F := fun j => row = some j) hg (fun j hj => .inl hj)) (fun j hj => hr j hj)
theorem Dfs.ge {B : Nat} {w : World} : ∀ {ds : List Deferred}, Dfs B w ds → ∀ d ∈ ds, ∀ r, d.target = .collected r → B ≤ r
  | [], _, d, hd, _, _ => by cases hd
  | d0 :: ds, ⟨r0, h1, hB, h2, _, h4⟩, d, hd, r, hr => by
    rcases List.mem_cons.1 hd with rfl | hd
    · subst h1
      injection hr with hr
      subst hr
      exact hB
    · exact Dfs.ge h4 d hd r hr
theorem secM_bit {m j : Nat} : ∀ i, (secM i m).testBit j = true → m.testBit j = true
  | 0, h => h
  | i + 1, h => by
    rw [secM_succ, Nat.testBit_and, Bool.and_eq_true] at h
    exact secM_bit i h.1
theorem mixB {M X : List UInt8} {rest : List Value} {o : Nat} (h : o + 64 ≤ M.length) : (bV M ++ rest).take o ++ bV X ++ (bV M ++ rest).drop (o + 64) = bV (M.take o ++ X ++ M.drop (o + 64)) ++ rest := by
  rw [List.take_append_of_le_length (by rw [length_bV]; omega), List.drop_append_of_le_length (by rw [length_bV]; omega), bV_take, bV_drop, bV_append, bV_append]
  simp
theorem BlkB.other {w : World} {b : Nat} {cs : List Value} {t : TypeId} (h : BlkB w b cs t) {p : Addr} (hp : p.block ≠ b) (v : Value) : BlkB (w.setCell p v) b cs t := by
  show (w.setCell p v).heap[b]? = _
  rw [Below.heap_setCell _ _ _ _ (Ne.symm hp)]
  exact h
def doneS (m i : Nat) (j : Nat) : Bool := m.testBit j && !(secM i m).testBit j
theorem doneS_zero (m : Nat) : doneS m 0 = fun _ => false := by funext j; simp [doneS, secM]
theorem doneS_end (m : Nat) : doneS m (secL m).length = m.testBit := by funext j; simp [doneS, sec_end]
theorem doneS_succ {m i : Nat} (hm : m < 18446744073709551616) (hi : i < (secL m).length) : (fun j => doneS m i j || decide (j = ctz (secM i m))) = doneS m (i + 1) := by
  funext j
  obtain ⟨_, hne⟩ := sec_get m i hi
  have hle := secM_le i m
  unfold doneS
  rw [secM_succ, low_bit hne (by omega)]
  by_cases hj : j = ctz (secM i m)
  · have h1 := ctz_bit hne (by omega : secM i m < 18446744073709551616)
    rw [← hj] at h1
    have h2 := secM_bit i h1
    simp [hj.symm, h1, h2]
  · simp [hj]
theorem zero_unit (w : World) : (zeroValue 110).run Tryz.prog w = .ok (.agg #[]) w := Tryz.zeroValue110 w
theorem crash_calls {w : World} {b : Nat} {d : Dev} {F : Nat → Prop} (h : DevAt w b d F) {A : Option Addr} {n c : Nat} {l : List (Int × Nat)} (hl : Sli pickE w A n l) (hlm : ∀ p ∈ l, p.2 < 18446744073709551616) (hn : n ≤ 1000000) (hpen : d.pen.length ≤ 1000000) (hT : DeB w) :
    Calls Tryz.prog 18 #[.pointer (some ⟨b, 0, none⟩), .slice A n c] w (Ret fun v w' => (d.pickOK l ∧ ∃ b', v = .tuple #[.pointer (some ⟨b', 0, none⟩), .int .i64 0] ∧ DevNew w (d.crashed l) b' w') ∨ (¬ d.pickOK l ∧ v = .tuple #[.pointer none, .int .i64 2] ∧ Ext w w')) := by
  obtain ⟨Ad, Ap, nd, cd, np, cp, t, hb, hd, hp, hF, h1, h2, h3⟩ := h.mem
  have hdim := h.ok.dims
  have hok := h.ok
  have hdl := hd.len
  have hpl := hp.len
  have hll := hl.len
  have hsec : IntKind.wrap .i64 (Int.tdiv d.size 64) = (d.secs : Int) := by
    unfold Dev.secs
    rw [Int.tdiv_eq_ediv_of_nonneg (by omega), wrap_i64 (by omega) (by omega)]
    omega
  have hs64 : d.secs ≤ 64 := by unfold Dev.secs; omega
  have hssz : d.size.toNat = d.secs * 64 := by unfold Dev.secs; omega
  apply calls18
  unfold S18
  refine splitW_f (by rfl) (makeMap_i fun w1 hm1 he1 hz1 => ?_)
  generalize hrm : w.heap.size = rm at hm1
  refine loopW_i (fun y w' => ∃ i : Nat, i ≤ n ∧ y = (none, 0, (i : Int), ()) ∧ Ext w w' ∧ SetAt w' rm ((l.take i).map (·.1)) ∧ (∀ p ∈ l.take i, d.pick1 p) ∧ ((l.take i).map (·.1)).Nodup) (fun y => (n - y.2.2.1).toNat) ⟨0, by omega, rfl, he1, hm1, (fun p hp => by cases hp), List.nodup_nil⟩ ?_
  rintro _ w2 ⟨i, hi, rfl, he2, hm2, hall, hnd⟩
  dsimp only
  by_cases hlt : i < n
  · refine splitW_t (decide_eq_true (by omega)) ?_
    refine idx_A (ls := [.int .i64, .int .u64]) (fun x : Int × Nat => (x.1, (x.2 : Int), ())) (0, 0) (hl.ext he2) (fun _ => rfl) rfl (by omega) (by omega) ?_
    rw [Int.toNat_natCast]
    have e : l[i]? = some (l.getD i (0, 0)) := by rw [List.getD_eq_getElem?_getD, List.getElem?_eq_getElem (by omega)]; rfl
    have hmem := List.mem_of_getElem? e
    generalize l.getD i (0, 0) = p at e hmem ⊢
    have hp64 := hlm p hmem
    have bad : ∀ w', Ext w w' → ¬ (d.pick1 p ∧ p.1 ∉ (l.take i).map (·.1)) → (d.pickOK l ∧ ∃ b', Value.tuple #[.pointer none, .int .i64 2] = .tuple #[.pointer (some ⟨b', 0, none⟩), .int .i64 0] ∧ DevNew w (d.crashed l) b' w') ∨ (¬ d.pickOK l ∧ Value.tuple #[.pointer none, .int .i64 2] = .tuple #[.pointer none, .int .i64 2] ∧ Ext w w') := fun w' he hno => by
      refine .inr ⟨fun hk => hno ⟨hk.1 p hmem, fun hin => ?_⟩, rfl, he⟩
      have h5 := hk.2
      rw [← List.take_append_drop (i + 1) l, take_snoc e, List.map_append, List.map_append] at h5
      have h6 := (List.nodup_append.1 h5).1
      have h7 := (List.nodup_append.1 h6).2.2 _ hin p.1 (by simp)
      exact h7 rfl
    refine box_i (vs := pickE.f p) (by rfl) (pickE.one p) ?_ (by rfl)
    intro r6 w3 hb6 he3 hr6
    have hx3 := he2.trans he3
    refine ptr_i (box0 d.size (hb.ext hx3) (by rfl) (box0 p.1 hb6 (by rfl) ?_))
    refine lookup_i (kt := 3) (et := 110) (by kernel_rfl) (by kernel_rfl) (zero_unit w3) (hm2.ext he3) ?_
    refine box_i (vs := []) (by rfl) (fun v hv => by cases hv) ?_ (by rfl)
    intro r11 w4 hb11 he4 hr11
    refine draw_i fun w5 he5 _ _ => ?_
    have hx5 := (hx3.trans he4).trans he5
    have hb6 := (hb6.ext he4).ext he5
    have hm5 := ((hm2.ext he3).ext he4).ext he5
    refine box0 p.1 hb6 (by rfl) ?_
    refine splitW_i (fun hz => bad _ hx5 (fun x => by have := of_decide_eq_true hz; have := x.1.1; omega)) (fun hz1 => ?_)
    have hz1 := of_decide_eq_false hz1
    refine box0 p.1 hb6 (by rfl) (ptr_i (boxF 3 (Ap, np, cp) (hb.ext hx5) (by rfl) ?_))
    dsimp only
    refine splitW_i (fun hz => bad _ hx5 (fun x => by have := of_decide_eq_true hz; have := x.1.2.1; omega)) (fun hz2 => ?_)
    have hz2 := of_decide_eq_false hz2
    refine splitW_i (fun hz => bad _ hx5 (fun x => x.2 (of_decide_eq_true hz))) (fun hz3 => ?_)
    have hz3 := of_decide_eq_false hz3
    rw [hsec]
    have next : d.pick1 p → ∀ w6, Ext w w6 → SetAt w6 rm ((l.take i).map (·.1) ++ [p.1]) → (∃ j : Nat, j ≤ n ∧ ((none : Option Addr), (0 : Int), IntKind.wrap .i64 ((i : Int) + 1), ()) = (none, 0, (j : Int), ()) ∧ Ext w w6 ∧ SetAt w6 rm ((l.take j).map (·.1)) ∧ (∀ p ∈ l.take j, d.pick1 p) ∧ ((l.take j).map (·.1)).Nodup) ∧ (n - IntKind.wrap .i64 ((i : Int) + 1)).toNat < ((n : Int) - (i : Int)).toNat := by
      intro hp1 w6 he6 hm6
      refine ⟨⟨i + 1, hlt, by rw [wrap_i64 (by omega) (by omega)]; rfl, he6, ?_, ?_, ?_⟩, by rw [wrap_i64 (by omega) (by omega)]; omega⟩
      · rw [take_snoc e, List.map_append]; exact hm6
      · intro q hq
        rw [take_snoc e] at hq
        rcases List.mem_append.1 hq with hq | hq
        · exact hall q hq
        · rw [List.mem_singleton.1 hq]; exact hp1
      · rw [take_snoc e, List.map_append]
        refine List.nodup_append.2 ⟨hnd, by simp, fun a ha b hb e => hz3 ?_⟩
        rw [List.map_singleton, List.mem_singleton] at hb
        rw [← hb, ← e]; exact ha
    have upd : d.pick1 p → ∀ (K : WP), (∀ w6, Ext w w6 → SetAt w6 rm ((l.take i).map (·.1) ++ [p.1]) → K w6) → runUW Tryz.prog (Instr.mapUpdate 109 (.map (some rm)) (.int .i64 p.1) (.agg #[])) K w5 := by
      intro hp1 K hK
      refine mapUpdate_i (kt := 3) (et := 110) (by kernel_rfl) (by kernel_rfl) hm5 hz3 fun w6 hm6 hg6 => hK w6 (hx5.grown hg6 (fun j hj => by injection hj with hj; omega)) hm6
    by_cases hs : d.secs < 64
    · refine splitW_t (decide_eq_true (by omega)) ?_
      refine boxF 1 (p.2 : Int) hb6 (by rfl) (guard_i (by omega) ?_)
      rw [ishr_nat .u64 _ _ (show d.secs ≤ 64 by omega)]
      refine splitW_i (fun hz => bad _ hx5 (fun x => by have := bne_iff_ne.1 hz; have := x.1.2.2; omega)) (fun hz4 => ?_)
      have hz4 := bne_eq_false_iff_eq.1 hz4
      have hp1 : d.pick1 p := ⟨by omega, by omega, by omega⟩
      refine box0 p.1 hb6 (by rfl) ?_
      exact upd hp1 _ (next hp1)
    · refine splitW_f (decide_eq_false (by omega)) ?_
      have hp1 : d.pick1 p := ⟨by omega, by omega, by rw [show d.secs = 64 by omega]; exact Nat.div_eq_of_lt hp64⟩
      refine box0 p.1 hb6 (by rfl) ?_
      exact upd hp1 _ (next hp1)
  obtain rfl : i = n := by omega
  refine splitW_f (decide_eq_false (by omega)) ?_
  have htk : l.take i = l := List.take_of_length_le (by omega)
  rw [htk] at hall hnd
  have hpick : d.pickOK l := ⟨hall, hnd⟩
  refine draw_i fun w3 he3 _ _ => ?_
  have hx3 := he2.trans he3
  refine ptr_i (ldA_i (ls := [.int .i64, .int .i64]) (x := (d.size, d.blocks, ())) ⟨by rw [add_mk, (hb.ext hx3).cell]; rfl, by rw [add_mk, (hb.ext hx3).cell]; rfl, trivial⟩ ?_)
  refine ptr_i (boxF 2 (Ad, nd, cd) (hb.ext hx3) (by rfl) ?_)
  refine callW_of (clones_calls (n := nd) (hd.sl.ext hx3) (by omega)) ?_
  rintro _ w4 ⟨An, cn, rfl, ho4, he4⟩
  refine ⟨(An, nd, cn), rfl, ?_⟩
  have hx4 := hx3.trans he4
  have hw3 := hx3.size
  refine h1_i (fun q hq => ?_) ?_
  · simp only [List.mem_cons, List.not_mem_nil, or_false] at hq
    rcases hq with rfl | rfl
    · show w4.cell? ((⟨b, 0, none⟩ : Addr).add 0) = _
      rw [add_mk, (hb.ext hx4).cell]; rfl
    · show w4.cell? ((⟨b, 0, none⟩ : Addr).add 1) = _
      rw [add_mk, (hb.ext hx4).cell]; rfl
  refine new_i fun r24 w5 hb24 he5 hr24 hz24 => ?_
  have hb24 : Blk w5 r24 [.int .i64 d.size, .int .i64 d.blocks, .slice An nd cn, .slice none 0 0, .int .i64 0, .int .i64 (-1)] 101 := hb24
  have hx5 := hx4.trans he5
  have ho5 := ho4.ext he5
  have hne24 : orow An ≠ some r24 := fun e => by have := ho4.row_lt _ e; omega
  have hAn5 : ∀ j, orow An = some j → w3.heap.size ≤ j ∧ j < r24 := fun j hj => ⟨ho4.row j hj, by have := ho4.row_lt j hj; omega⟩
  refine loopW_i (fun (y : Int × List Deferred × Unit) w' => ∃ (k : Nat) (ds : List Deferred), k ≤ i ∧ y = ((k : Int), ds, ()) ∧ Ext w w' ∧ w5.heap.size ≤ w'.heap.size ∧ Blk w' r24 [.int .i64 d.size, .int .i64 d.blocks, .slice An nd cn, .slice none 0 0, .int .i64 0, .int .i64 (-1)] 101
    ∧ Owni strE 9 w' w3.heap.size An nd cn ((l.take k).foldl (applyP d.pen) d.dur) ∧ Dfs w5.heap.size w' ds) (fun y => (i - y.1).toNat) ⟨0, [], by omega, rfl, hx5, Nat.le_refl _, hb24, ho5, trivial⟩ ?_
  rintro _ w6 ⟨k, ds, hk, rfl, hx6, hs6, hb24, ho6, hds⟩
  dsimp only
  by_cases hlt : k < i
  · refine splitW_t (decide_eq_true (by omega)) ?_
    refine idx_A (ls := [.int .i64, .int .u64]) (fun x : Int × Nat => (x.1, (x.2 : Int), ())) (0, 0) (hl.ext hx6) (fun _ => rfl) rfl (by omega) (by omega) ?_
    rw [Int.toNat_natCast]
    have e : l[k]? = some (l.getD k (0, 0)) := by rw [List.getD_eq_getElem?_getD, List.getElem?_eq_getElem (by omega)]; rfl
    have hmem := List.mem_of_getElem? e
    generalize l.getD k (0, 0) = p at e hmem ⊢
    have hp64 := hlm p hmem
    have hp1 := hall p hmem
    refine box_i (vs := pickE.f p) (by rfl) (pickE.one p) ?_ (by rfl)
    intro r29 w7 hb29 he7 hr29
    refine draw_i fun w8 he8 _ _ => ?_
    have hx8 := (hx6.trans he7).trans he8
    have hb29 := hb29.ext he8
    refine ptr_i (boxF 3 (Ap, np, cp) (hb.ext hx8) (by rfl) (box0 p.1 hb29 (by rfl) ?_))
    dsimp only
    have hsl8 := (hp.ext hx8).sl
    obtain ⟨q, hq⟩ : ∃ q, q = d.pen.getD p.1.toNat w00 := ⟨_, rfl⟩
    have eq1 : d.pen[p.1.toNat]? = some q := by rw [hq, List.getD_eq_getElem?_getD, List.getElem?_eq_getElem (by have := hp1.1; have := hp1.2.1; omega)]; rfl
    have hqok := hok.pend _ (List.mem_of_getElem? eq1)
    obtain ⟨pa, ea, hsa, hca⟩ := hsl8.at_ eq1
    refine guard_i ⟨hp1.1, by have := hp1.2.1; omega⟩ ?_
    rw [ea]
    refine ptr_i (ldA_i (ls := [.int .i64, .str]) (x := (q.1, q.2, ())) hca ?_)
    have hcells : ∀ {w' : World}, Ext w8 w' → HL w' [((pa.add (Int.toNat p.1 * 2)).add 0, .int .i64 q.1), ((pa.add (Int.toNat p.1 * 2)).add 1, .string q.2)] := fun he z hz => by
      simp only [List.mem_cons, List.not_mem_nil, or_false] at hz
      rcases hz with rfl | rfl
      · exact he.cell hca.1
      · exact he.cell hca.2.1
    refine newW_i ?_
    have hb35 := Blk.new w8 #[.int .i64 0, .string ByteArray.empty] 99
    have he35 : Ext w8 (w8.alloc (.cells #[.int .i64 0, .string ByteArray.empty] 99)) := (Ext.refl w8).alloc _
    refine h3_i (hcells he35) (held1Z (hb29.ext he35) (by rfl)) (by rw [← ea]; exact held1F ((hb.ext hx8).ext he35) (by rfl)) ?_
    refine refill (vs := writeE.f q) hb35 (by rfl) (writeE.one q) (by rfl) ?_
    intro w9 hb35 hx9 hk9 hs9
    have he9 : Ext w8 w9 := hx9 w8 he35 (Nat.le_refl _)
    generalize hr35 : w8.heap.size = r35 at hb35
    refine draw_i fun w10 he10 _ _ => ?_
    have he10 := he9.trans he10
    have hb35 := hb35.ext (by assumption)
    have hb29 := hb29.ext he10
    have hx10 := hx8.trans he10
    have hb24 := ((hb24.ext he7).ext he8).ext he10
    have ho10 := ((ho6.ext he7).ext he8).ext he10
    have hr35lt := hb35.lt
    have hr24lt := hb24.lt
    generalize hD : (l.take k).foldl (applyP d.pen) d.dur = D at ho10
    have hDl : D.length = nd := ho10.len
    have hDe : ∀ s ∈ D, (s.size : Int) = d.size := by rw [← hD]; exact apply_each _ _ _ hok.each
    refine ptr_i (boxF 2 (An, nd, cn) hb24 (by rfl) (box0 q.1 hb35 (by rfl) ?_))
    dsimp only
    have hq0 := hqok.1
    have hq1 := hqok.2.1
    have hq2 := hqok.2.2
    obtain ⟨old, hold⟩ : ∃ old, old = D.getD q.1.toNat ByteArray.empty := ⟨_, rfl⟩
    have eold : D[q.1.toNat]? = some old := by rw [hold, List.getD_eq_getElem?_getD, List.getElem?_eq_getElem (by omega)]; rfl
    have holdz := hDe _ (List.mem_of_getElem? eold)
    obtain ⟨ps, es, hss, hcs⟩ := ho10.sl.at_ eold
    refine guard_i ⟨hq0, by omega⟩ ?_
    rw [es]
    have hcs0 : w10.cell? (ps.add (Int.toNat q.1 * 1)) = some (.string old) := by have := hcs.1; rwa [add_zero] at this
    refine ptr_i (ld_i (l := .str) (x := old) hcs0 ?_)
    have hcellS : ∀ {w' : World}, Ext w10 w' → HL w' [((ps.add (Int.toNat q.1 * 1)), .string old)] := fun he z hz => by
      obtain rfl := List.mem_singleton.1 hz
      exact he.cell hcs0
    have hps : orow An = some ps.block := by rw [es]; rfl
    have hpsb := hAn5 _ hps
    refine ⟨?brA, ?brB⟩
    case' brA =>
      refine conv_bytesB (u := .string) (e := 5) (by kernel_rfl) (by kernel_rfl) (by kernel_rfl) ?_
      intro c11 w11 rest hB11 he11 hz11 hc11
      refine newW_i ?_
      have hb42 := Blk.new w11 #[.slice none 0 0] 93
      have he42 : Ext w11 (w11.alloc (.cells #[.slice none 0 0] 93)) := (Ext.refl w11).alloc _
      have he12 := he11.trans he42
      refine h3_i (hcellS he12) (held1Z (hb35.ext he12) (by rfl)) (by rw [← es]; exact held1F (hb24.ext he12) (by rfl)) ?_
      have hB12 := hB11.ext he42
      have hz12 : (w11.alloc (.cells #[.slice none 0 0] 93)).heap.size = w11.heap.size + 1 := by simp
      generalize h42 : w11.heap.size = r42 at hb42 hz12 hz11 ⊢
      generalize hrb : w10.heap.size = rb at hB12 hz11 ⊢
      generalize w11.alloc (.cells #[.slice none 0 0] 93) = w12 at hb42 he12 hB12 hz12 ⊢
      have f1 : w10.heap.size ≤ r42 := by omega
      have f2 : w10.heap.size ≤ rb := by omega
      have f3 : r42 ≠ rb := by omega
      have f4 : r42 < w12.heap.size := by omega
      have f5 : rb < w12.heap.size := by omega
    case' brB =>
      refine newW_i ?_
      have hb42 := Blk.new w10 #[.slice none 0 0] 93
      have he42 : Ext w10 (w10.alloc (.cells #[.slice none 0 0] 93)) := (Ext.refl w10).alloc _
      have hz42 : (w10.alloc (.cells #[.slice none 0 0] 93)).heap.size = w10.heap.size + 1 := by simp
      refine h3_i (hcellS he42) (held1Z (hb35.ext he42) (by rfl)) (by rw [← es]; exact held1F (hb24.ext he42) (by rfl)) ?_
      generalize w10.alloc (.cells #[.slice none 0 0] 93) = w11 at hb42 he42 hz42 ⊢
      refine conv_bytesB (u := .string) (e := 5) (by kernel_rfl) (by kernel_rfl) (by kernel_rfl) ?_
      intro c11 w12 rest hB12 he11 hz11 hc11
      have he12 := he42.trans he11
      have hb42 := hb42.ext he11
      generalize h42 : w10.heap.size = r42 at hb42 hz42 ⊢
      generalize hrb : w11.heap.size = rb at hB12 hz11 hz42 ⊢
      have f1 : w10.heap.size ≤ r42 := by omega
      have f2 : w10.heap.size ≤ rb := by omega
      have f3 : r42 ≠ rb := by omega
      have f4 : r42 < w12.heap.size := by omega
      have f5 : rb < w12.heap.size := by omega
    all_goals
      clear hz11
      have hx12 := hx10.trans he12
      have hposw := hT.pos
      have hw10 := hx10.size
      refine stW_blk hb42 (by show 0 < 1; omega) ?_
      have hb42 := hb42.set 0 (.slice (some ⟨rb, 0, none⟩) old.size c11)
      have hB13 := hB12.other (p := ⟨r42, 0, none⟩) f3 (.slice (some ⟨rb, 0, none⟩) old.size c11)
      have he13 : Ext w10 (w12.setCell ⟨r42, 0, none⟩ (.slice (some ⟨rb, 0, none⟩) old.size c11)) := he12.set f1 _
      have hz13 : (w12.setCell ⟨r42, 0, none⟩ (.slice (some ⟨rb, 0, none⟩) old.size c11)).heap.size = w12.heap.size := by simp
      dsimp only
      generalize w12.setCell ⟨r42, 0, none⟩ (.slice (some ⟨rb, 0, none⟩) old.size c11) = w13 at hb42 hB13 he13 hz13 ⊢
      have hx13 := hx10.trans he13
      refine boxF 1 (p.2 : Int) (hb29.ext he13) (by rfl) ?_
      refine callW_of (sectors_calls hp64 (hT.ext hx13)) ?_
      rintro v w14 ⟨rs, hit, hRS, hrs, hz14, he14⟩
      refine ⟨v, rfl, ?_⟩
      have hx14 := hx13.trans he14
      have he1014 := he13.trans he14
      have hb42 := hb42.ext he14
      have hB14 := hB13.ext he14
      have hb35 := hb35.ext he1014
      have hb24 := hb24.ext he1014
      have ho14 := ho10.ext he1014
      have hT14 := hRS.2
      have hBl : (B old).length = d.secs * 64 := by rw [← B_size]; omega
      have hql : (B q.2).length = (B old).length := by rw [hBl, ← B_size]; omega
      have hszo : old.size = d.secs * 64 := by omega
      have hszq : q.2.size = d.secs * 64 := by omega
      let FF : Nat → Prop := fun j => j = rb ∨ j = rs
      have hFF0 : ¬ FF 0 := by rintro (e | e) <;> omega
      refine rangeS_i (fun z w' => Only FF w14 w' ∧ BlkB w' rb (bV (mixS (B old) (B q.2) (doneS p.2 z)) ++ rest) 5 ∧ Blk w' rs [.int .u64 (secM z p.2 : Nat)] 37) (fun _ _ => False) (fun z => (((ctz (secM z p.2) : Nat) : Int), ()))
        ?_ hit ?_ ?_ ?_ ?_ ?_ ?_ ?_ ?_ ?_ ?_ ?_
      · intro z hz
        have hz' : z < (secL p.2).length := by simpa [secV] using hz
        have : (secV p.2)[z]? = some [.int .i64 (ctz (secM z p.2) : Nat)] := by unfold secV; rw [List.getElem?_map, (sec_get p.2 z hz').1]; rfl
        exact (List.getElem?_eq_some_iff.1 this).2.symm
      · rintro z w' ⟨g1, g2, g3⟩
        exact ⟨g3, hT14.only g1 hFF0⟩
      · rintro z w' ⟨g1, g2, g3⟩
        exact ⟨Only.trans g1 (Only.of_ext (F := fun _ => False) (Ext.refl w').drew) (fun _ h => h.elim), g2, g3⟩
      · rintro z w' w'' hs ⟨g1, g2, g3⟩
        exact ⟨g1.same7 hs (Nat.le_refl _), g2.same hs (by omega), hs.blk g3 (by omega)⟩
      · rintro z w' w'' hs ⟨g1, g2⟩
        refine ⟨hs.blk g1 (by omega), fun j hj => ?_⟩
        have hc := g2 j hj
        have := hs.2.2.2.2 0 (by omega) (by omega)
        unfold World.cell? at hc ⊢
        rw [this]
        exact hc
      · rintro z w' w'' hs ⟨⟩
      · rintro z w' w'' ⟨s1, s2, s3, s4, s5⟩
        refine ⟨s1, s2, s3, by simpa [TSec] using s4, fun j h1 h2 => ?_⟩
        unfold TSec
        by_cases hj : j = rs
        · subst hj
          show (w''.heap.modify j _)[j]? = (w'.heap.modify j _)[j]?
          rw [Array.getElem?_modify, Array.getElem?_modify, if_pos rfl, if_pos rfl, s5 j h1 h2]
        · rw [Below.heap_setCell _ _ _ _ hj, Below.heap_setCell _ _ _ _ hj]
          exact s5 j h1 h2
      · intro z w' j hj
        exact Below.heap_setCell _ _ _ _ (by show j ≠ rs; omega)
      · intro o
        have hxx : Ext w14 ((w14.alloc (.deferred (some []))).alloc o) := ((Ext.refl w14).alloc _).alloc _
        refine ⟨Only.of_ext hxx, ?_, hRS.1.ext hxx⟩
        rw [doneS_zero, mixS_none (fun _ _ => rfl)]
        exact hB14.ext hxx
      · rintro z hz w' N jump ⟨g1, g2, g3⟩ hszz hN hJ
        have hz' : z < (secL p.2).length := by simpa [secV] using hz
        obtain ⟨_, hne⟩ := sec_get p.2 z hz'
        have hle := secM_le z p.2
        have hbit := ctz_bit hne (by omega : secM z p.2 < 18446744073709551616)
        have hkk : ctz (secM z p.2) < d.secs := by
          rcases Nat.lt_or_ge (ctz (secM z p.2)) d.secs with hh | hh
          · exact hh
          · have h1 := Nat.ge_two_pow_of_testBit hbit
            have h2 : 2 ^ d.secs ≤ 2 ^ ctz (secM z p.2) := Nat.pow_le_pow_right (by decide) hh
            have h3 := hp1.2.2
            rw [Nat.div_eq_zero_iff] at h3
            have := Nat.two_pow_pos d.secs
            omega
        have hsucc := doneS_succ hp64 hz'
        generalize hkd : ctz (secM z p.2) = kk at hkk hsucc
        dsimp only
        refine draw_i fun w15 he15 hs15 hk15 => ?_
        have g1 : Only FF w14 w15 := Only.trans g1 (Only.of_ext (F := fun _ => False) he15) (fun _ h => h.elim)
        have g2 := g2.ext he15
        have g3 := g3.ext he15
        refine ldW_blk (x := (some (⟨rb, 0, none⟩ : Addr), old.size, c11)) (hb42.only g1 (by rintro (e | e) <;> omega)) (by rfl) ?_
        have ew1 : IntKind.wrap .i64 ((kk : Int) * 64) = ((kk * 64 : Nat) : Int) := by rw [wrap_i64 (by omega) (by omega)]; omega
        have ew2 : IntKind.wrap .i64 (IntKind.wrap .i64 ((kk : Int) + 1) * 64) = ((kk * 64 + 64 : Nat) : Int) := by rw [wrap_i64 (x := (kk : Int) + 1) (by omega) (by omega), wrap_i64 (by omega) (by omega)]; omega
        rw [ew1, ew2]
        dsimp only
        refine guard_i ⟨by omega, by omega, by omega⟩ ?_
        refine boxF 1 q.2 (hb35.only g1 (by rintro (e | e) <;> omega)) (by rfl) ?_
        refine guard_i ⟨by omega, by omega⟩ ?_
        simp only [Int.toNat_natCast]
        have hcut : cutAddr (some (⟨rb, 0, none⟩ : Addr)) (kk * 64) c11 1 = some ⟨rb, kk * 64, none⟩ := by
          unfold cutAddr
          rw [if_neg (by omega)]
          simp [add_mk]
        rw [hcut, show kk * 64 + 64 - kk * 64 = 64 by omega]
        have hMl : (mixS (B old) (B q.2) (doneS p.2 z)).length = d.secs * 64 := by rw [mixS_length, hBl]
        refine copy_strB elem_u8 g2 (by rw [List.length_append, length_bV, hMl]; omega) ?_
        intro w16 hB16 hg16
        have eX : B (q.2.extract (kk * 64) q.2.size) = (B q.2).drop (kk * 64) := by
          rw [B_extract, List.take_of_length_le (by rw [List.length_drop, ← B_size]; omega)]
        rw [eX, show min ((B q.2).drop (kk * 64)).length 64 = 64 by rw [List.length_drop, ← B_size]; omega, mixB (by omega), mix_copy hql (by omega), hsucc] at hB16
        have g1' : Only FF w14 w16 := g1.grow hg16 (fun j hj => by injection hj with hj; exact .inl (.inl hj.symm))
        have g3' := g3.grown hg16 (fun e => by injection e with e; omega)
        refine hN w16 ⟨⟨g3', hT14.only g1' hFF0⟩, ?_, ?_, ?_⟩ (by have := hg16.size; omega) (fun j hj => ?_)
        · exact g1'.grow (set_grown w16 rs 0 _) (fun j hj => by injection hj with hj; exact .inl (.inr hj.symm))
        · exact hB16.other (p := ⟨rs, 0, none⟩) (by show rs ≠ rb; omega) _
        · exact g3'.set 0 _
        · rw [hg16.block j (by omega) (fun e => by injection e with e; omega), hk15]
      · rintro w' ⟨g1, g2, g3⟩ hszz hdf
        have hlen2 : (secV p.2).length = (secL p.2).length := by simp [secV]
        rw [hlen2, doneS_end] at g2
        rw [jumpK]
        refine draw_i fun w15 he15 hs15 hk15 => ?_
        have g1 : Only FF w14 w15 := Only.trans g1 (Only.of_ext (F := fun _ => False) he15) (fun _ h => h.elim)
        have g2 := g2.ext he15
        have hb24 := hb24.only g1 (by rintro (e | e) <;> omega)
        have hb35 := hb35.only g1 (by rintro (e | e) <;> omega)
        have hb42 := hb42.only g1 (by rintro (e | e) <;> omega)
        have ho15 := ho14.only g1 (fun j hj => by have := hAn5 j hj; rintro (e | e) <;> omega)
        refine ptr_i (boxF 2 (An, nd, cn) hb24 (by rfl) (box0 q.1 hb35 (by rfl) (ldW_blk (x := (some (⟨rb, 0, none⟩ : Addr), old.size, c11)) hb42 (by rfl) ?_)))
        dsimp only
        refine conv_str (e := 5) (by kernel_rfl) (by kernel_rfl) (by kernel_rfl) (BlkB.sl g2 (by rw [length_bV, mixS_length, ← B_size]) (by omega)) ?_
        refine h2_i (held1Z hb35 (by rfl)) (held1F hb24 (by rfl)) ?_
        refine idx_setS ho15 hq0 (by omega) ?_
        intro w16 ho16 hg16
        have hrow : ∀ j, orow An = some j → j < r24 ∧ w3.heap.size ≤ j := fun j hj => ⟨(hAn5 j hj).2, (hAn5 j hj).1⟩
        have hx15 : Ext w w15 := hx14.only' g1 (fun j hj => by rcases hj with rfl | rfl <;> omega)
        have hx16 : Ext w w16 := hx15.grown hg16 (fun j hj => by have := hrow j hj; omega)
        refine ⟨⟨k + 1, ⟨.collected w14.heap.size, #[]⟩ :: ds, by omega, by rw [wrap_i64 (by omega) (by omega)]; rfl, hx16, ?_, ?_, ?_, ?_⟩, ?_⟩
        · have := hg16.size; have := hs15; omega
        · rw [← es]
          exact hb24.grown hg16 (fun e => hne24 e.symm)
        · rw [← es, take_snoc e, List.foldl_append, hD]
          show Owni strE 9 w16 w3.heap.size An nd cn (applyP d.pen D p)
          unfold applyP
          rw [← hq, ← hold]
          exact ho16
        · have hdw6 : ∀ j, j < w6.heap.size → w5.heap.size ≤ j → w16.heap[j]? = w6.heap[j]? := by
            intro j hj hj5
            have hext : Ext w6 w14 := ((he7.trans he8).trans he10).trans he1014
            have h610 : w6.heap.size ≤ w10.heap.size := ((he7.trans he8).trans he10).size
            have h614 := hext.size
            rw [hg16.block j (by omega) (fun e => by have := hrow j e.symm; omega), g1.2.2.2.2 j (by omega) (by rintro (e | e) <;> omega)]
            exact hext.block j hj
          have h514 : w5.heap.size ≤ w14.heap.size := by
            have := (((he7.trans he8).trans he10).trans he1014).size
            omega
          refine ⟨w14.heap.size, rfl, h514, ?_, fun d' hd' et => ?_, ?_⟩
          · rw [hg16.block _ (by omega) (fun e => by have := hrow _ e.symm; omega), hk15]
            exact hdf
          · have h1 := hds.lt d' hd' _ et
            have h2 := (((he7.trans he8).trans he10).trans he1014).size
            omega
          · exact hds.kept (fun j hj ⟨d', hd', et⟩ => by rw [hdw6 j (hds.lt d' hd' j et) (hds.ge d' hd' j et)]; exact hj)
        · rw [wrap_i64 (by omega) (by omega)]; omega
      · rintro c w' ⟨⟩
  · obtain rfl : k = i := by omega
    refine splitW_f (decide_eq_false (by omega)) ?_
    refine leave_all (B := w5.heap.size) ds w6 hds fun w7 hs7 => ?_
    rw [htk] at ho6
    have hne : orow An ≠ some r24 := hne24
    refine .inl ⟨hpick, r24, rfl, _, devAt_new (d := d.crashed l) (hb24.sameDf hs7) ((ho6.sameDf hs7).lower (Nat.zero_le _)) rfl hne (hok.crashed l), ?_, ?_⟩
    · rintro j (rfl | hj | hj)
      · have := hx4.size; omega
      · have := (hAn5 j hj).1; omega
      · cases hj
    · refine ⟨hs7.1.trans hx6.os, hs7.2.1.trans hx6.tape, hs7.2.2.1.trans hx6.output, by have := hs7.2.2.2.1; have := hx6.size; omega, fun j hj => ?_⟩
      rw [hs7.2.2.2.2 j (.inl (by have := hx5.size; omega))]
      exact hx6.block j hj
end Go.Proofs.YtjdmggaeagnolaaGreatDoor.V
/- Picks that came in, opened. -/
set_option maxRecDepth 100000
namespace Go.Proofs.YtjdmggaeagnolaaGreatDoor.V
open Go Go.ChangeShapes Go.WideShapes Go.ChangeAt Go.RowKit Go.Deep Go.Proofs
section
variable {H : Type} {enc : TypeId × Value → H} {w : World} {base : Nat} {spare : Nat → Bool} {held : Bool}
theorem dec_pick {n : Nat} {cs : List Value} {x : DataW H × List MemPlace} (h : DataW.trod enc Tryz.prog w base spare held n 56 cs = some x) : ∃ p : Int × Nat, pickE.f p = cs ∧ ((-9223372036854775808 ≤ p.1 ∧ p.1 < 9223372036854775808) ∧ p.2 < 18446744073709551616) := by
  obtain ⟨hl, m, hf2⟩ := dec_fields (ts := [3, 37]) (by kernel_rfl) (by kernel_rfl) (by kernel_rfl) (by kernel_rfl) h
  obtain ⟨v0, y0, e0, h0⟩ := hf2 0 _ rfl
  obtain ⟨v1, y1, e1, h1⟩ := hf2 1 _ rfl
  obtain ⟨z0, hz0, hw0⟩ := dec_int (k := .i64) (by kernel_rfl) h0
  obtain ⟨z1, hz1, hw1⟩ := dec_int (k := .u64) (by kernel_rfl) h1
  cases hz0; cases hz1
  have := nat_u64 hw1
  match cs, hl with
  | [a, b], _ =>
    simp only [List.getElem?_cons_zero, List.getElem?_cons_succ, Option.some.injEq] at e0 e1
    refine ⟨(z0, z1.toNat), ?_, nat_i64 hw0, by dsimp only; omega⟩
    rw [e0, e1]
    show [Value.int .i64 z0, Value.int .u64 ((z1.toNat : Nat) : Int)] = _
    rw [show ((z1.toNat : Nat) : Int) = z1 by omega]end
end Go.Proofs.YtjdmggaeagnolaaGreatDoor.V
/- The listed variable of this seat, opened; the door's own heap. -/
namespace Go.Proofs.YtjdmggaeagnolaaGreatDoor.V
open Go Go.Proofs Go.ChangeShapes Go.WideShapes Go.ChangeAt Go.WideMaps Go.WideElems Go.RowKit
def laidL : List (String × DataW Unit) := [("math/bits.deBruijn64tab", Rows.laid_math_bits_deBruijn64tab)]
theorem gTab : Tryz.prog.globalNamed "math/bits.deBruijn64tab" = some 0 := by kernel_rfl
theorem tTab : (Tryz.prog.globals[0]?).map (·.type) = some 177 := by kernel_rfl
theorem door_met (os : Os) (args : Array Value) : laidMetH Tryz.prog laidL ((World.doorLaid Tryz.prog 14 os).forCall (fun _ _ => 0) ⟨#[], args, []⟩).memory :=
  laidMetH_of_parts3 (fuel := 8) (laidMet_of_run' 8 (by kernel_rfl) (by kernel_rfl)) (by kernel_rfl) (by kernel_rfl)
theorem deB_of_laid {W : World} (h : laidMetH Tryz.prog laidL W) : DeB W := by
  rw [MakeChecks.laidMetH_plain _ _ _ (by kernel_rfl)] at h
  obtain ⟨ps, ⟨g0, t0, cs0, f0, p0, q0, hg0, ht0, hv0, hd0, _, _⟩, _, _⟩ := h
  obtain rfl := Option.some.inj (gTab.symm.trans hg0)
  obtain rfl := Option.some.inj (tTab.symm.trans ht0)
  obtain ⟨xs, m1, rfl, hx1, hlen, hn3, hel⟩ := DataW.trod_array (show Tryz.prog.underlying 177 = some (.array 64 5) by kernel_rfl) hd0
  have c1 : Tryz.prog.cellsOf 5 = 1 := by kernel_rfl
  have c64 : Tryz.prog.cellsOf 177 = 64 := by kernel_rfl
  simp only [Prod.mk.injEq] at hx1
  have hlaid : (Rows.laid_math_bits_deBruijn64tab : DataW Unit) = .agg (Lib.deBruijn64tab.map fun (n : Nat) => DataW.lit (Lit.int .u8 (n : Int))) := by rfl
  have hxs := hx1.1
  rw [hlaid] at hxs
  injection hxs with hxs
  intro j hj
  have hel := hel j hj
  rw [c1, Nat.mul_one, List.getElem?_eq_getElem (by omega)] at hel
  obtain ⟨z, e1, e2, e3⟩ := DataW.trod_int (show Tryz.prog.underlying 5 = some (.int .u8) by kernel_rfl) hel
  have hz : (xs.map (·.1))[j]? = some (.lit (.int .u8 z)) := by
    rw [List.getElem?_map, List.getElem?_eq_getElem (by omega), Option.map_some, e2]
  have hl64 : Lib.deBruijn64tab.length = 64 := by decide
  rw [← hxs, List.getElem?_map, List.getElem?_eq_getElem (by omega)] at hz
  simp only [Option.map_some, Option.some.injEq, DataW.lit.injEq, Lit.int.injEq, true_and] at hz
  have hcell := World.var?_cell hg0 hv0 j
  rw [hcell, List.getD_eq_getElem?_getD, List.getElem?_eq_getElem (by omega), Option.getD_some, hz]
  have h0 : ((cs0.toList.drop j).take 1)[0]? = some (.int .u8 z) := by rw [e1]; rfl
  simpa using h0
end Go.Proofs.YtjdmggaeagnolaaGreatDoor.V
/- Law 13: runs in memory; pick, page, Own, light. -/
namespace Go.Proofs.YtjdmggaeagnolaaGreatDoor.V
open Go Go.Proofs Go.RowKit Crc
structure RowN (w : World) (F : Nat → Prop) (r : Nat) (x : SLC) (l : List Nat) : Prop where
  sl : Sli (numE .u32) w x.1 x.2.1 l
  cap : x.2.1 ≤ x.2.2
  apart : ∀ a, x.1 = some a → a.block < w.heap.size ∧ ¬ F a.block ∧ a.block ≠ r
theorem RowN.nil (w : World) (F : Nat → Prop) (r : Nat) : RowN w F r (none, 0, 0) [] := ⟨Sli.nil w none, Nat.le_refl _, fun a ha => by cases ha⟩
theorem RowN.of {w : World} {F : Nat → Prop} {r B : Nat} {e : TypeId} {A : Option Addr} {n c : Nat} {l : List Nat} (h : Owni (numE .u32) e w B A n c l) (hF : ∀ k, F k → k < B) (hr : r < B) : RowN w F r (A, n, c) l := by
  refine ⟨h.sl, h.le.1, fun a ha => ?_⟩
  have ha : A = some a := ha
  have h1 := h.row a.block (by rw [ha]; rfl)
  have h2 := h.row_lt a.block (by rw [ha]; rfl)
  exact ⟨h2, fun hf => by have := hF _ hf; omega, by omega⟩
theorem RowN.step {w w' : World} {F F' G : Nat → Prop} {r : Nat} {x : SLC} {l : List Nat} (h : RowN w F r x l) (hO : Only G w w') (hG : ∀ k, G k → F k ∨ k = r ∨ w.heap.size ≤ k) (hF : ∀ k, F' k → F k ∨ w.heap.size ≤ k) : RowN w' F' r x l := by
  refine ⟨h.sl.only hO (fun a ha hg => ?_), h.cap, fun a ha => ?_⟩
  · obtain ⟨a1, a2, a3⟩ := h.apart a ha
    rcases hG _ hg with e | e | e
    · exact a2 e
    · exact a3 e
    · omega
  · obtain ⟨a1, a2, a3⟩ := h.apart a ha
    refine ⟨Nat.lt_of_lt_of_le a1 hO.2.2.2.1, fun hf => ?_, a3⟩
    rcases hF _ hf with e | e
    · exact a2 e
    · omega
theorem RowN.ext {w w' : World} {F : Nat → Prop} {r : Nat} {x : SLC} {l : List Nat} (h : RowN w F r x l) (he : Ext w w') : RowN w' F r x l := h.step (Only.of_ext (F := fun _ => False) he) (fun _ h => h.elim) (fun k hk => .inl hk)
def runV (db b : Nat) (xo xh xm : SLC) (mk : Bool) (root : Nat) : List Value :=
  [.pointer (some ⟨db, 0, none⟩), .pointer (some ⟨b, 0, none⟩), .slice xo.1 xo.2.1 xo.2.2, .slice xh.1 xh.2.1 xh.2.2, .slice xm.1 xm.2.1 xm.2.2, .bool mk, .int .u32 (root : Int)]
structure RunX (w0 w : World) (r db b : Nat) (S : Spa) (F : Nat → Prop) (xo xh xm : SLC) (own held mark : List Nat) (mk : Bool) (root : Nat) : Prop where
  box : Blk w r (runV db b xo xh xm mk root) 42
  sp : SpAt w b db S F
  base : ∀ k, F k → w0.heap.size ≤ k
  rr : w0.heap.size ≤ r ∧ ¬ F r
  ro : RowN w F r xo own
  rh : RowN w F r xh held
  rm : RowN w F r xm mark
  x : Ext w0 w
variable {w0 w w' : World} {r db b : Nat} {S : Spa} {F : Nat → Prop} {xo xh xm : SLC} {own held mark : List Nat} {mk : Bool} {root : Nat}
theorem RunX.ext (h : RunX w0 w r db b S F xo xh xm own held mark mk root) (he : Ext w w') : RunX w0 w' r db b S F xo xh xm own held mark mk root :=
  ⟨h.box.ext he, h.sp.ext he, h.base, h.rr, h.ro.ext he, h.rh.ext he, h.rm.ext he, h.x.trans he⟩
theorem RunX.step {S' : Spa} (h : RunX w0 w r db b S F xo xh xm own held mark mk root) (hst : StepS w b db F S' w') : ∃ F', RunX w0 w' r db b S' F' xo xh xm own held mark mk root := by
  obtain ⟨F', g1, g2, g3⟩ := hst
  have hrl := h.box.lt
  have hG : ∀ k, F k → F k ∨ k = r ∨ w.heap.size ≤ k := fun k hk => .inl hk
  refine ⟨F', h.box.only g3 h.rr.2, g1, fun k hk => ?_, ⟨h.rr.1, fun hf => ?_⟩, h.ro.step g3 hG g2, h.rh.step g3 hG g2, h.rm.step g3 hG g2, Only.ext h.x g3 h.base⟩
  · rcases g2 k hk with e | e
    · exact h.base k e
    · exact Nat.le_trans h.x.size e
  · rcases g2 r hf with e | e
    · exact h.rr.2 e
    · omega
theorem RunX.set {xo' xh' xm' : SLC} {own' held' mark' : List Nat} {mk' : Bool} {root' : Nat} (h : RunX w0 w r db b S F xo xh xm own held mark mk root) (ob : Only (fun k => k = r) w w')
    (hb : Blk w' r (runV db b xo' xh' xm' mk' root') 42) (ho : RowN w F r xo' own') (hh : RowN w F r xh' held') (hm : RowN w F r xm' mark') : RunX w0 w' r db b S F xo' xh' xm' own' held' mark' mk' root' := by
  have hG : ∀ k, (fun k => k = r) k → F k ∨ k = r ∨ w.heap.size ≤ k := fun k hk => .inr (.inl hk)
  have hF : ∀ k, F k → F k ∨ w.heap.size ≤ k := fun k hk => .inl hk
  exact ⟨hb, h.sp.only ob (fun j hj e => h.rr.2 (by rw [← show j = r from e]; exact hj)), h.base, h.rr, ho.step ob hG hF, hh.step ob hG hF, hm.step ob hG hF, Only.ext h.x ob (fun j hj => by rw [show j = r from hj]; exact h.rr.1)⟩
theorem RunX.swap {b' : Nat} {S' : Spa} {F' : Nat → Prop} {xo' : SLC} {own' : List Nat} {mk' : Bool} {w1 : World} (h : RunX w0 w r db b S F xo xh xm own held mark mk root) (he : Ext w w1) (hs : SpAt w1 b' db S' F') (hF' : ∀ k, F' k → F k ∨ w.heap.size ≤ k) (ob : Only (fun k => k = r) w1 w')
    (hb : Blk w' r (runV db b' xo' xh xm mk' root) 42) (ho : RowN w1 F' r xo' own') : RunX w0 w' r db b' S' F' xo' xh xm own' held mark mk' root := by
  have hrl := h.box.lt
  have h1 := h.ext he
  have hrF : ¬ F' r := fun hf => by
    rcases hF' r hf with e | e
    · exact h.rr.2 e
    · omega
  have hG : ∀ k, (fun k => k = r) k → F' k ∨ k = r ∨ w1.heap.size ≤ k := fun k hk => .inr (.inl hk)
  have hF : ∀ k, F' k → F' k ∨ w1.heap.size ≤ k := fun k hk => .inl hk
  have re : ∀ {x : SLC} {l : List Nat}, RowN w F r x l → RowN w1 F' r x l := fun hr => hr.step (Only.of_ext (F := fun _ => False) he) (fun _ h => h.elim) hF'
  refine ⟨hb, hs.only ob (fun j hj e => hrF (by rw [← show j = r from e]; exact hj)), fun k hk => ?_, ⟨h.rr.1, hrF⟩, ho.step ob hG hF, (re h.rh).step ob hG hF, (re h.rm).step ob hG hF, Only.ext h1.x ob (fun j hj => by rw [show j = r from hj]; exact h.rr.1)⟩
  rcases hF' k hk with e | e
  · exact h.base k e
  · exact Nat.le_trans h.x.size e
theorem own_u32 {w : World} {A : Option Addr} {n c : Nat} {l : List Nat} (h : Sli (numE .u32) w A n l) (hn : n ≤ 1000000) :
    Calls Tryz.prog 30 #[.slice A n c] w (Ret fun v w' => ∃ x : SLC, v = .slice x.1 x.2.1 x.2.2 ∧ Owni (numE .u32) 31 w' w.heap.size x.1 x.2.1 x.2.2 l ∧ Ext w w') := by
  apply calls30
  unfold S30
  apply newW_i
  have ho : Owni (numE .u32) 31 (w.alloc (.cells #[] 31)) w.heap.size (some ⟨w.heap.size, 0, none⟩) 0 0 [] := Owni.lit (E := numE .u32) (xs := []) rfl (Nat.le_refl _) (by omega)
  have he : Ext w (w.alloc (.cells #[] 31)) := (Ext.refl w).alloc _
  refine append_sli (c := 0) (n := 0) (m := n) elem_u32 ho he.size (h.ext he) (by omega) (by omega) ?_
  intro A' c' w' ho' hg _
  rw [List.nil_append, Nat.zero_add] at ho'
  rw [Nat.zero_add]
  exact ⟨(A', n, c'), rfl, ho', he.grown hg.grown (fun j hj => ho.row j hj)⟩
theorem app_one {w : World} {B : Nat} {A : Option Addr} {n c r v : Nat} {l : List Nat} {K : SLC → WP} (ho : Owni (numE .u32) 31 w B A n c l) (hB : B ≤ w.heap.size) (hb : Blk w r [.int .u32 (v : Int)] 31) (hn : n ≤ 1000000)
    (hK : ∀ A' c' w', Owni (numE .u32) 31 w' B A' (n + 1) c' (l ++ [v]) → (∀ w0, Ext w0 w → w0.heap.size ≤ B → Ext w0 w') → K (A', n + 1, c') w') :
    runW Tryz.prog (Builtin.append_ #[40, 40] 40 #[.slice A n c, .slice (some (⟨r, 0, none⟩ : Addr)) 1 1]) .slc K w := by
  have hs : Sli (numE .u32) w (some ⟨r, 0, none⟩) 1 [v] := Sli.of_blk hb rfl (by omega)
  refine append_sli elem_u32 ho hB hs (by omega) (by omega) ?_
  intro A' c' w' ho' hg _
  exact hK A' c' w' ho' (fun w0 he hw0 => he.grown hg.grown (fun j hj => Nat.le_trans hw0 (ho.row j hj)))
def pickI (own : List Nat) (n : Int) : Int := if own.length = 0 then -1 else pick n own.length
theorem rpick_calls (h : RunX w0 w r db b S F xo xh xm own held mark mk root) {n : Int} (hn : I64 n) (hl : own.length ≤ 1000000) :
    Calls Tryz.prog 28 #[.pointer (some ⟨r, 0, none⟩), .int .i64 n] w (Ret fun v w' => v = .int .i64 (pickI own n) ∧ w' = w) := by
  apply calls28
  unfold S28 pickI
  have hol := h.ro.sl.len
  refine ptr_i (boxE (l := .slc) 2 xo h.box (by rfl) (by rfl) ?_)
  refine splitW_i (fun hq => ?_) (fun hq => ?_)
  · have hq := beq_iff_eq.1 hq
    rw [if_pos (by omega)]
    exact ⟨rfl, rfl⟩
  · have hq := beq_eq_false_iff_ne.1 hq
    rw [if_neg (by omega)]
    refine ptr_i (boxE (l := .slc) 2 xo h.box (by rfl) (by rfl) ?_)
    refine callW_of (pick_calls w hn.1 hn.2 (by omega)) ?_
    rintro _ w1 ⟨rfl, hw1⟩
    refine ⟨_, rfl, ?_, hw1⟩
    rw [show ((xo.2.1 : Nat) : Int) = ((own.length : Nat) : Int) by omega]
theorem pick_lt {n m : Int} (h : 0 < m) : 0 ≤ pick n m ∧ pick n m < m := by
  unfold pick
  rw [if_neg (by omega)]
  exact ⟨Int.emod_nonneg _ (by omega), Int.emod_lt_of_pos _ h⟩
theorem pickI_cases (own : List Nat) (n : Int) : pickI own n = -1 ∨ ∃ i : Nat, pickI own n = (i : Int) ∧ i < own.length := by
  unfold pickI
  split
  · exact .inl rfl
  · have := pick_lt (n := n) (m := (own.length : Int)) (by omega)
    exact .inr ⟨(pick n own.length).toNat, by omega, by omega⟩
def kidN (own : List Nat) (k : Int) : Nat := (pick k (min 4 (own.length + 1) : Nat)).toNat
theorem kidN_le (own : List Nat) (k : Int) : kidN own k ≤ 3 ∧ kidN own k ≤ own.length := by
  have := pick_lt (n := k) (m := ((min 4 (own.length + 1) : Nat) : Int)) (by omega)
  unfold kidN
  omega
def tagP (t : UInt8) : UInt8 := UInt8.ofNat (3 + t.toNat % 200)
theorem tagP_nat (t : UInt8) : (tagP t).toNat = 3 + t.toNat % 200 := by
  unfold tagP
  rw [UInt8.toNat_ofNat']
  omega
def pageP (own : List Nat) (a : ActV) : Page := (tagP a.2.1, own.drop (own.length - kidN own a.2.2.1), a.2.2.2.2)
theorem tag_wrap (t : UInt8) : IntKind.wrap .u8 ((3 : Int) + Int.tmod (t.toNat : Int) 200) = ((tagP t).toNat : Int) := by
  rw [tagP_nat]
  have h1 : Int.tmod (t.toNat : Int) 200 = ((t.toNat % 200 : Nat) : Int) := by
    rw [Int.tmod_eq_emod_of_nonneg (by omega)]; omega
  rw [h1, wrap_u8]
  omega
theorem runpage_calls (h : RunX w0 w r db b S F xo xh xm own held mark mk root) {a : ActV} (ha : actQ a) (hl : own.length ≤ 1000000) :
    Calls Tryz.prog 29 #[.pointer (some ⟨r, 0, none⟩), .agg (actE.f a).toArray] w (Ret fun v w' => ∃ y : SLC, v = .agg (pgV (pageP own a) y).toArray ∧ Owni (numE .u32) 31 w' w.heap.size y.1 y.2.1 y.2.2 (pageP own a).2.1 ∧ Ext w w') := by
  apply calls29
  unfold S29
  have hol := h.ro.sl.len
  have hcap := h.ro.cap
  refine new_i fun r1 w1 hb1 he1 hr1 hz1 => ?_
  have hb1 : Blk w1 r1 (actE.f a) _ := hb1
  refine new_i fun r2 w2 hb2 he2 hr2 hz2 => ?_
  have he02 := he1.trans he2
  refine draw_i fun w3 he3 _ _ => ?_
  have he03 := he02.trans he3
  have hb13 := (hb1.ext he2).ext he3
  have h3 := h.ext he03
  refine boxF (l := .int .i64) 2 a.2.2.1 hb13 (by rfl) ?_
  refine ptr_i (boxE (l := .slc) 2 xo h3.box (by rfl) (by rfl) ?_)
  have e1 : IntKind.wrap .i64 (((xo.2.1 : Nat) : Int) + 1) = ((own.length + 1 : Nat) : Int) := by rw [wrap_i64 (by omega) (by omega)]; omega
  rw [e1]
  have e2 : (if ((own.length + 1 : Nat) : Int) < 4 then ((own.length + 1 : Nat) : Int) else 4) = ((min 4 (own.length + 1) : Nat) : Int) := by split <;> omega
  rw [e2]
  refine callW_of (pick_calls w3 ha.2.1.1 ha.2.1.2 (by omega)) ?_
  rintro _ w4 ⟨rfl, hw4⟩
  refine ⟨_, rfl, ?_⟩
  rw [hw4]
  have hkn : pick a.2.2.1 ((min 4 (own.length + 1) : Nat) : Int) = (kidN own a.2.2.1 : Int) := by
    have := pick_lt (n := a.2.2.1) (m := ((min 4 (own.length + 1) : Nat) : Int)) (by omega)
    unfold kidN
    omega
  rw [hkn]
  have hk := kidN_le own a.2.2.1
  refine draw_i fun w5 he5 _ _ => ?_
  have he05 := he03.trans he5
  have h5 := h.ext he05
  have hb15 := hb13.ext he5
  refine boxF (l := .int .u8) 1 (a.2.1.toNat : Int) hb15 (by rfl) ?_
  refine ptr_i (boxE (l := .slc) 2 xo h5.box (by rfl) (by rfl) ?_)
  refine ptr_i (boxE (l := .slc) 2 xo h5.box (by rfl) (by rfl) ?_)
  have e3 : IntKind.wrap .i64 (((xo.2.1 : Nat) : Int) - (kidN own a.2.2.1 : Int)) = ((own.length - kidN own a.2.2.1 : Nat) : Int) := by rw [wrap_i64 (by omega) (by omega)]; omega
  rw [e3, Int.toNat_natCast]
  refine guard_i (by omega) ?_
  refine boxF (l := .str) 4 a.2.2.2.2 hb15 (by rfl) ?_
  have hsl := (h5.ro.sl).cut (l := own.length - kidN own a.2.2.1) (k := xo.2.1 - (own.length - kidN own a.2.2.1)) (m := xo.2.2) (z := 1) rfl (by omega) (by omega)
  rw [List.take_of_length_le (by rw [List.length_drop]; omega)] at hsl
  refine callW_of (own_u32 hsl (by omega)) ?_
  rintro _ w6 ⟨y, rfl, hoy, he6⟩
  refine ⟨y, rfl, ?_⟩
  have hb16 := hb15.ext he6
  refine ⟨fun l hl q hq => ?_, ?_⟩
  · simp only [List.mem_cons, List.not_mem_nil, or_false] at hl
    rcases hl with rfl | rfl <;> (simp only [List.mem_cons, List.not_mem_nil, or_false] at hq; subst hq)
    · exact boxC hb16 (o := 4) (by rfl) (by rfl)
    · exact boxC hb16 (o := 1) (by rfl) (by rfl)
  rw [tag_wrap]
  have he06 := he05.trans he6
  have hs1 := he1.size
  refine setP (pageP own a) y (((hb2.ext he3).ext he5).ext he6) rfl rfl ?_
  intro w7 hb7 hx7 hk7 hz7
  refine ⟨y, rfl, ?_, hx7 w he06 (by omega)⟩
  have h06 := he05.size
  have oc : Only (fun k => k = r2) w6 w7 := ⟨(hx7 w he06 (by omega)).os.trans he06.os.symm, (hx7 w he06 (by omega)).tape.trans he06.tape.symm, (hx7 w he06 (by omega)).output.trans he06.output.symm, by omega, fun k _ hk => hk7 k hk⟩
  have hs02 := he02.size
  have hs3 := he3.size
  have hs5 := he5.size
  exact (hoy.only oc (fun j hj e => by have := hoy.row j hj; have : j = r2 := e; omega)).lower (by omega)
def act0 : ActV := (0, 0, 0, 0, ByteArray.empty)
theorem light_calls {w : World} {A : Option Addr} {n c : Nat} {acts : List ActV} (h : Sli actE w A n acts) :
    Calls Tryz.prog 6 #[.slice A n c] w (Ret fun v w' => (v = .bool true ∧ n ≤ 60 ∧ (∀ a ∈ acts, a.2.2.2.2.size ≤ 600) ∨ v = .bool false) ∧ w' = w) := by
  apply calls6
  unfold S6
  have hl := h.len
  have hle := h.le
  refine loopW_i (fun y w' => ∃ i : Nat, i ≤ n ∧ y = ((i : Int), ()) ∧ w' = w ∧ ∀ a ∈ acts.take i, a.2.2.2.2.size ≤ 600) (fun y => (n - y.1).toNat) ⟨0, by omega, rfl, rfl, by simp⟩ ?_
  rintro _ w1 ⟨i, hi, rfl, rfl, hall⟩
  dsimp only
  by_cases hlt : i < n
  · refine splitW_t (decide_eq_true (by omega)) ?_
    have hil : i < acts.length := by omega
    have hai : acts[i]? = some acts[i] := List.getElem?_eq_getElem hil
    refine idx_f (l := .str) 4 (fun a : ActV => a.2.2.2.2) act0 h (fun _ => rfl) rfl (by omega) (by omega) ?_
    rw [Int.toNat_natCast]
    have hg : acts.getD i act0 = acts[i] := by rw [List.getD_eq_getElem?_getD, hai]; rfl
    rw [hg]
    refine splitW_i (fun hq => ⟨.inr rfl, rfl⟩) (fun hq => ?_)
    have hq := of_decide_eq_false hq
    refine ⟨⟨i + 1, by omega, by rw [wrap_i64 (by omega) (by omega)]; rfl, rfl, fun a ha => ?_⟩, by rw [wrap_i64 (by omega) (by omega)]; omega⟩
    rw [List.take_add_one, hai] at ha
    simp only [Option.toList_some, List.mem_append, List.mem_singleton] at ha
    rcases ha with e | rfl
    · exact hall a e
    · omega
  · refine splitW_f (decide_eq_false (by omega)) ?_
    rw [List.take_of_length_le (by omega)] at hall
    refine ⟨?_, rfl⟩
    by_cases h60 : n ≤ 60
    · exact .inl ⟨by rw [decide_eq_true (by omega)], h60, hall⟩
    · exact .inr (by rw [decide_eq_false (by omega)])
end Go.Proofs.YtjdmggaeagnolaaGreatDoor.V
/- Law 13: what stays true of a run: plain. -/
namespace Go.Proofs.YtjdmggaeagnolaaGreatDoor.V
open Go Go.Proofs Go.RowKit Crc
theorem kids_le {S : Spa} (n : Nat) : (kidsP S.page n).length ≤ 1024 := pageR_kids.1
theorem cnt_small {S : Spa} {R : List Nat} (h : Good S R) {n : Nat} (hn : usedC S.sup.pages S.now n = true) : S.now.getD n 0 ≤ R.count n + S.N * 1024 := by
  obtain ⟨a1, a2, a3⟩ := usedC_iff.1 hn
  rw [h.well.sum n a1 a2]
  have : sumC S.N S.sup.pages S.page S.now n ≤ S.N * 1024 := by
    refine sum_le' S.N (fun m _ => ?_)
    unfold refC
    split
    · exact Nat.le_trans List.count_le_length (kids_le m)
    · omega
  omega
structure Inv (z : Int) (N P : Nat) (S : Spa) (own held mark : List Nat) (mk : Bool) (root i : Nat) : Prop where
  gr : Great S own held (if mk then some mark else none)
  rt : S.sup.root = root ∧ (root = 0 ∨ usedC S.sup.pages S.held root = true)
  gen : S.sup.gen ≤ 1 + i
  pl : S.dev.pen.length ≤ i
  pw : ∀ p ∈ S.dev.pen, 2 ≤ p.1 ∧ S.held.getD p.1.toNat 0 = 0
  lo : own.length ≤ i
  lh : held.length ≤ i
  lm : mark.length ≤ i
  sz : S.sup.size = z
  bl : S.sup.blocks = (N : Int)
  np : S.sup.pages.length = P
variable {z : Int} {N P : Nat} {S S' : Spa} {own held mark : List Nat} {mk : Bool} {root i : Nat}
theorem Inv.more (h : Inv z N P S own held mark mk root i) {j : Nat} (hij : i ≤ j) : Inv z N P S own held mark mk root j :=
  { h with gen := by have := h.gen; omega, pl := Nat.le_trans h.pl hij, lo := Nat.le_trans h.lo hij, lh := Nat.le_trans h.lh hij, lm := Nat.le_trans h.lm hij }
theorem Inv.n (h : Inv z N P S own held mark mk root i) : S.N = N := by unfold Spa.N; rw [h.bl]; omega
theorem Inv.put {n k : Nat} {p : Page} (h : Inv z N P S own held mark mk root i) (ho : PutOk S S' p n) (hg : Great S' (n :: own.take k) held (if mk then some mark else none)) (hpen : ∀ q ∈ S'.dev.pen, q ∈ S.dev.pen ∨ q.1 = (n : Int)) :
    Inv z N P S' (own.take k ++ [n]) held mark mk root (i + 1) := by
  refine ⟨hg.perm (List.perm_append_singleton n (own.take k)).symm, ?_, ?_, ?_, ?_, ?_, Nat.le_succ_of_le h.lh, Nat.le_succ_of_le h.lm, ?_, ?_, ?_⟩
  · rw [ho.sup, ho.held]; exact h.rt
  · rw [ho.sup]; have := h.gen; omega
  · rw [ho.pen]; have := h.pl; omega
  · intro q hq
    rw [ho.held]
    rcases hpen q hq with e | e
    · exact h.pw q e
    · have := ho.two
      refine ⟨by omega, ?_⟩
      rw [show q.1.toNat = n by omega]
      exact (isFree_iff.1 ho.free).2.1
  · have := h.lo
    rw [List.length_append, List.length_take, List.length_singleton]
    omega
  · rw [ho.sup]; exact h.sz
  · rw [ho.sup]; exact h.bl
  · rw [ho.sup]; exact h.np
theorem Inv.now {c own' : List Nat} (h : Inv z N P S own held mark mk root i) (hg : Great { S with now := c } own' held (if mk then some mark else none)) (hl : own'.length ≤ i + 1) : Inv z N P { S with now := c } own' held mark mk root (i + 1) :=
  ⟨hg, h.rt, by have := h.gen; show S.sup.gen ≤ _; omega, Nat.le_succ_of_le h.pl, h.pw, hl, Nat.le_succ_of_le h.lh, Nat.le_succ_of_le h.lm, h.sz, h.bl, h.np⟩
theorem Inv.abort (h : Inv z N P S own held mark mk root i) : Inv z N P { S with now := S.held, mark := none } held held mark false root (i + 1) :=
  ⟨great_abort h.gr, h.rt, by have := h.gen; show S.sup.gen ≤ _; omega, Nat.le_succ_of_le h.pl, h.pw, Nat.le_succ_of_le h.lh, Nat.le_succ_of_le h.lh, Nat.le_succ_of_le h.lm, h.sz, h.bl, h.np⟩
theorem Inv.nomark (h : Inv z N P S own held mark false root i) : S.mark = none := (h.gr.mwell.none_iff).2 rfl
theorem Inv.marked (h : Inv z N P S own held mark true root i) : ∃ l, S.mark = some l := by
  cases hq : S.mark with
  | some l => exact ⟨l, rfl⟩
  | none => have := (h.gr.mwell.none_iff).1 hq; cases this
theorem Inv.mark_ (h : Inv z N P S own held mark false root i) : Inv z N P { S with mark := some S.now } own held own true root (i + 1) :=
  ⟨great_mark h.gr, h.rt, by have := h.gen; show S.sup.gen ≤ _; omega, Nat.le_succ_of_le h.pl, h.pw, Nat.le_succ_of_le h.lo, Nat.le_succ_of_le h.lh, Nat.le_succ_of_le h.lo, h.sz, h.bl, h.np⟩
theorem Inv.back (h : Inv z N P S own held mark true root i) {l : List Nat} (hm : S.mark = some l) : Inv z N P { S with now := l, mark := none } mark held mark false root (i + 1) :=
  ⟨great_back h.gr hm, h.rt, by have := h.gen; show S.sup.gen ≤ _; omega, Nat.le_succ_of_le h.pl, h.pw, Nat.le_succ_of_le h.lm, Nat.le_succ_of_le h.lh, Nat.le_succ_of_le h.lm, h.sz, h.bl, h.np⟩
theorem Inv.done (h : Inv z N P S own held mark true root i) : Inv z N P { S with mark := none } own held mark false root (i + 1) :=
  ⟨great_done h.gr, h.rt, by have := h.gen; show S.sup.gen ≤ _; omega, Nat.le_succ_of_le h.pl, h.pw, Nat.le_succ_of_le h.lo, Nat.le_succ_of_le h.lh, Nat.le_succ_of_le h.lm, h.sz, h.bl, h.np⟩
theorem Inv.commit (h : Inv z N P S own held mark mk root i) {rt : Nat} (hrt : rt = 0 ∨ rt ∈ own) (hc : ComOk S S' rt own) : Inv z N P S' own own mark false rt (i + 1) := by
  have hns : S.ns.length = S.sup.pages.length := by
    have := h.gr.room
    unfold Spa.ns
    rw [List.length_take]
    unfold Spa.freeN at this
    omega
  refine ⟨hc.great, ⟨by rw [hc.sup]; rfl, ?_⟩, by rw [hc.sup]; have := h.gen; show S.sup.gen + 1 ≤ _; omega, by rw [hc.pen]; exact Nat.zero_le _, (fun p hp => by rw [hc.pen] at hp; cases hp), Nat.le_succ_of_le h.lo, Nat.le_succ_of_le h.lo, Nat.le_succ_of_le h.lm, by rw [hc.sup]; exact h.sz, by rw [hc.sup]; exact h.bl, by rw [hc.sup]; exact hns.trans h.np⟩
  rcases hrt with e | e
  · exact .inl e
  · exact .inr (hc.great.hwell.root rt e)
theorem Inv.format {size : Int} {N : Nat} (hg : geoOK size (N : Int) = true) (hchk : chk (fmtS size N) = 0) : Inv size N (fmtN size N) (formatS (dev0 size (N : Int))) [] [] [] false 0 0 := by
  have e : (dev0 size (N : Int)).blocks.toNat = N := by show ((N : Int)).toNat = N; omega
  obtain ⟨g1, g2, g3⟩ := great_format (d := dev0 size (N : Int)) (devG0 hg) (by rw [e]; exact hchk)
  refine ⟨g2, ⟨rfl, .inl rfl⟩, Nat.le_refl _, by rw [g3]; exact Nat.le_refl _, (fun p hp => by rw [g3] at hp; cases hp), Nat.le_refl _, Nat.le_refl _, Nat.le_refl _, rfl, ?_, ?_⟩
  · show (((dev0 size (N : Int)).blocks.toNat : Nat) : Int) = _
    rw [e]
  · show (fmtP (fmtN size (dev0 size (N : Int)).blocks.toNat)).length = _
    rw [fmtP_length, e]
end Go.Proofs.YtjdmggaeagnolaaGreatDoor.V
/- Law 13: an act, done. -/
namespace Go.Proofs.YtjdmggaeagnolaaGreatDoor.V
open Go Go.Proofs Go.RowKit Crc
def DoR (w0 : World) (r db : Nat) (z : Int) (N P i : Nat) (w : World) : Prop :=
  ∃ b S F xo xh xm own held mark mk root, RunX w0 w r db b S F xo xh xm own held mark mk root ∧ Inv z N P S own held mark mk root i
variable {w0 w w' : World} {r db b : Nat} {S : Spa} {F : Nat → Prop} {xo xh xm : SLC} {own held mark : List Nat} {mk : Bool} {root : Nat} {z : Int} {N P i : Nat}
theorem RunX.fresh {l : List Nat} {y : SLC} (h : RunX w0 w r db b S F xo xh xm own held mark mk root) (ho : Owni (numE .u32) 31 w' w.heap.size y.1 y.2.1 y.2.2 l) : RowN w' F r y l :=
  RowN.of (A := y.1) (n := y.2.1) (c := y.2.2) ho (fun k hk => h.sp.lt k hk) h.box.lt
theorem mark_run (h : RunX w0 w r db b S F xo xh xm own held mark mk root) (hi : Inv z N P S own held mark mk root i) (hi6 : i ≤ 100) (n : Int) :
    Calls Tryz.prog 33 #[.pointer (some ⟨r, 0, none⟩), .int .i64 n] w (Ret fun v w' => v = .int .i64 0 ∧ DoR w0 r db z N P (i + 1) w') := by
  have l1 := hi.lo
  have l2 := hi.lh
  have l3 := hi.lm
  apply calls33
  unfold S33
  refine ptr_i (boxE (l := .bool) 5 mk h.box (by rfl) (by rfl) ?_)
  cases mk with
  | false =>
    refine splitW_t (by rfl) ?_
    refine ptr_i (boxE (l := .slc) 2 xo h.box (by rfl) (by rfl) ?_)
    refine callW_of (own_u32 h.ro.sl (by have := h.ro.sl.len; omega)) ?_
    rintro _ w1 ⟨y, rfl, hoy, he1⟩
    refine ⟨y, rfl, ?_⟩
    have h1 := h.ext he1
    have hy := h.fresh hoy
    refine ptr_i (stE h1.box rfl (by simp [runV]) fun w2 hb2 o2 => ?_)
    refine ptr_i (stE hb2 rfl (by simp [runV]) fun w3 hb3 o3 => ?_)
    have h3 : RunX w0 w3 r db b S F xo xh y own held own true root := h1.set (Only.trans o2 o3 (fun j hj => .inl hj)) hb3 h1.ro h1.rh hy
    refine ptr_i (boxE (l := .ptr) 1 (some ⟨b, 0, none⟩) h3.box (by rfl) (by rfl) ?_)
    refine callW_of (sp_mark h3.sp hi.nomark) ?_
    rintro _ w4 ⟨rfl, hst⟩
    refine ⟨_, rfl, rfl, ?_⟩
    obtain ⟨F', h4⟩ := h3.step hst
    exact ⟨b, _, F', xo, xh, y, own, held, own, true, root, h4, hi.mark_⟩
  | true =>
    refine splitW_f (by rfl) ?_
    obtain ⟨l, hml⟩ := hi.marked
    refine splitW_i (fun _ => ?_) (fun _ => ?_)
    · refine ptr_i (boxE (l := .slc) 4 xm h.box (by rfl) (by rfl) ?_)
      refine callW_of (own_u32 h.rm.sl (by have := h.rm.sl.len; omega)) ?_
      rintro _ w1 ⟨y, rfl, hoy, he1⟩
      refine ⟨y, rfl, ?_⟩
      have h1 := h.ext he1
      have hy := h.fresh hoy
      refine ptr_i (stE h1.box rfl (by simp [runV]) fun w2 hb2 o2 => ?_)
      refine ptr_i (stE hb2 rfl (by simp [runV]) fun w3 hb3 o3 => ?_)
      have h3 : RunX w0 w3 r db b S F y xh xm mark held mark false root := h1.set (Only.trans o2 o3 (fun j hj => .inl hj)) hb3 hy h1.rh h1.rm
      refine ptr_i (boxE (l := .ptr) 1 (some ⟨b, 0, none⟩) h3.box (by rfl) (by rfl) ?_)
      refine callW_of (sp_back h3.sp hml) ?_
      rintro _ w4 ⟨rfl, hst⟩
      refine ⟨_, rfl, rfl, ?_⟩
      obtain ⟨F', h4⟩ := h3.step hst
      exact ⟨b, _, F', y, xh, xm, mark, held, mark, false, root, h4, hi.back hml⟩
    · refine ptr_i (stE h.box rfl (by simp [runV]) fun w3 hb3 o3 => ?_)
      have h3 : RunX w0 w3 r db b S F xo xh xm own held mark false root := h.set o3 hb3 h.ro h.rh h.rm
      refine ptr_i (boxE (l := .ptr) 1 (some ⟨b, 0, none⟩) h3.box (by rfl) (by rfl) ?_)
      refine callW_of (sp_done h3.sp hml) ?_
      rintro _ w4 ⟨rfl, hst⟩
      refine ⟨_, rfl, rfl, ?_⟩
      obtain ⟨F', h4⟩ := h3.step hst
      exact ⟨b, _, F', xo, xh, xm, own, held, mark, false, root, h4, hi.done⟩
theorem own_app (h : RunX w0 w r db b S F xo xh xm own held mark mk root) {n c : Nat} {A : Option Addr} {l : List Nat} {K : SLC → WP} {v : Nat} {rb : Nat} (hs : Sli (numE .u32) w A n l) (hn : n ≤ 1000) (hb : Blk w rb [.int .u32 (v : Int)] 31)
    (hK : ∀ y w2, RowN w2 F r y (l ++ [v]) → Ext w w2 → K y w2) :
    callW Tryz.prog 30 [(.slice A n c)] (.one (.one .slc)) (fun u22 => runW Tryz.prog (Builtin.append_ #[40, 40] 40 #[(.slice u22.1 u22.2.1 u22.2.2), (.slice (some (⟨rb, 0, none⟩ : Addr)) 1 1)]) .slc K) w := by
  refine callW_of (own_u32 hs (by omega)) ?_
  rintro _ w1 ⟨y, rfl, hoy, he1⟩
  refine ⟨y, rfl, ?_⟩
  have hyl := hoy.len
  have hl := hs.len
  refine app_one hoy he1.size (hb.ext he1) (by omega) ?_
  intro A' c' w2 ho2 hx2
  exact hK _ w2 (h.fresh (y := (A', y.2.1 + 1, c')) ho2) (hx2 w he1 (Nat.le_refl _))
theorem do_run (h : RunX w0 w r db b S F xo xh xm own held mark mk root) (hi : Inv z N P S own held mark mk root i) (hi6 : i ≤ 100) (hN : N ≤ 40) {a : ActV} (ha : actQ a) (hd : a.2.2.2.2.size ≤ 600) :
    Calls Tryz.prog 8 #[.pointer (some ⟨r, 0, none⟩), .agg (actE.f a).toArray] w (Ret fun v w' => ∃ (n : Nat) (e : Int), v = .tuple #[.int .u32 (n : Int), .int .i64 e] ∧ (e = 0 ∨ e = 3 ∨ e = 9) ∧ DoR w0 r db z N P (i + 1) w') := by
  have l1 := hi.lo
  have l2 := hi.lh
  have l3 := hi.lm
  have hpl := hi.pl
  have hgen := hi.gen
  have hdim := hi.gr.good.dims
  have hNN := hi.n
  apply calls8
  unfold S8
  refine new_i fun r1 w1 hb1 he1 hr1 hz1 => ?_
  have hb1 : Blk w1 r1 (actE.f a) _ := hb1
  have h1 := h.ext he1
  refine boxF (l := .int .i64) 3 a.2.2.2.1 hb1 (by rfl) ?_
  refine callW_of (rpick_calls h1 ha.2.2.1 (by omega)) ?_
  rintro _ w2 ⟨rfl, hw2⟩
  refine ⟨_, rfl, ?_⟩
  rw [hw2]
  refine joinW_s (fun _ w' => Ext w0 w' ∧ DoR w0 r db z N P (i + 1) w') ?_ (fun J hJ => ?_)
  · rintro _ w' ⟨_, hd⟩
    exact ⟨0, 0, rfl, .inl rfl, hd⟩
  have same : DoR w0 r db z N P (i + 1) w1 := ⟨b, S, F, xo, xh, xm, own, held, mark, mk, root, h1, hi.more (Nat.le_succ i)⟩
  refine box0 (l := .int .i64) a.1 hb1 (by rfl) ?_
  refine callW_of (pick_calls w1 ha.1.1 ha.1.2 (by omega)) ?_
  rintro _ w2' ⟨rfl, hw2'⟩
  refine ⟨_, rfl, ?_⟩
  rw [hw2']
  refine joinW_s (fun y w' => y = (decide (pick a.1 10 = 0 ∨ pick a.1 10 = 1 ∨ pick a.1 10 = 2), ()) ∧ w' = w1) ?_ (fun J8 hJ8 => ?_)
  rotate_left
  · refine splitW_i (fun hq => ?_) (fun hq => splitW_i (fun hq2 => ?_) (fun hq2 => ?_))
    · rw [hq]; exact hJ8 _ _ ⟨by rw [decide_eq_true (.inl (beq_iff_eq.1 hq))], rfl⟩
    · rw [hq2]; exact hJ8 _ _ ⟨by rw [decide_eq_true (.inr (.inl (beq_iff_eq.1 hq2)))], rfl⟩
    · refine hJ8 _ _ ⟨?_, rfl⟩
      have a1 := beq_eq_false_iff_ne.1 hq
      have a2 := beq_eq_false_iff_ne.1 hq2
      refine Prod.ext ?_ rfl
      show (pick a.1 10 == 2) = _
      rw [Bool.eq_iff_iff, beq_iff_eq, decide_eq_true_iff]
      omega
  rintro _ w2'' ⟨rfl, hw2''⟩
  rw [hw2'']
  dsimp only
  have hpi := pickI_cases own a.2.2.2.1
  refine splitW_i (fun hq => ?_) (fun hq => ?_)
  · -- Put
    refine boxA (ls := [.int .i64, .int .u8, .int .i64, .int .i64, .str]) (a.1, (a.2.1.toNat : Int), a.2.2.1, a.2.2.2.1, a.2.2.2.2, ()) hb1 rfl ?_
    refine callW_of (runpage_calls h1 ha (by omega)) ?_
    rintro _ w3 ⟨y, rfl, hoy, he3⟩
    refine ⟨pgT (pageP own a) y, rfl, ?_⟩
    refine new_i fun r12 w4 hb4 he4 hr4 hz4 => ?_
    have hk := kidN_le own a.2.2.1
    have hsz3 := he3.size
    have hF4 := h1.sp.lt
    refine refill (vs := pgV (pageP own a) y) hb4 (by rfl) (pgV_one _ y) (by rfl) fun w5 hb5 hx5 hk5 hz5 => ?_
    have he15 : Ext w1 w5 := hx5 w1 (he3.trans he4) (by omega)
    refine draw_i fun w6 he6 _ _ => ?_
    have he16 := he15.trans he6
    have h6 := h1.ext he16
    have hb6 := hb5.ext he6
    have hoy6 : Owni (numE .u32) 31 w6 w1.heap.size y.1 y.2.1 y.2.2 (pageP own a).2.1 := ((hoy.ext he4).only (F := fun k => k = r12) ⟨(hx5 w3 he4 (by omega)).os.trans he4.os.symm, (hx5 w3 he4 (by omega)).tape.trans he4.tape.symm, (hx5 w3 he4 (by omega)).output.trans he4.output.symm, by omega, fun k _ hk => hk5 k hk⟩ (fun j hj e => by have := hoy.row_lt j hj; have : j = r12 := e; omega)).ext he6
    refine ptr_i (boxE (l := .ptr) 1 (some ⟨b, 0, none⟩) h6.box (by rfl) (by rfl) ?_)
    refine boxA (ls := pgLs) (pgT (pageP own a) y) hb6 rfl ?_
    have hkl : (pageP own a).2.1.length = kidN own a.2.2.1 := by unfold pageP; simp; omega
    have hperm : own.Perm ((pageP own a).2.1 ++ own.take (own.length - kidN own a.2.2.1)) := by
      have e : own = own.take (own.length - kidN own a.2.2.1) ++ (pageP own a).2.1 := (List.take_append_drop _ _).symm
      exact (List.Perm.of_eq e).trans List.perm_append_comm
    have hroom : S.room 0 = S.sup.size - 18 := by unfold Spa.room; rw [hdim.room, if_neg (by have := hdim.size; omega)]; omega
    refine callW_of (sp_put h6.sp (p := pageP own a) (hi.gr.perm hperm) (by omega) hoy6.sl (fun A hA hf => ?_) ?_ ?_ ?_) ?_
    · have := hoy6.row A.block (by rw [hA]; rfl)
      have := hF4 _ hf
      omega
    · show 3 ≤ (tagP a.2.1).toNat
      rw [tagP_nat]; omega
    · rw [hkl, hroom]; have := hdim.size; omega
    · show a.2.2.2.2.size ≤ _
      omega
    rintro _ w7 ⟨S', n, e, rfl, hput, hst⟩
    refine ⟨((n : Int), e, ()), rfl, ?_⟩
    obtain ⟨F', h7⟩ := h6.step hst
    dsimp only
    rcases hput with ⟨rfl, rfl, rfl, _⟩ | ⟨rfl, rfl, rfl, _⟩ | ⟨he, hP, hG, hpen⟩
    · refine splitW_f (by rfl) ⟨0, 3, rfl, .inr (.inl rfl), b, _, F', xo, xh, xm, own, held, mark, mk, root, h7, hi.more (Nat.le_succ i)⟩
    · refine splitW_f (by rfl) ⟨0, 9, rfl, .inr (.inr rfl), b, _, F', xo, xh, xm, own, held, mark, mk, root, h7, hi.more (Nat.le_succ i)⟩
    · rw [he]
      refine splitW_t (by rfl) ?_
      have hI := hi.put hP hG hpen.1
      obtain ⟨F2, g1, g2, g3⟩ := hst
      have hb7 : Blk w7 r12 (pgV (pageP own a) y) _ := hb6.only g3 (fun hf => by
        have := hF4 _ hf
        omega)
      refine draw_i fun w8 he8 _ _ => ?_
      have h8 := h7.ext he8
      have hb8 := hb7.ext he8
      refine ptr_i (boxE (l := .slc) 2 xo h8.box (by rfl) (by rfl) ?_)
      refine ptr_i (boxE (l := .slc) 2 xo h8.box (by rfl) (by rfl) ?_)
      refine boxF (l := .slc) 1 y hb8 (by rfl) ?_
      have hol := h8.ro.sl.len
      have hcap := h8.ro.cap
      have hyl := hoy.len
      have e3 : IntKind.wrap .i64 (((xo.2.1 : Nat) : Int) - ((y.2.1 : Nat) : Int)) = ((own.length - kidN own a.2.2.1 : Nat) : Int) := by rw [wrap_i64 (by omega) (by omega)]; omega
      rw [e3, Int.toNat_natCast]
      refine guard_i (by omega) ?_
      have hsl := (h8.ro.sl).cut0 (k := own.length - kidN own a.2.2.1) (m := xo.2.2) (z := 1) rfl (by omega) (by omega)
      have fin : ∀ {y2 : SLC} {w9 : World}, RowN w9 F' r y2 (own.take (own.length - kidN own a.2.2.1) ++ [n]) → Ext w8 w9 → (ptrW (some ⟨r, 0, none⟩) fun p25 : Addr => stW (p25.add 2) (.slice y2.1 y2.2.1 y2.2.2) fun w' => ∃ (n' : Nat) (e' : Int), Value.tuple #[.int .u32 (n : Int), .int .i64 0] = .tuple #[.int .u32 (n' : Int), .int .i64 e'] ∧ (e' = 0 ∨ e' = 3 ∨ e' = 9) ∧ DoR w0 r db z N P (i + 1) w') w9 := by
        intro y2 w9 hr9 he9
        have h9 := h8.ext he9
        refine ptr_i (stE h9.box rfl (by simp [runV]) fun w10 hb10 o10 => ?_)
        exact ⟨n, 0, rfl, .inl rfl, b, S', F', y2, xh, xm, _, held, mark, mk, root, h9.set o10 hb10 hr9 h9.rh h9.rm, hI⟩
      have hold : ∀ {wx : World}, Ext w8 wx → HL wx [((⟨r12, 0, none⟩ : Addr).add 1, .slice y.1 y.2.1 y.2.2)] ∧ HL wx [((⟨r, 0, none⟩ : Addr).add 2, .slice xo.1 xo.2.1 xo.2.2)] := fun hx => ⟨held1F (hb8.ext hx) (by rfl), held1F (h8.box.ext hx) (by rfl)⟩
      refine ⟨?_, ?_⟩
      · refine callW_of (own_u32 hsl (by omega)) ?_
        rintro _ w9 ⟨y9, rfl, ho9, he9⟩
        refine ⟨y9, rfl, ?_⟩
        refine new_i fun r23 w10 hb10 he10 _ _ => ?_
        refine h3_i (hold (he9.trans he10)).1 (hold (he9.trans he10)).2 (hold (he9.trans he10)).2 ?_
        have h9l := ho9.len
        have htl : (own.take (own.length - kidN own a.2.2.1)).length ≤ 100 := by rw [List.length_take]; omega
        refine app_one (ho9.ext he10) (he9.trans he10).size (by exact hb10) (by omega) ?_
        intro A' c' w11 ho11 hx11
        exact fin (y2 := (A', y9.2.1 + 1, c')) (h8.fresh (y := (A', y9.2.1 + 1, c')) ho11) (hx11 w8 (he9.trans he10) (Nat.le_refl _))
      · refine new_i fun r26 w9 hb9 he9 _ _ => ?_
        refine h3_i (hold he9).1 (hold he9).2 (hold he9).2 ?_
        have htl : (own.take (own.length - kidN own a.2.2.1)).length ≤ 100 := by rw [List.length_take]; omega
        refine own_app (h8.ext he9) (hsl.ext he9) (by omega) (by exact hb9) ?_
        intro y2 w10 hr10 he10
        exact fin hr10 (he9.trans he10)
  refine splitW_i (fun hq4 => ?_) (fun hq4 => ?_)
  · -- Share
    refine splitW_i (fun hu => ?_) (fun hu => ?_)
    rotate_left
    · exact hJ _ _ ⟨h1.x, same⟩
    have hu := of_decide_eq_true hu
    obtain ⟨j, hj, hjl⟩ : ∃ j : Nat, pickI own a.2.2.2.1 = (j : Int) ∧ j < own.length := by
      rcases hpi with e | e
      · omega
      · exact e
    rw [hj]
    have hxl := h1.ro.sl.len
    have hmem : own.getD j 0 ∈ own := by rw [List.getD_eq_getElem?_getD, List.getElem?_eq_getElem hjl]; exact List.getElem_mem _
    have hused := hi.gr.good.well.root _ hmem
    have hlt := hi.gr.good.well.lt hused
    refine draw_i fun w3 he3 _ _ => ?_
    have h3 := h1.ext he3
    refine ptr_i (boxE (l := .ptr) 1 (some ⟨b, 0, none⟩) h3.box (by rfl) (by rfl) ?_)
    refine ptr_i (boxE (l := .slc) 2 xo h3.box (by rfl) (by rfl) ?_)
    refine idx_num h3.ro.sl (by omega) (by omega) ?_
    rw [Int.toNat_natCast]
    have hsm := cnt_small hi.gr.good hused
    have hcl : own.count (own.getD j 0) ≤ own.length := List.count_le_length
    have h65 : S.now.getD (own.getD j 0) 0 < 65535 := by rw [hNN] at hsm; omega
    refine callW_of (sp_share h3.sp hi.gr hused h65) ?_
    rintro _ w4 ⟨rfl, hG, hst⟩
    refine ⟨_, rfl, splitW_t (by rfl) ?_⟩
    obtain ⟨F', h4⟩ := h3.step hst
    have hI := hi.now (own' := own ++ [own.getD j 0]) (hG.perm (List.perm_append_singleton _ own).symm) (by rw [List.length_append, List.length_singleton]; omega)
    refine draw_i fun w5 he5 _ _ => ?_
    have h5 := h4.ext he5
    refine ptr_i (boxE (l := .slc) 2 xo h5.box (by rfl) (by rfl) ?_)
    refine ptr_i (boxE (l := .slc) 2 xo h5.box (by rfl) (by rfl) ?_)
    have fin : ∀ {y2 : SLC} {w9 : World}, RowN w9 F' r y2 (own ++ [own.getD j 0]) → Ext w5 w9 → (ptrW (some ⟨r, 0, none⟩) fun p25 : Addr => stW (p25.add 2) (.slice y2.1 y2.2.1 y2.2.2) fun w' => ∃ (n' : Nat) (e' : Int), Value.tuple #[.int .u32 (0 : Int), .int .i64 0] = .tuple #[.int .u32 (n' : Int), .int .i64 e'] ∧ (e' = 0 ∨ e' = 3 ∨ e' = 9) ∧ DoR w0 r db z N P (i + 1) w') w9 := by
      intro y2 w9 hr9 he9
      have h9 := h5.ext he9
      refine ptr_i (stE h9.box rfl (by simp [runV]) fun w10 hb10 o10 => ?_)
      exact ⟨0, 0, rfl, .inl rfl, b, _, F', y2, xh, xm, _, held, mark, mk, root, h9.set o10 hb10 hr9 h9.rh h9.rm, hI⟩
    have hx5 : own[j]? = some (own.getD j 0) := by rw [List.getD_eq_getElem?_getD, List.getElem?_eq_getElem hjl]; rfl
    obtain ⟨pa, hpa, hsp, hcl5⟩ := h5.ro.sl.at_ hx5
    have hcell : w5.cell? (pa.add (Int.toNat ((j : Nat) : Int) * 1)) = some (.int .u32 ((own.getD j 0 : Nat) : Int)) := by
      have := hcl5.1
      rw [add_zero] at this
      exact this
    refine guard_i (by omega) ⟨pa, hpa, _, hcell, ?_⟩
    have hold : ∀ {wx : World}, Ext w5 wx → HL wx [(pa.add (Int.toNat ((j : Nat) : Int) * 1), .int .u32 ((own.getD j 0 : Nat) : Int))] ∧ HL wx [((⟨r, 0, none⟩ : Addr).add 2, .slice xo.1 xo.2.1 xo.2.2)] := fun hx => ⟨fun q hq => by rw [List.mem_singleton.1 hq]; exact hx.cell hcell, held1F (h5.box.ext hx) (by rfl)⟩
    refine ⟨?_, ?_⟩
    · refine callW_of (own_u32 h5.ro.sl (by omega)) ?_
      rintro _ w9 ⟨y9, rfl, ho9, he9⟩
      refine ⟨y9, rfl, ?_⟩
      refine h2_i (hold he9).1 (hold he9).2 ?_
      refine new_i fun r23 w10 hb10 he10 _ _ => ?_
      refine h1_i (hold (he9.trans he10)).2 ?_
      have h9l := ho9.len
      refine app_one (ho9.ext he10) (he9.trans he10).size (by exact hb10) (by omega) ?_
      intro A' c' w11 ho11 hx11
      exact fin (y2 := (A', y9.2.1 + 1, c')) (h5.fresh (y := (A', y9.2.1 + 1, c')) ho11) (hx11 w5 (he9.trans he10) (Nat.le_refl _))
    · refine new_i fun r26 w9 hb9 he9 _ _ => ?_
      refine h1_i (hold he9).2 ?_
      refine callW_of (own_u32 (h5.ro.sl.ext he9) (by omega)) ?_
      rintro _ w10 ⟨y9, rfl, ho9, he10⟩
      refine ⟨y9, rfl, ?_⟩
      refine h2_i (hold (he9.trans he10)).1 (hold (he9.trans he10)).2 ?_
      have h9l := ho9.len
      refine app_one ho9 he10.size (by exact hb9.ext he10) (by omega) ?_
      intro A' c' w11 ho11 hx11
      exact fin (y2 := (A', y9.2.1 + 1, c')) ((h5.ext he9).fresh (y := (A', y9.2.1 + 1, c')) ho11) (he9.trans (hx11 w9 he10 (Nat.le_refl _)))
  refine splitW_i (fun hq5 => ?_) (fun hq5 => ?_)
  · -- Drop
    refine splitW_i (fun hu => ?_) (fun hu => ?_)
    rotate_left
    · exact hJ _ _ ⟨h1.x, same⟩
    have hu := of_decide_eq_true hu
    obtain ⟨j, hj, hjl⟩ : ∃ j : Nat, pickI own a.2.2.2.1 = (j : Int) ∧ j < own.length := by
      rcases hpi with e | e
      · omega
      · exact e
    rw [hj]
    have hxl := h1.ro.sl.len
    have hmem : own.getD j 0 ∈ own := by rw [List.getD_eq_getElem?_getD, List.getElem?_eq_getElem hjl]; exact List.getElem_mem _
    have hused := hi.gr.good.well.root _ hmem
    have hlt := hi.gr.good.well.lt hused
    have hgd : own.getD j 0 = own[j] := by rw [List.getD_eq_getElem?_getD, List.getElem?_eq_getElem hjl]; rfl
    have hperm : own.Perm (own.getD j 0 :: (own.take j ++ own.drop (j + 1))) := by
      have e : own = own.take j ++ own.getD j 0 :: own.drop (j + 1) := by rw [hgd, ← List.drop_eq_getElem_cons hjl, List.take_append_drop]
      exact (List.Perm.of_eq e).trans List.perm_middle
    refine draw_i fun w3 he3 _ _ => ?_
    have h3 := h1.ext he3
    refine ptr_i (boxE (l := .ptr) 1 (some ⟨b, 0, none⟩) h3.box (by rfl) (by rfl) ?_)
    refine ptr_i (boxE (l := .slc) 2 xo h3.box (by rfl) (by rfl) ?_)
    refine idx_num h3.ro.sl (by omega) (by omega) ?_
    rw [Int.toNat_natCast]
    refine callW_of (sp_drop h3.sp (hi.gr.perm hperm)) ?_
    rintro _ w4 ⟨rfl, c', hG, hst, _, _⟩
    refine ⟨_, rfl, ?_⟩
    obtain ⟨F', h4⟩ := h3.step hst
    have hI := hi.now (own' := own.take j ++ own.drop (j + 1)) hG (by rw [List.length_append, List.length_take, List.length_drop]; omega)
    refine draw_i fun w5 he5 _ _ => ?_
    have h5 := h4.ext he5
    have hcap := h5.ro.cap
    refine ptr_i (boxE (l := .slc) 2 xo h5.box (by rfl) (by rfl) ?_)
    refine guard_i (by omega) ?_
    refine ptr_i (boxE (l := .slc) 2 xo h5.box (by rfl) (by rfl) ?_)
    have e1 : IntKind.wrap .i64 (((j : Nat) : Int) + 1) = ((j + 1 : Nat) : Int) := by rw [wrap_i64 (by omega) (by omega)]; omega
    rw [e1, Int.toNat_natCast]
    refine guard_i (by omega) ?_
    have hs1 := (h5.ro.sl).cut0 (k := j) (m := xo.2.2) (z := 1) rfl (by omega) (by omega)
    have hs2 := (h5.ro.sl).cut (l := j + 1) (k := xo.2.1 - (j + 1)) (m := xo.2.2) (z := 1) rfl (by omega) (by omega)
    rw [List.take_of_length_le (by rw [List.length_drop]; omega)] at hs2
    refine callW_of (own_u32 hs1 (by omega)) ?_
    rintro _ w6 ⟨y6, rfl, ho6, he6⟩
    refine ⟨y6, rfl, ?_⟩
    refine h1_i (held1F (h5.box.ext he6) (by rfl)) ?_
    have h6l := ho6.len
    have htl : (own.take j).length ≤ 100 := by rw [List.length_take]; omega
    refine append_sli elem_u32 ho6 he6.size (hs2.ext he6) (by omega) (by omega) ?_
    intro A' c2 w7 ho7 hg7 _
    have he7 : Ext w5 w7 := he6.grown hg7.grown (fun q hq => ho6.row q hq)
    have h7 := h5.ext he7
    have hr7 : RowN w7 F' r (A', y6.2.1 + (xo.2.1 - (j + 1)), c2) (own.take j ++ own.drop (j + 1)) := h5.fresh (y := (A', y6.2.1 + (xo.2.1 - (j + 1)), c2)) ho7
    refine ptr_i (stE h7.box rfl (by simp [runV]) fun w8 hb8 o8 => ?_)
    exact ⟨0, 0, rfl, .inl rfl, b, _, F', _, xh, xm, _, held, mark, mk, root, h7.set o8 hb8 hr7 h7.rh h7.rm, hI⟩
  refine splitW_i (fun hq6 => ?_) (fun hq6 => ?_)
  · -- Commit
    refine joinW_s (fun y w' => ∃ rt : Nat, y = ((rt : Int), ()) ∧ (rt = 0 ∨ rt ∈ own) ∧ w' = w1) ?_ (fun J65 hJ65 => ?_)
    rotate_left
    · have z0 : J65 (0, ()) w1 := hJ65 _ _ ⟨0, rfl, .inl rfl, rfl⟩
      refine splitW_i (fun hu => ?_) (fun _ => z0)
      have hu := of_decide_eq_true hu
      obtain ⟨j, hj, hjl⟩ : ∃ j : Nat, pickI own a.2.2.2.1 = (j : Int) ∧ j < own.length := by
        rcases hpi with e | e
        · omega
        · exact e
      have hxl := h1.ro.sl.len
      have hmem : own.getD j 0 ∈ own := by rw [List.getD_eq_getElem?_getD, List.getElem?_eq_getElem hjl]; exact List.getElem_mem _
      refine boxF (l := .int .i64) 3 a.2.2.2.1 hb1 (by rfl) ?_
      refine splitW_i (fun _ => ?_) (fun _ => z0)
      rw [hj]
      refine ptr_i (boxE (l := .slc) 2 xo h1.box (by rfl) (by rfl) ?_)
      refine idx_num h1.ro.sl (by omega) (by omega) ?_
      rw [Int.toNat_natCast]
      exact hJ65 _ _ ⟨own.getD j 0, rfl, .inr hmem, rfl⟩
    rintro _ w3 ⟨rt, rfl, hrt, hw3⟩
    rw [hw3]
    dsimp only
    refine ptr_i (boxE (l := .ptr) 1 (some ⟨b, 0, none⟩) h1.box (by rfl) (by rfl) ?_)
    refine callW_of (sp_commit h1.sp hi.gr (root := rt) (hrt.imp id (fun e => hi.gr.good.well.root _ e)) (by omega) (by omega)) ?_
    rintro _ w4 ⟨rfl, hC, hst⟩
    refine ⟨_, rfl, splitW_t (by rfl) ?_⟩
    obtain ⟨F', h4⟩ := h1.step hst
    have hI := hi.commit hrt hC
    have hxl := h4.ro.sl.len
    refine ptr_i (boxE (l := .slc) 2 xo h4.box (by rfl) (by rfl) ?_)
    refine callW_of (own_u32 h4.ro.sl (by omega)) ?_
    rintro _ w5 ⟨y5, rfl, ho5, he5⟩
    refine ⟨y5, rfl, ?_⟩
    have h5 := h4.ext he5
    have hy := h4.fresh ho5
    refine ptr_i (stE h5.box rfl (by simp [runV]) fun w6 hb6 o6 => ?_)
    refine ptr_i (stE hb6 rfl (by simp [runV]) fun w7 hb7 o7 => ?_)
    refine ptr_i (stE hb7 rfl (by simp [runV]) fun w8 hb8 o8 => ?_)
    exact ⟨rt, 0, rfl, .inl rfl, b, _, F', xo, y5, xm, own, own, mark, false, rt, h5.set (Only.trans (Only.trans o6 o7 (fun j hj => .inl hj)) o8 (fun j hj => .inl hj)) hb8 h5.ro hy h5.rm, hI⟩
  refine splitW_i (fun hq7 => ?_) (fun hq7 => ?_)
  · -- Abort
    refine ptr_i (boxE (l := .ptr) 1 (some ⟨b, 0, none⟩) h1.box (by rfl) (by rfl) ?_)
    refine callW_of (sp_abort h1.sp) ?_
    rintro _ w4 ⟨rfl, hst⟩
    refine ⟨_, rfl, ?_⟩
    obtain ⟨F', h4⟩ := h1.step hst
    have hxl := h4.rh.sl.len
    refine ptr_i (boxE (l := .slc) 3 xh h4.box (by rfl) (by rfl) ?_)
    refine callW_of (own_u32 h4.rh.sl (by omega)) ?_
    rintro _ w5 ⟨y5, rfl, ho5, he5⟩
    refine ⟨y5, rfl, ?_⟩
    have h5 := h4.ext he5
    have hy := h4.fresh ho5
    refine ptr_i (stE h5.box rfl (by simp [runV]) fun w6 hb6 o6 => ?_)
    refine ptr_i (stE hb6 rfl (by simp [runV]) fun w7 hb7 o7 => ?_)
    exact ⟨0, 0, rfl, .inl rfl, b, _, F', y5, xh, xm, held, held, mark, false, root, h5.set (Only.trans o6 o7 (fun j hj => .inl hj)) hb7 hy h5.rh h5.rm, hi.abort⟩
  refine splitW_i (fun hq8 => ?_) (fun hq8 => ?_)
  · -- Mark
    refine boxF (l := .int .i64) 3 a.2.2.2.1 hb1 (by rfl) ?_
    refine callW_of (mark_run h1 hi hi6 a.2.2.2.1) ?_
    rintro _ w4 ⟨rfl, hd⟩
    exact ⟨_, rfl, 0, 0, rfl, .inl rfl, hd⟩
  refine splitW_i (fun hq9 => ?_) (fun hq9 => ?_)
  · -- Open
    refine ptr_i (boxE (l := .ptr) 0 (some ⟨db, 0, none⟩) h1.box (by rfl) (by rfl) ?_)
    refine callW_of (sp_open h1.sp hi.gr) ?_
    rintro _ w4 ⟨b', F', rfl, hS, he4, hb4, hF4⟩
    refine ⟨(some ⟨b', 0, none⟩, 0, ()), rfl, splitW_t (by rfl) ?_⟩
    have h4 := h1.ext he4
    have hxl := h4.rh.sl.len
    refine ptr_i (boxE (l := .slc) 3 xh h4.box (by rfl) (by rfl) ?_)
    refine callW_of (own_u32 h4.rh.sl (by omega)) ?_
    rintro _ w5 ⟨y5, rfl, ho5, he5⟩
    refine ⟨y5, rfl, ?_⟩
    have h5 := h4.ext he5
    have hy : RowN w5 F' r y5 held := RowN.of (A := y5.1) (n := y5.2.1) (c := y5.2.2) ho5 (fun k hk => hS.lt k hk) h4.box.lt
    refine ptr_i (stE h5.box rfl (by simp [runV]) fun w6 hb6 o6 => ?_)
    refine ptr_i (stE hb6 rfl (by simp [runV]) fun w7 hb7 o7 => ?_)
    refine ptr_i (stE hb7 rfl (by simp [runV]) fun w8 hb8 o8 => ?_)
    exact ⟨0, 0, rfl, .inl rfl, b', _, F', y5, xh, xm, held, held, mark, false, root, RunX.swap h1 (he4.trans he5) (hS.ext he5) hF4 (Only.trans (Only.trans o6 o7 (fun j hj => .inl hj)) o8 (fun j hj => .inl hj)) hb8 hy, hi.abort⟩
  exact hJ _ _ ⟨h1.x, same⟩
end Go.Proofs.YtjdmggaeagnolaaGreatDoor.V
/- Spaces of which nothing is owned: plain. Leaves that are dropped. -/
namespace Go.Proofs.YtjdmggaeagnolaaGreatDoor.V
open Go Go.Proofs Go.RowKit Crc
theorem drp_leaf {S : Spa} {R c' : List Nat} {n : Nat} (hg : Good S (n :: R)) (h1 : S.now.getD n 0 = 1) (hk : kidsP S.page n = []) (hD : Drp S.asked S.page S.now [n] c' 0) : c' = S.now.set n 0 := by
  have hu := hg.well.root n List.mem_cons_self
  rcases hD.inv with ⟨a1, _⟩ | ⟨a1, _⟩ | ⟨_, _, _, a1⟩ | ⟨_, _, _, a1, _⟩ | ⟨_, _, _, a1⟩
  · exact absurd h1 a1
  · exact absurd h1 a1
  · cases a1
  · exact absurd rfl a1
  · rw [hk] at a1
    rw [subL_used hg.well hu, h1] at a1
    cases a1
    rfl
theorem put_drop {S S' : Spa} {p : Page} {n : Nat} {c' : List Nat} (h : PutOk S S' p n) (hl : S.now.length = S.N) (hc : c' = S'.now.set n 0) : c' = S.now ∧ ({ S' with now := c' } : Spa).freeN = S.freeN := by
  have h0 := (isFree_iff.1 h.free).1
  have hn := h.lt
  have e : c' = S.now := by
    rw [hc, h.now, List.set_set]
    refine list_ext_getD (by rw [List.length_set]) (fun k => ?_)
    rw [getD_setN]
    split
    · rename_i hh
      rw [← hh.1]
      exact h0.symm
    · rfl
  refine ⟨e, ?_⟩
  subst e
  unfold Spa.freeN Spa.freeL Spa.isFree Spa.N
  show ((List.range S'.sup.blocks.toNat).filter fun n => decide (2 ≤ n) && (S.now.getD n 0 == 0 && S'.held.getD n 0 == 0 && cnt S'.mark n == 0)).length = _
  rw [h.sup, h.held, h.mark]
end Go.Proofs.YtjdmggaeagnolaaGreatDoor.V
/- Law 13: the spaces that all begin with; the chapter's first example. -/
namespace Go.Proofs.YtjdmggaeagnolaaGreatDoor.V
open Go Go.Proofs Go.RowKit Crc
theorem made_calls (w : World) (size blocks : Int) : Calls Tryz.prog 21 #[.agg #[.int .i64 size, .int .i64 blocks]] w (Ret fun v w' => (∃ p, v = .tuple #[.pointer p, .pointer none] ∧ Ext w w') ∨
    (geoOK size blocks = true ∧ chk (fmtS size blocks.toNat) = 0 ∧ ∃ db b, v = .tuple #[.pointer (some ⟨db, 0, none⟩), .pointer (some ⟨b, 0, none⟩)] ∧ At w w' b db (formatS (dev0 size blocks)))) := by
  apply calls21
  unfold S21
  refine new_i fun r1 w1 hb1 he1 hr1 _ => ?_
  refine boxA (ls := [.int .i64, .int .i64]) (size, blocks, ()) hb1 rfl ?_
  refine callW_of (dnew_calls w1 size blocks) ?_
  rintro _ w2 (⟨hg, db, rfl, hd⟩ | ⟨hg, rfl, he2⟩)
  · refine ⟨(some ⟨db, 0, none⟩, 0, ()), rfl, ?_⟩
    refine callW_of (at_format (hd.pre he1) (devG0 hg) (by show ([] : List (Int × ByteArray)).length ≤ _; simp)) ?_
    rintro _ w3 (⟨hne, rfl, he3⟩ | ⟨hok, b, rfl, hat⟩)
    · exact ⟨(none, _, ()), rfl, splitW_t (bne_iff_ne.2 hne) (.inl ⟨_, rfl, he3⟩)⟩
    · refine ⟨(some ⟨b, 0, none⟩, 0, ()), rfl, splitW_f (by rfl) (.inr ⟨hg, ?_, db, b, rfl, hat⟩)⟩
      by_cases hc : chk (fmtS size blocks.toNat) = 0
      · exact hc
      · have : (formatD (dev0 size blocks)).2 = chk (fmtS size blocks.toNat) := by
          unfold formatD
          rw [if_pos (show chk (fmtS (dev0 size blocks).size (dev0 size blocks).blocks.toNat) ≠ 0 from hc)]
          rfl
        rw [this] at hok
        exact hok
  · refine ⟨(none, 2, ()), rfl, ?_⟩
    refine callW_of (format_nil w2) ?_
    rintro _ w3 ⟨rfl, hw3⟩
    rw [hw3]
    exact ⟨(none, 1, ()), rfl, splitW_t (by rfl) (.inl ⟨_, rfl, he1.trans he2⟩)⟩
theorem begin_calls (w : World) (size blocks : Int) : Calls Tryz.prog 7 #[.agg #[.int .i64 size, .int .i64 blocks]] w (Ret fun v w' => (v = .pointer none ∧ Ext w w') ∨
    (geoOK size blocks = true ∧ chk (fmtS size blocks.toNat) = 0 ∧ ∃ r db b F, v = .pointer (some ⟨r, 0, none⟩) ∧ RunX w w' r db b (formatS (dev0 size blocks)) F (none, 0, 0) (none, 0, 0) (none, 0, 0) [] [] [] false 0)) := by
  apply calls7
  unfold S7
  refine new_i fun r1 w1 hb1 he1 hr1 _ => ?_
  refine boxA (ls := [.int .i64, .int .i64]) (size, blocks, ()) hb1 rfl ?_
  refine callW_of (made_calls w1 size blocks) ?_
  rintro _ w2 (⟨p, rfl, he2⟩ | ⟨hg, hc, db, b, rfl, F, hS, hF, hx⟩)
  · exact ⟨(p, none, ()), rfl, splitW_t (by rfl) (.inl ⟨rfl, he1.trans he2⟩)⟩
  · refine ⟨(some ⟨db, 0, none⟩, some ⟨b, 0, none⟩, ()), rfl, splitW_f (by rfl) ?_⟩
    refine new_i fun r4 w4 hb4 he4 hr4 _ => ?_
    have h02 := he1.trans hx
    have hs := h02.size
    refine .inr ⟨hg, hc, r4, db, b, F, rfl, hb4, hS.ext he4, fun k hk => Nat.le_trans he1.size (hF k hk), ⟨by omega, fun hf => ?_⟩, RowN.nil _ _ _, RowN.nil _ _ _, RowN.nil _ _ _, h02.trans he4⟩
    have := hS.lt _ hf
    omega
theorem nat_of_geo {size blocks : Int} (h : geoOK size blocks = true) : ∃ N : Nat, blocks = (N : Int) := by
  obtain ⟨g1, g2, g3, g4, g5⟩ := geo_dims h
  exact ⟨blocks.toNat, by omega⟩
def S0 : Spa := formatS (dev0 128 12)
theorem geo0 : geoOK 128 12 = true := by decide
theorem fmtN0 : fmtN 128 12 = 1 := by decide
theorem chk0 : chk (fmtS 128 12) = 0 := by
  have h := chk_fmt (size := 128) (N := 12) geo0
  rw [h, fmtN0]
  decide
theorem s0_great : Great S0 [] [] none ∧ S0.dev.pen = [] := (great_format (devG0 geo0) chk0).2
theorem s0_sup : S0.sup = fmtS 128 12 := rfl
theorem s0_pages : S0.sup.pages = [2] := by rw [s0_sup]; show fmtP (fmtN 128 12) = [2]; rw [fmtN0]; rfl
theorem s0_room (k : Int) : S0.room k = if k < 0 ∨ k > 27 then 0 else 110 - 4 * k := by
  unfold Spa.room
  rw [s0_sup]
  have : roomOf (fmtS 128 12).size - 2 = 110 := by decide
  rw [this]
  rfl
theorem s0_freeL : S0.freeL = [3, 4, 5, 6, 7, 8, 9, 10, 11] := by
  unfold Spa.freeL Spa.isFree Spa.N
  show ((List.range (Int.toNat 12)).filter fun n => decide (2 ≤ n) && ((fmtC 12 (fmtN 128 12)).getD n 0 == 0 && (fmtC 12 (fmtN 128 12)).getD n 0 == 0 && cnt none n == 0)) = _
  rw [fmtN0]
  decide
theorem small_calls (w : World) : Calls Tryz.prog 22 #[] w (Ret fun v w' => v = .agg #[.int .i64 128, .int .i64 12] ∧ Ext w w') := by
  apply calls22
  unfold S22
  refine new_i fun r1 w1 hb1 he1 hr1 _ => ?_
  refine refill (vs := [.int .i64 128, .int .i64 12]) hb1 (by rfl) (fun v hv => by
    simp only [List.mem_cons, List.not_mem_nil, or_false] at hv
    rcases hv with rfl | rfl <;> rfl) (by rfl) (fun w' hb' hx hs hz => ?_)
  refine boxA (ls := [.int .i64, .int .i64]) (128, 12, ()) hb' rfl ⟨rfl, hx w he1 (by omega)⟩
theorem madeS_calls (w : World) : Calls Tryz.prog 21 #[.agg #[.int .i64 128, .int .i64 12]] w (Ret fun v w' => ∃ db b F, v = .tuple #[.pointer (some ⟨db, 0, none⟩), .pointer (some ⟨b, 0, none⟩)] ∧ SpAt w' b db S0 F ∧ (∀ k, F k → w.heap.size ≤ k) ∧ Ext w w') := by
  apply calls21
  unfold S21
  refine new_i fun r1 w1 hb1 he1 hr1 _ => ?_
  refine boxA (ls := [.int .i64, .int .i64]) (128, 12, ()) hb1 rfl ?_
  refine callW_of (dnew_calls w1 128 12) ?_
  rintro _ w2 (⟨_, db, rfl, hd⟩ | ⟨hg, _⟩)
  · refine ⟨(some ⟨db, 0, none⟩, 0, ()), rfl, ?_⟩
    refine callW_of (at_format (hd.pre he1) (devG0 geo0) (by show ([] : List (Int × ByteArray)).length ≤ _; simp)) ?_
    rintro _ w3 (⟨hne, _⟩ | ⟨_, b, rfl, F, h1, h2, h3⟩)
    · exact absurd (great_format (devG0 geo0) chk0).1 hne
    · exact ⟨(some ⟨b, 0, none⟩, 0, ()), rfl, splitW_f (by rfl) ⟨db, b, F, rfl, h1, h2, h3⟩⟩
  · rw [geo0] at hg; cases hg
theorem same32_calls {w : World} {A A2 : Option Addr} {n c n2 c2 : Nat} {xs ys : List Nat} (h : Sli (numE .u32) w A n xs) (h2 : Sli (numE .u32) w A2 n2 ys) :
    Calls Tryz.prog 62 #[.slice A n c, .slice A2 n2 c2] w (Ret fun v w' => v = .bool (decide (xs = ys)) ∧ Ext w w') := by
  apply calls62
  unfold S62
  have l1 := h.len
  have l2 := h2.len
  have hle := h.le
  refine splitW_i (fun hq => ?_) (fun hq => ?_)
  · have hq := bne_iff_ne.1 hq
    refine ⟨?_, Ext.refl w⟩
    rw [decide_eq_false]
    rintro rfl
    omega
  have hq := bne_eq_false_iff_eq.1 hq
  refine loopW_i (fun y w' => ∃ i : Nat, i ≤ n ∧ y = ((i : Int), ()) ∧ Ext w w' ∧ ∀ j, j < i → xs.getD j 0 = ys.getD j 0) (fun y => (n - y.1).toNat) ⟨0, by omega, rfl, Ext.refl w, fun j hj => by omega⟩ ?_
  rintro _ w1 ⟨i, hi, rfl, he1, hall⟩
  dsimp only
  by_cases hlt : i < n
  · refine splitW_t (decide_eq_true (by omega)) ?_
    refine draw_i fun w2 he2 _ _ => ?_
    have he := he1.trans he2
    refine idx_num (h.ext he) (by omega) (by omega) ?_
    refine idx_num (h2.ext he) (by omega) (by omega) ?_
    rw [Int.toNat_natCast]
    refine splitW_i (fun hne => ?_) (fun hee => ?_)
    · have hne := bne_iff_ne.1 hne
      refine ⟨?_, he⟩
      rw [decide_eq_false]
      rintro rfl
      exact hne rfl
    · have hee := bne_eq_false_iff_eq.1 hee
      refine ⟨⟨i + 1, by omega, by rw [wrap_i64 (by omega) (by omega)]; rfl, he, fun j hj => ?_⟩, by rw [wrap_i64 (by omega) (by omega)]; omega⟩
      by_cases e : j = i
      · subst e; omega
      · exact hall j (by omega)
  · refine splitW_f (decide_eq_false (by omega)) ⟨?_, he1⟩
    rw [decide_eq_true]
    exact list_ext_getD (by omega) (fun k => by
      by_cases hk : k < i
      · exact hall k hk
      · rw [List.getD_eq_getElem?_getD, List.getD_eq_getElem?_getD, List.getElem?_eq_none (by omega), List.getElem?_eq_none (by omega)])
def pgEq (p q : Page) : Bool := decide (p.1 = q.1) && (decide (B p.2.2 = B q.2.2) && decide (p.2.1 = q.2.1))
theorem pgEq_self (p : Page) : pgEq p p = true := by simp [pgEq]
theorem samepages_calls {w : World} {p q : Page} {x y : SLC} (h : Sli (numE .u32) w x.1 x.2.1 p.2.1) (h2 : Sli (numE .u32) w y.1 y.2.1 q.2.1) :
    Calls Tryz.prog 27 #[.agg (pgV p x).toArray, .agg (pgV q y).toArray] w (Ret fun v w' => v = .bool (pgEq p q) ∧ Ext w w') := by
  apply calls27
  unfold S27 pgEq
  refine new_i fun r1 w1 hb1 he1 hr1 _ => ?_
  refine new_i fun r2 w2 hb2 he2 hr2 _ => ?_
  have hb1 := hb1.ext he2
  have he := he1.trans he2
  refine box0 (l := .int .u8) (p.1.toNat : Int) hb1 (by rfl) ?_
  refine box0 (l := .int .u8) (q.1.toNat : Int) hb2 (by rfl) ?_
  refine splitW_i (fun hq => ?_) (fun hq => ?_)
  rotate_left
  · have hq := beq_eq_false_iff_ne.1 hq
    refine ⟨?_, he⟩
    rw [decide_eq_false (fun e => hq (by rw [e])), Bool.false_and]
  have hq : p.1 = q.1 := UInt8.toNat_inj.1 (by have := beq_iff_eq.1 hq; omega)
  rw [decide_eq_true hq, Bool.true_and]
  refine boxF (l := .str) 2 p.2.2 hb1 (by rfl) ?_
  refine boxF (l := .str) 2 q.2.2 hb2 (by rfl) ?_
  rw [str_beq]
  refine splitW_i (fun hs => ?_) (fun hs => ?_)
  rotate_left
  · rw [hs, Bool.false_and]
    exact ⟨rfl, he⟩
  rw [hs, Bool.true_and]
  refine boxF (l := .slc) 1 x hb1 (by rfl) ?_
  refine boxF (l := .slc) 1 y hb2 (by rfl) ?_
  refine callW_of (same32_calls (h.ext he) (h2.ext he)) ?_
  rintro _ w3 ⟨rfl, he3⟩
  exact ⟨_, rfl, rfl, he.trans he3⟩
theorem gen_at {w : World} {b db : Nat} {S : Spa} {F : Nat → Prop} (h : SpAt w b db S F) : Calls Tryz.prog 9 #[.pointer (some ⟨b, 0, none⟩)] w (Ret fun v w' => v = .int .u64 (S.sup.gen : Int) ∧ w' = w) := by
  obtain ⟨Fd, x, hb, hr, nb, nr, m, h⟩ := h
  exact gen_calls h
theorem PutR.ok {S S' : Spa} {p : Page} {R H : List Nat} {M : Option (List Nat)} {n : Nat} {e : Int} (h : PutR S S' p R H M n e) (hd : (p.2.2.size : Int) ≤ S.room p.2.1.length) (hf : S.sup.pages.length < S.freeN) : e = 0 ∧ PutOk S S' p n ∧ Great S' (n :: R) H M ∧ ∀ q ∈ S'.dev.pen, q ∈ S.dev.pen ∨ q.1 = (n : Int) := by
  rcases h with ⟨_, _, _, h⟩ | ⟨_, _, _, h⟩ | h
  · omega
  · omega
  · exact ⟨h.1, h.2.1, h.2.2.1, h.2.2.2.1⟩
theorem lives_calls (w : World) : Calls Tryz.prog 4 #[] w (Ret fun v w' => v = .bool true ∧ Ext w w') := by
  apply calls4
  unfold S4
  obtain ⟨g0, pen0⟩ := s0_great
  have fr0 : S0.freeN = 9 := by unfold Spa.freeN; rw [s0_freeL]; rfl
  have pg0 : S0.sup.pages.length = 1 := by rw [s0_pages]; rfl
  refine callW_of (small_calls w) ?_
  rintro _ w1 ⟨rfl, he1⟩
  refine ⟨(128, 12, ()), rfl, ?_⟩
  refine callW_of (madeS_calls w1) ?_
  rintro _ w2 ⟨db, b, F0, rfl, h2, hF2, he2⟩
  refine ⟨(some ⟨db, 0, none⟩, some ⟨b, 0, none⟩, ()), rfl, splitW_f (by rfl) (splitW_f (by rfl) ?_)⟩
  dsimp only
  have he02 := he1.trans he2
  have hF0 : ∀ k, F0 k → w.heap.size ≤ k := fun k hk => Nat.le_trans he1.size (hF2 k hk)
  refine callW_of (sp_free h2) ?_
  rintro _ w3 ⟨rfl, he3⟩
  refine ⟨_, rfl, ?_⟩
  rw [fr0]
  have h3 := h2.ext he3
  -- a
  show callW _ _ [_, .agg (pgV ((4 : UInt8), [], ByteArray.mk #[120]) (none, 0, 0)).toArray] _ _ w3
  refine callW_of (sp_put (R := []) (p := ((4 : UInt8), [], ByteArray.mk #[120])) h3 g0 (by rw [pen0]; simp) (Sli.nil w3 none) (fun a ha => by cases ha) (by decide) (by rw [s0_room]; decide) (by decide)) ?_
  rintro _ w4 ⟨Sa, a, e, rfl, hp, F4, h4, hF4, hO4⟩
  obtain ⟨rfl, pa, ga, _⟩ := hp.ok (by rw [s0_room]; decide) (by omega)
  refine ⟨((a : Int), 0, ()), rfl, ?_⟩
  have hx4 : Ext w w4 := Only.ext (he02.trans he3) hO4 hF0
  have hF04 : ∀ k, F4 k → w.heap.size ≤ k := fun k hk => by
    rcases hF4 k hk with e | e
    · exact hF0 k e
    · exact Nat.le_trans (he02.trans he3).size e
  have ra : ∀ k, Sa.room k = S0.room k := fun k => by unfold Spa.room; rw [pa.sup]
  have fra : Sa.freeN = 8 := by have := congrArg List.length pa.freeL; unfold Spa.freeN at fr0 ⊢; rw [List.length_cons] at this; omega
  have pga : Sa.sup.pages.length = 1 := by rw [pa.sup, pg0]
  -- b
  refine new_i fun r5 w5 hb5 he5 hr5 hz5 => ?_
  have h5 := h4.ext he5
  show callW _ _ [_, .agg (pgV ((3 : UInt8), [a], ByteArray.empty) (some ⟨r5, 0, none⟩, 1, 1)).toArray] _ _ w5
  refine callW_of (sp_put (R := []) (p := ((3 : UInt8), [a], ByteArray.empty)) h5 ga (by have := pa.pen; rw [pen0] at this; simp at this; omega) (Sli.of_blk (E := numE .u32) (xs := [a]) (by exact hb5) rfl (by omega)) (fun q hq hf => ?_) (show 3 ≤ (3 : UInt8).toNat by decide) (by rw [ra, s0_room]; show ((1 : Nat) : Int) ≤ _; decide) (show ByteArray.empty.size ≤ 1000000000 by decide)) ?_
  · cases hq
    have := h4.lt _ hf
    dsimp only at this
    omega
  rintro _ w6 ⟨Sb, n, e, rfl, hp, F6, h6, hF6, hO6⟩
  obtain ⟨rfl, pb, gb, _⟩ := hp.ok (by rw [ra, s0_room]; show ((ByteArray.empty.size : Nat) : Int) ≤ (if ((1 : Nat) : Int) < 0 ∨ ((1 : Nat) : Int) > 27 then 0 else 110 - 4 * ((1 : Nat) : Int)); decide) (by omega)
  refine ⟨((n : Int), 0, ()), rfl, ?_⟩
  have hx5 := hx4.trans he5
  have hx6 : Ext w w6 := Only.ext hx5 hO6 hF04
  have hF06 : ∀ k, F6 k → w.heap.size ≤ k := fun k hk => by
    rcases hF6 k hk with e | e
    · exact hF04 k e
    · exact Nat.le_trans hx5.size e
  have frb : Sb.freeN = 7 := by have := congrArg List.length pb.freeL; unfold Spa.freeN at fra ⊢; rw [List.length_cons] at this; omega
  have hub : usedC Sb.sup.pages Sb.now n = true := gb.good.well.root n List.mem_cons_self
  have hgb : Sb.sup.gen = 1 := by rw [pb.sup, pa.sup]; rfl
  have hpenb : Sb.dev.pen.length = 2 := by rw [pb.pen, pa.pen, pen0]; rfl
  refine callW_of (sp_commit h6 gb (root := n) (.inr hub) (by omega) (by omega)) ?_
  rintro _ w7 ⟨rfl, hC, F7, h7, hF7, hO7⟩
  refine ⟨_, rfl, ?_⟩
  have hx7 : Ext w w7 := Only.ext hx6 hO7 hF06
  have hF07 : ∀ k, F7 k → w.heap.size ≤ k := fun k hk => by
    rcases hF7 k hk with e | e
    · exact hF06 k e
    · exact Nat.le_trans hx6.size e
  refine callW_of (sp_open h7 hC.great) ?_
  rintro _ w8 ⟨b8, F8, rfl, h8, he8, hb8, hF8⟩
  refine ⟨(some ⟨b8, 0, none⟩, 0, ()), rfl, ?_⟩
  have hx8 := hx7.trans he8
  have hF08 : ∀ k, F8 k → w.heap.size ≤ k := fun k hk => by
    rcases hF8 k hk with e | e
    · exact hF07 k e
    · exact Nat.le_trans hx7.size e
  refine splitW_f (by rfl) (splitW_f (by rfl) (splitW_f (by rfl) (splitW_f (by rfl) (splitW_f (by rfl) ?_))))
  dsimp only
  have eS : ({ (Sb.commit n).1 with now := (Sb.commit n).1.held, mark := none } : Spa) = (Sb.commit n).1 := by
    have e1 := hC.now
    have e2 := hC.held
    have e3 := hC.mark
    generalize (Sb.commit n).1 = X at *
    cases X
    simp only at e1 e2 e3
    subst e1 e3
    rw [e2]
  rw [eS] at h8
  have gC := hC.great
  have supC := hC.sup
  have hpC : (Sb.commit n).1.page n = (((3 : UInt8), [a], ByteArray.empty), 0) := (hC.page n hub).trans pb.page
  have penC := hC.pen
  generalize (Sb.commit n).1 = X at *
  have hrt : X.sup.root = n := by rw [supC]; rfl
  have hn32 : n < 4294967296 := by have := gb.good.dims.n; have := gb.good.well.lt hub; omega
  refine callW_of (sp_root h8) ?_
  rintro _ w9 ⟨rfl, hw9⟩
  refine ⟨_, rfl, ?_⟩
  rw [hw9, hrt]
  have hux : usedC X.sup.pages X.now n = true := gC.good.well.root n List.mem_cons_self
  have hgx : X.get n = (((3 : UInt8), [a], ByteArray.empty), 0) := by rw [(gC.good.get hux).1, hpC]
  refine callW_of (sp_get h8 hn32) ?_
  rintro _ w10 ⟨y, rfl, hoy, he10⟩
  rw [hgx] at hoy ⊢
  refine ⟨(pgT ((3 : UInt8), [a], ByteArray.empty) y, 0, ()), rfl, ?_⟩
  refine new_i fun r11 w11 hb11 he11 hr11 hz11 => ?_
  refine refill (vs := pgV ((3 : UInt8), [a], ByteArray.empty) y) hb11 (by rfl) (pgV_one _ y) (by rfl) fun w12 hb12 hx12 hk12 hz12 => ?_
  have he12 : Ext w10 w12 := hx12 w10 he11 (by omega)
  have hoy12 := hoy.ext he12
  have h12 := h8.ext (he10.trans he12)
  have hx12' := (hx8.trans he10).trans he12
  -- c
  have rX : ∀ k, X.room k = S0.room k := fun k => by unfold Spa.room; rw [supC]; show (if k < 0 ∨ k > (roomOf Sb.sup.size - 2) / 4 then 0 else roomOf Sb.sup.size - 2 - 4 * k) = _; rw [pb.sup, pa.sup]
  have hN12 : Sb.N = 12 := by unfold Spa.N; rw [pb.sup, pa.sup]; rfl
  have frX : X.sup.pages.length < X.freeN := by
    have h1 : X.sup.pages.length = 1 := by
      rw [supC]
      show Sb.ns.length = 1
      unfold Spa.ns
      rw [List.length_take]
      have : Sb.sup.pages.length = 1 := by rw [pb.sup, pga]
      unfold Spa.freeN at frb
      omega
    have h2 := nodup_sub (a := Sb.freeL.drop 1) (b := X.freeL) ((freeL_nd Sb).sublist (List.drop_sublist _ _)) (fun k hk => by
      have hkf := List.mem_of_mem_drop hk
      obtain ⟨a1, a2, a3⟩ := freeL_mem.1 hkf
      have hnow := hC.now
      have hheld := hC.held
      have hP := gb.heldOK.pgsOk gb.good
      have hg := comC_get gb.good.ok.now hP k
      have hmk := hC.mark
      obtain ⟨b1, b2, b3⟩ := isFree_iff.1 a3
      have hkp : k ∉ Sb.sup.pages := fun e => by have := (hP.at_ k e).2.2; omega
      have hkn : k ∉ Sb.ns := fun e => by
        have hns : Sb.ns = Sb.freeL.take 1 := by unfold Spa.ns; rw [show Sb.sup.pages.length = 1 by rw [pb.sup, pga]]
        rw [hns] at e
        have hnd := freeL_nd Sb
        rw [← List.take_append_drop 1 Sb.freeL, List.nodup_append] at hnd
        exact hnd.2.2 k e k hk rfl
      rw [if_neg hkp, if_neg hkn] at hg
      refine freeL_mem.2 ⟨?_, a2, isFree_iff.2 ⟨?_, ?_, ?_⟩⟩
      · unfold Spa.N; rw [supC]; exact a1
      · rw [hnow, hg]; exact b1
      · rw [hheld, hg]; exact b1
      · rw [hmk]; rfl)
    rw [List.length_drop] at h2
    unfold Spa.freeN at frb ⊢
    omega
  show callW _ _ [_, .agg (pgV ((4 : UInt8), [], ByteArray.empty) (none, 0, 0)).toArray] _ _ w12
  refine callW_of (sp_put (R := [n]) (p := ((4 : UInt8), [], ByteArray.empty)) h12 gC (by rw [penC]; simp) (Sli.nil w12 none) (fun a ha => by cases ha) (by decide) (by rw [rX, s0_room]; decide) (by decide)) ?_
  rintro _ w13 ⟨Sc, c, e, rfl, hp, F13, h13, hF13, hO13⟩
  obtain ⟨rfl, pc, gc, _⟩ := hp.ok (by rw [rX, s0_room]; decide) frX
  refine ⟨((c : Int), 0, ()), rfl, ?_⟩
  have hb8' : Blk w13 r11 (pgV ((3 : UInt8), [a], ByteArray.empty) y) _ := hb12.only hO13 (fun hf => by have := h8.lt _ hf; have := he10.size; omega)
  have hoy13 := hoy12.only hO13 (fun j hj hf => by have := h8.lt _ hf; have := hoy.row j hj; omega)
  have hx13 : Ext w w13 := Only.ext hx12' hO13 hF08
  have hF013 : ∀ k, F13 k → w.heap.size ≤ k := fun k hk => by
    rcases hF13 k hk with e | e
    · exact hF08 k e
    · exact Nat.le_trans hx12'.size e
  have hFlt13 : ∀ k, F13 k → k < w8.heap.size ∨ w12.heap.size ≤ k := fun k hk => by
    rcases hF13 k hk with e | e
    · exact .inl (h8.lt k e)
    · exact .inr e
  refine callW_of (sp_free h13) ?_
  rintro _ w14 ⟨rfl, he14⟩
  refine ⟨_, rfl, ?_⟩
  have h14 := h13.ext he14
  refine callW_of (sp_drop h14 (R := [n]) gc) ?_
  rintro _ w15 ⟨rfl, c', gd, ⟨F15, h15, hF15, hO15⟩, hD, _⟩
  refine ⟨_, rfl, ?_⟩
  refine splitW_t (by rfl) (splitW_t (by rfl) ?_)
  have hr11 : ¬ F13 r11 := fun hf => by
    have := he10.size
    rcases hFlt13 _ hf with e | e <;> omega
  have hb15 : Blk w15 r11 (pgV ((3 : UInt8), [a], ByteArray.empty) y) _ := (hb8'.ext he14).only hO15 hr11
  have hoy15 := (hoy13.ext he14).only hO15 (fun j hj hf => by
    have := hoy12.row_lt j hj
    have := hoy.row j hj
    have := hoy.row_lt j hj
    rcases hFlt13 _ hf with e | e <;> omega)
  refine boxA (ls := pgLs) (pgT ((3 : UInt8), [a], ByteArray.empty) y) hb15 rfl ?_
  have hx15 : Ext w w15 := Only.ext (hx13.trans he14) hO15 hF013
  refine new_i fun r16 w16 hb16 he16 hr16 hz16 => ?_
  show callW _ _ [.agg (pgV ((3 : UInt8), [a], ByteArray.empty) y).toArray, .agg (pgV ((3 : UInt8), [a], ByteArray.empty) (some ⟨r16, 0, none⟩, 1, 1)).toArray] _ _ w16
  refine callW_of (samepages_calls (hoy15.ext he16).sl (Sli.of_blk (E := numE .u32) (xs := [a]) (by exact hb16) rfl (show 1 ≤ 9223372036854775807 by omega))) ?_
  rintro _ w17 ⟨rfl, he17⟩
  refine ⟨_, rfl, ?_⟩
  rw [pgEq_self]
  refine splitW_t (by rfl) ?_
  have h17 := (h15.ext he16).ext he17
  refine callW_of (gen_at h17) ?_
  rintro _ w18 ⟨rfl, hw18⟩
  have hgx2 : Sc.sup.gen = 2 := by rw [pc.sup, supC]; show Sb.sup.gen + 1 = 2; omega
  refine ⟨_, rfl, ?_⟩
  rw [hw18]
  refine splitW_t (by show ((Sc.sup.gen : Nat) : Int) == 2; rw [hgx2]; rfl) (splitW_t (by rfl) (splitW_t (by rfl) ?_))
  refine callW_of (sp_free h17) ?_
  rintro _ w19 ⟨rfl, he19⟩
  refine ⟨_, rfl, ?_, ((hx15.trans he16).trans he17).trans he19⟩
  have hone : Sc.now.getD c 0 = 1 := by
    rw [pc.now, getD_setN, if_pos ⟨rfl, by rw [gC.good.ok.now]; exact pc.lt⟩]
  have hd := put_drop pc gC.good.ok.now (drp_leaf gc.good hone (by unfold kidsP; rw [pc.page]) hD)
  have hfc : X.freeN = Sc.freeN + 1 := by unfold Spa.freeN; rw [pc.freeL, List.length_cons]
  have hle := freeN_le Sc
  have hNc := gc.good.dims.n
  rw [hd.2, wrap_i64 (by omega) (by omega), hfc]
  have : (((Sc.freeN + 1 : Nat) : Int) == (Sc.freeN : Int) + 1) = true := beq_iff_eq.2 (by omega)
  rw [this]
end Go.Proofs.YtjdmggaeagnolaaGreatDoor.V
/- What a page and all below it tell: plain. -/
namespace Go.Proofs.YtjdmggaeagnolaaGreatDoor.V
open Go Go.Proofs Go.RowKit Crc
def tellF (g : PgF) : Nat → Nat → List UInt8
  | 0, _ => [63]
  | d + 1, n => if (g n).2 ≠ 0 then [63] else ([(g n).1.1] ++ B (g n).1.2.2 ++ [40]) ++ ((g n).1.2.1.flatMap (fun k => tellF g d k ++ [44])) ++ [41]
theorem tell_same {g g' : PgF} {U : Nat → Prop} (h : ∀ n, U n → g n = g' n ∧ ∀ k ∈ (g n).1.2.1, U k) : ∀ (d n : Nat), U n → tellF g d n = tellF g' d n
  | 0, _, _ => rfl
  | d + 1, n, hn => by
    obtain ⟨h1, h2⟩ := h n hn
    unfold tellF
    rw [← h1]
    split
    · rfl
    · congr 2
      have : ∀ l : List Nat, (∀ k ∈ l, U k) → (l.flatMap fun k => tellF g d k ++ [44]) = l.flatMap fun k => tellF g' d k ++ [44] := by
        intro l
        induction l with
        | nil => intro _; rfl
        | cons a r ih =>
          intro hl
          rw [List.flatMap_cons, List.flatMap_cons, ih (fun k hk => hl k (List.mem_cons_of_mem _ hk)), tell_same h d a (hl a List.mem_cons_self)]
      exact this _ h2
theorem frameB_len (bs : List UInt8) : (B (frameB bs).2.2).length ≤ bs.length := by
  show ((bs.drop 12).take _).length ≤ _
  rw [List.length_take, List.length_drop]
  omega
theorem getR_len (bs : List UInt8) : (B (getR bs).1.2.2).length ≤ bs.length := by
  by_cases h : (getR bs).2 = 0
  · rw [(getR_ok h).1]; exact frameB_len bs
  · rw [getR_bad h]; exact Nat.zero_le _
theorem pageR_len (N : Nat) (bs : List UInt8) : 4 * (pageR N bs).1.2.1.length ≤ bs.length ∧ (pageR N bs).1.2.2.size ≤ bs.length := by
  have hl := getR_len bs
  unfold pageR
  split
  · rename_i h
    obtain ⟨h1, h2, h3⟩ := h.2.2
    have e : (kidsOf (B (getR bs).1.2.2)).length = lev ((B (getR bs).1.2.2).take 2) := by unfold kidsOf; exact wordsOf_length _ _
    refine ⟨?_, ?_⟩
    · show 4 * (kidsOf (B (getR bs).1.2.2)).length ≤ _
      omega
    · show (mkB _).size ≤ _
      rw [mkB_size, List.length_drop]
      omega
  · exact ⟨Nat.zero_le _, Nat.zero_le _⟩
theorem page_len {S : Spa} (h : S.dev.Ok) (n : Nat) : 4 * (S.page n).1.2.1.length ≤ S.dev.size.toNat ∧ (S.page n).1.2.2.size ≤ S.dev.size.toNat := by
  have hb : (B (S.dev.read (n : Int)).1).length ≤ S.dev.size.toNat := by
    by_cases hn : (n : Int) < S.dev.blocks
    · have := (h.read (k := (n : Int)) (by omega) hn).2
      have e := B_size (S.dev.read (n : Int)).1
      omega
    · unfold Dev.read
      rw [if_pos (fun e => hn e.2)]
      exact Nat.zero_le _
  obtain ⟨h1, h2⟩ := pageR_len S.N (B (S.dev.read (n : Int)).1)
  exact ⟨Nat.le_trans h1 hb, Nat.le_trans h2 hb⟩
theorem get_len {S : Spa} (h : S.dev.Ok) (n : Nat) : 4 * (S.get n).1.2.1.length ≤ S.dev.size.toNat ∧ (S.get n).1.2.2.size ≤ S.dev.size.toNat := by
  unfold Spa.get
  split
  · exact ⟨Nat.zero_le _, Nat.zero_le _⟩
  · split
    · exact ⟨Nat.zero_le _, Nat.zero_le _⟩
    · exact page_len h n
def tellM : Nat → Nat
  | 0 => 1
  | d + 1 => 520 + 128 * (tellM d + 1)
theorem tell_len {g : PgF} (h : ∀ n, 4 * (g n).1.2.1.length ≤ 512 ∧ (g n).1.2.2.size ≤ 512) : ∀ (d n : Nat), (tellF g d n).length ≤ tellM d
  | 0, _ => Nat.le_refl _
  | d + 1, n => by
    obtain ⟨h1, h2⟩ := h n
    have h2 : (B (g n).1.2.2).length ≤ 512 := by rw [← B_size]; exact h2
    have : ∀ l : List Nat, (l.flatMap fun k => tellF g d k ++ [44]).length ≤ l.length * (tellM d + 1) := by
      intro l
      induction l with
      | nil => simp
      | cons a r ih =>
        have := tell_len h d a
        rw [List.flatMap_cons, List.length_append, List.length_append, List.length_cons (a := a), List.length_singleton, Nat.add_mul]
        omega
    have hk := this (g n).1.2.1
    have hm : (g n).1.2.1.length * (tellM d + 1) ≤ 128 * (tellM d + 1) := Nat.mul_le_mul_right _ (by omega)
    unfold tellF
    split
    · unfold tellM; simp; omega
    · simp only [List.length_append, List.length_singleton]
      unfold tellM
      omega
end Go.Proofs.YtjdmggaeagnolaaGreatDoor.V
/- What a crash within a commit leaves of a space: plain. -/
namespace Go.Proofs.YtjdmggaeagnolaaGreatDoor.V
open Go Go.Proofs Go.RowKit Crc
theorem apply_skip {pen : List (Int × ByteArray)} {j : Nat} {e : ByteArray} : ∀ (l : List (Int × Nat)) (dur : List ByteArray), (∀ p ∈ l, (pen.getD p.1.toNat w00).1.toNat ≠ j) → (l.foldl (applyP pen) dur).getD j e = dur.getD j e
  | [], _, _ => rfl
  | p :: r, dur, h => by
    rw [List.foldl_cons, apply_skip r _ (fun q hq => h q (List.mem_cons_of_mem _ hq))]
    unfold applyP
    rw [getD_set, if_neg (fun e => h p List.mem_cons_self e.1)]
theorem pen_get {pen : List (Int × ByteArray)} {i : Int} (h0 : 0 ≤ i) (h1 : i < (pen.length : Int)) : pen.getD i.toNat w00 ∈ pen := by
  rw [List.getD_eq_getElem?_getD, List.getElem?_eq_getElem (show i.toNat < pen.length by omega)]
  exact List.getElem_mem _
structure WrD (d d' : Dev) (ws : List (Int × ByteArray)) (fz : Int) : Prop where
  size : d'.size = d.size
  blocks : d'.blocks = d.blocks
  dur : d'.dur = d.dur
  pen : d'.pen = d.pen ++ ws
  ok : d'.Ok
  fuse : d'.fuse = fz
theorem write_run {d : Dev} (h : d.Ok) {k : Int} {s : ByteArray} (hk : 0 ≤ k ∧ k < d.blocks) (hs : (s.size : Int) = d.size) :
    (d.fuse = 0 → d.write k s = (d, 8)) ∧ (d.fuse ≠ 0 → (d.write k s).2 = 0 ∧ WrD d (d.write k s).1 [(k, s)] (max (-1) (d.fuse - 1))) := by
  have hno : ¬ (¬ (0 ≤ k ∧ k < d.blocks) ∨ (s.size : Int) ≠ d.size) := by
    rintro (e | e)
    · exact e hk
    · exact e hs
  constructor
  · intro hf
    unfold Dev.write
    rw [if_neg hno, if_pos hf]
  · intro hf
    have hb := h.burnt
    unfold Dev.write
    rw [if_neg hno, if_neg hf]
    refine ⟨rfl, rfl, rfl, rfl, rfl, ⟨h.geo, h.len, h.each, fun p hp => ?_, hb.fuse⟩, rfl⟩
    rcases List.mem_append.1 hp with hp | hp
    · exact h.pend p hp
    · rw [List.mem_singleton.1 hp]; exact ⟨hk.1, hk.2, hs⟩
theorem writeF_run {d : Dev} (h : d.Ok) {k : Nat} {f : Fra} (hk : (k : Int) < d.blocks) (hf : ((B f.2.2).length : Int) ≤ roomOf d.size) :
    (d.fuse = 0 → writeF d k f = (d, 8)) ∧ (d.fuse ≠ 0 → (writeF d k f).2 = 0 ∧ WrD d (writeF d k f).1 [((k : Int), mkB (putB d.size.toNat f))] (max (-1) (d.fuse - 1))) := by
  obtain ⟨z, N, e1, e2, e3, e4, e5, e6, e7, e8⟩ := h.facts
  have hputR : putR d.size f = (putB z f, 0) := by
    unfold putR
    rw [if_neg (by omega), if_neg (by omega), e1]
    rfl
  have hl : (putB z f).length = z := putB_length (by omega)
  have hws : (((mkB (putB z f)).size : Nat) : Int) = d.size := by rw [mkB_size, hl, e1]
  have hwf : writeF d k f = d.write k (mkB (putB z f)) := by
    unfold writeF
    rw [hputR, if_neg (by simp)]
  have hez : d.size.toNat = z := by omega
  rw [hwf, hez]
  exact write_run h ⟨by omega, hk⟩ hws
def fwL (z : Nat) (l : List (Nat × Fra)) : List (Int × ByteArray) := l.map fun p => ((p.1 : Int), mkB (putB z p.2))
def Fit (d : Dev) (l : List (Nat × Fra)) : Prop := ∀ p ∈ l, (p.1 : Int) < d.blocks ∧ ((B p.2.2.2).length : Int) ≤ roomOf d.size
theorem wrL_run : ∀ (l : List (Nat × Fra)) (d : Dev), d.Ok → Fit d l → (d.fuse = -1 ∨ (l.length : Int) ≤ d.fuse) →
    (wrL d l).2 = 0 ∧ WrD d (wrL d l).1 (fwL d.size.toNat l) (if d.fuse = -1 then -1 else d.fuse - l.length)
  | [], d, h, _, hf => ⟨rfl, rfl, rfl, rfl, by simp [wrL, fwL], h, by show d.fuse = _; split <;> simp_all⟩
  | kf :: r, d, h, hl, hf => by
    obtain ⟨h1, h2⟩ := hl kf List.mem_cons_self
    have hlen : ((kf :: r).length : Int) = (r.length : Int) + 1 := by rw [List.length_cons]; omega
    have hf0 : d.fuse ≠ 0 := by rcases hf with e | e <;> omega
    obtain ⟨g1, g2⟩ := (writeF_run h h1 h2).2 hf0
    have hl' : Fit (writeF d kf.1 kf.2).1 r := fun p hp => by rw [g2.blocks, g2.size]; exact hl p (List.mem_cons_of_mem _ hp)
    have gf := g2.fuse
    obtain ⟨k1, k2⟩ := wrL_run r (writeF d kf.1 kf.2).1 g2.ok hl' (by rw [gf]; rcases hf with e | e <;> omega)
    unfold wrL
    rw [if_neg (fun hh => hh g1)]
    refine ⟨k1, k2.size.trans g2.size, k2.blocks.trans g2.blocks, k2.dur.trans g2.dur, ?_, k2.ok, ?_⟩
    · rw [k2.pen, g2.pen, g2.size, List.append_assoc]
      rfl
    · rw [k2.fuse, gf]
      rcases hf with e | e
      · rw [if_pos (by omega), if_pos e]
      · rw [if_neg (by omega), if_neg (by omega)]
        omega
theorem wrL_part : ∀ (l : List (Nat × Fra)) (d : Dev), d.Ok → Fit d l → 0 ≤ d.fuse → d.fuse < (l.length : Int) →
    (wrL d l).2 ≠ 0 ∧ ∃ ws, (∀ q ∈ ws, ∃ p ∈ l, q.1 = (p.1 : Int)) ∧ WrD d (wrL d l).1 ws 0
  | [], d, h, _, h0, hf => by simp at hf; omega
  | kf :: r, d, h, hl, h0, hf => by
    obtain ⟨h1, h2⟩ := hl kf List.mem_cons_self
    have hlen : ((kf :: r).length : Int) = (r.length : Int) + 1 := by rw [List.length_cons]; omega
    unfold wrL
    by_cases hz : d.fuse = 0
    · rw [(writeF_run h h1 h2).1 hz]
      rw [if_pos (by simp)]
      exact ⟨by simp, [], (fun q hq => by cases hq), rfl, rfl, rfl, by simp, h, hz⟩
    · obtain ⟨g1, g2⟩ := (writeF_run h h1 h2).2 hz
      have hl' : Fit (writeF d kf.1 kf.2).1 r := fun p hp => by rw [g2.blocks, g2.size]; exact hl p (List.mem_cons_of_mem _ hp)
      have gf := g2.fuse
      obtain ⟨k1, ws, k2, k3⟩ := wrL_part r (writeF d kf.1 kf.2).1 g2.ok hl' (by rw [gf]; omega) (by rw [gf]; omega)
      rw [if_neg (fun hh => hh g1)]
      refine ⟨k1, ((kf.1 : Int), mkB (putB d.size.toNat kf.2)) :: ws, ?_, k3.size.trans g2.size, k3.blocks.trans g2.blocks, k3.dur.trans g2.dur, ?_, k3.ok, k3.fuse⟩
      · intro q hq
        rcases List.mem_cons.1 hq with e | hq
        · exact ⟨kf, List.mem_cons_self, by rw [e]⟩
        · obtain ⟨p, hp, e⟩ := k2 q hq
          exact ⟨p, List.mem_cons_of_mem _ hp, e⟩
      · rw [k3.pen, g2.pen, List.append_assoc]
        rfl
theorem flush_run {d : Dev} (h : d.Ok) : (d.fuse = 0 → d.flush = (d, 8)) ∧ (d.fuse ≠ 0 → d.flush.2 = 0 ∧ d.flush.1.size = d.size ∧ d.flush.1.blocks = d.blocks ∧ d.flush.1.dur = d.pen.foldl Go.Proofs.YtjdmggaeagnolaaGreatDoor.V.put d.dur ∧ d.flush.1.pen = [] ∧ d.flush.1.Ok ∧ d.flush.1.fuse = max (-1) (d.fuse - 1)) := by
  constructor
  · intro hf
    unfold Dev.flush
    rw [if_pos hf]
  · intro hf
    have hb := h.burnt
    unfold Dev.flush
    rw [if_neg hf]
    refine ⟨rfl, rfl, rfl, rfl, rfl, ⟨h.geo, ?_, puts_each _ _ h.each (fun p hp => (h.pend p hp).2.2), (fun p hp => by cases hp), hb.fuse⟩, rfl⟩
    show (((d.pen.foldl Go.Proofs.YtjdmggaeagnolaaGreatDoor.V.put d.dur).length : Nat) : Int) = d.blocks
    rw [puts_len]
    exact h.len
def cmL (d : Dev) (c : List Nat) (s : Sup) : List (Nat × Fra) := pgFs s.gen s.pages (pagesL c (perOf d.size))
def dur2 (d : Dev) (c : List Nat) (s : Sup) : List ByteArray := (d.pen ++ fwL d.size.toNat (cmL d c s)).foldl Go.Proofs.YtjdmggaeagnolaaGreatDoor.V.put d.dur
theorem cmL_fit {d : Dev} (h : d.Ok) {c : List Nat} {s : Sup} (hps : ∀ p ∈ s.pages, 2 ≤ p ∧ (p : Int) < d.blocks) : Fit d (cmL d c s) ∧ ∀ p ∈ cmL d c s, p.1 ∈ s.pages := by
  obtain ⟨z, N, e1, e2, e3, e4, e5, e6, e7, e8⟩ := h.facts
  have hL : ∀ p ∈ cmL d c s, p.1 ∈ s.pages ∧ ((B p.2.2.2).length : Int) ≤ roomOf d.size := by
    intro p hp
    unfold cmL pgFs at hp
    obtain ⟨q, hq, rfl⟩ := List.mem_map.1 hp
    have h1 := (List.of_mem_zip hq).1
    have h2 := (List.of_mem_zip hq).2
    refine ⟨h1, ?_⟩
    unfold pagesL at h2
    obtain ⟨i, _, hi⟩ := List.mem_map.1 h2
    show ((B q.2).length : Int) ≤ _
    rw [← hi, B_mk]
    have := pageB_len c (perOf d.size) i
    omega
  exact ⟨fun p hp => ⟨(hps _ (hL p hp).1).2, (hL p hp).2⟩, fun p hp => (hL p hp).1⟩
def newS (s : Sup) : ByteArray := mkB (putS s).1
structure Cm (d d2 : Dev) : Prop where
  size : d2.size = d.size
  blocks : d2.blocks = d.blocks
  ok : d2.Ok
theorem commit_runs {d : Dev} (h : d.Ok) {c : List Nat} {s : Sup} {slot : Int} (hchk : chk s = 0) (hsz : s.size = d.size) (hps : ∀ p ∈ s.pages, 2 ≤ p ∧ (p : Int) < d.blocks) (hslot : slot = 0 ∨ slot = 1) :
    Cm d (commitD d c s slot).1 ∧
    (d.fuse = -1 → (commitD d c s slot).2 = 0 ∧ (commitD d c s slot).1.dur = Go.Proofs.YtjdmggaeagnolaaGreatDoor.V.put (dur2 d c s) (slot, newS s) ∧ (commitD d c s slot).1.pen = []) ∧
    (0 ≤ d.fuse →
      ((commitD d c s slot).2 ≠ 0 ∧ (commitD d c s slot).1.dur = d.dur ∧ ∃ ws, (commitD d c s slot).1.pen = d.pen ++ ws ∧ ∀ q ∈ ws, ∃ p ∈ s.pages, q.1 = (p : Int)) ∨
      ((commitD d c s slot).2 ≠ 0 ∧ (commitD d c s slot).1.dur = dur2 d c s ∧ (commitD d c s slot).1.pen = []) ∨
      ((commitD d c s slot).2 ≠ 0 ∧ (commitD d c s slot).1.dur = dur2 d c s ∧ (commitD d c s slot).1.pen = [(slot, newS s)]) ∨
      ((commitD d c s slot).2 = 0 ∧ (commitD d c s slot).1.dur = Go.Proofs.YtjdmggaeagnolaaGreatDoor.V.put (dur2 d c s) (slot, newS s) ∧ (commitD d c s slot).1.pen = [])) := by
  obtain ⟨z, N, e1, e2, e3, e4, e5, e6, e7, e8⟩ := h.facts
  obtain ⟨hF, hM⟩ := cmL_fit h (c := c) (s := s) hps
  have hp0 : (putS s).2 = 0 := by rw [putS_good hchk]
  have hpl := (putS_length hchk).1
  have hfz := h.fuse
  have hnew : (((newS s).size : Nat) : Int) = d.size := by unfold newS; rw [mkB_size, hpl, hsz]
  have eC : ∀ r, wrL d (cmL d c s) = r → commitD d c s slot = if r.2 ≠ 0 then r else if r.1.flush.2 ≠ 0 then r.1.flush else if (putS s).2 ≠ 0 then (r.1.flush.1, (putS s).2) else if (r.1.flush.1.write slot (newS s)).2 ≠ 0 then r.1.flush.1.write slot (newS s) else (r.1.flush.1.write slot (newS s)).1.flush := by
    rintro _ rfl
    rfl
  by_cases hpart : 0 ≤ d.fuse ∧ d.fuse < ((cmL d c s).length : Int)
  · obtain ⟨w1, ws, w2, w3⟩ := wrL_part _ d h hF hpart.1 hpart.2
    rw [eC _ rfl, if_pos w1]
    exact ⟨⟨w3.size, w3.blocks, w3.ok⟩, (fun e => by omega), fun _ => .inl ⟨w1, w3.dur, ws, w3.pen, fun q hq => by
      obtain ⟨p, hp, e⟩ := w2 q hq
      exact ⟨p.1, hM p hp, e⟩⟩⟩
  have hall : d.fuse = -1 ∨ ((cmL d c s).length : Int) ≤ d.fuse := by omega
  obtain ⟨w1, w2⟩ := wrL_run _ d h hF hall
  have eC' := eC _ rfl
  generalize wrL d (cmL d c s) = r at *
  rw [if_neg (fun hh => hh w1)] at eC'
  have rf := w2.fuse
  by_cases hz : r.1.fuse = 0
  · have hfl := (flush_run w2.ok).1 hz
    rw [hfl, if_pos (show ((8 : Int) ≠ 0) by decide)] at eC'
    rw [eC']
    refine ⟨⟨w2.size, w2.blocks, w2.ok⟩, fun e => ?_, fun _ => .inl ⟨by simp, w2.dur, _, w2.pen, fun q hq => ?_⟩⟩
    · rw [if_pos e] at rf; omega
    · unfold fwL at hq
      obtain ⟨p, hp, rfl⟩ := List.mem_map.1 hq
      exact ⟨p.1, hM p hp, rfl⟩
  obtain ⟨f1, f2, f3, f4, f5, f6, f7⟩ := (flush_run w2.ok).2 hz
  generalize r.1.flush = g at *
  rw [if_neg (fun hh => hh f1), if_neg (fun hh => hh hp0)] at eC'
  have hd2 : g.1.dur = dur2 d c s := by rw [f4, w2.pen, w2.dur]; rfl
  have hsl : 0 ≤ slot ∧ slot < g.1.blocks := by rw [f3, w2.blocks]; omega
  have hs2 : (((newS s).size : Nat) : Int) = g.1.size := by rw [f2, w2.size]; exact hnew
  obtain ⟨q0, q1⟩ := write_run f6 hsl hs2
  by_cases hz2 : g.1.fuse = 0
  · rw [q0 hz2, if_pos (show ((8 : Int) ≠ 0) by decide)] at eC'
    rw [eC']
    refine ⟨⟨f2.trans w2.size, f3.trans w2.blocks, f6⟩, fun e => ?_, fun _ => .inr (.inl ⟨by simp, hd2, f5⟩)⟩
    rw [if_pos e] at rf; omega
  obtain ⟨q2, q3⟩ := q1 hz2
  generalize g.1.write slot (newS s) = u at *
  rw [if_neg (fun hh => hh q2)] at eC'
  have hup : u.1.pen = [(slot, newS s)] := by rw [q3.pen, f5]; rfl
  have uf := q3.fuse
  by_cases hz3 : u.1.fuse = 0
  · rw [(flush_run q3.ok).1 hz3] at eC'
    rw [eC']
    refine ⟨⟨q3.size.trans (f2.trans w2.size), q3.blocks.trans (f3.trans w2.blocks), q3.ok⟩, fun e => ?_, fun _ => .inr (.inr (.inl ⟨by simp, q3.dur.trans hd2, hup⟩))⟩
    rw [if_pos e] at rf; omega
  obtain ⟨y1, y2, y3, y4, y5, y6, y7⟩ := (flush_run q3.ok).2 hz3
  rw [eC']
  have hdur : u.1.flush.1.dur = Go.Proofs.YtjdmggaeagnolaaGreatDoor.V.put (dur2 d c s) (slot, newS s) := by rw [y4, hup, q3.dur, hd2]; rfl
  exact ⟨⟨y2.trans (q3.size.trans (f2.trans w2.size)), y3.trans (q3.blocks.trans (f3.trans w2.blocks)), y6⟩, fun _ => ⟨y1, hdur, y5⟩, fun _ => .inr (.inr (.inr ⟨y1, hdur, y5⟩))⟩
theorem great_dev {S : Spa} {R : List Nat} (h : Great S R R none) (hm : S.mark = none) (hn : S.now = S.held) {d : Dev} (hok : d.Ok) (hf : d.fuse = -1) (hdim : d.size = S.dev.size ∧ d.blocks = S.dev.blocks) (hcur : (d.read S.slot).1 = (S.dev.read S.slot).1)
    (hold : (getS (B (d.read (other S.slot)).1)).2 ≠ 0 ∨ (getS (B (d.read (other S.slot)).1)).1.gen < S.sup.gen) (hread : ∀ k : Nat, 2 ≤ k → k < S.N → S.held.getD k 0 ≠ 0 → (d.read (k : Int)).1 = (S.dev.read (k : Int)).1) : Great { S with dev := d } R R none := by
  have ho := h.heldOK
  have hu : ∀ k, usedC S.sup.pages S.held k = true → Spa.page { S with dev := d } k = S.page k := fun k hk => by
    obtain ⟨a1, a2, a3⟩ := usedC_iff.1 hk
    show pageR S.N (B (d.read (k : Int)).1) = pageR S.N (B (S.dev.read (k : Int)).1)
    rw [hread k a1 (h.hwell.lt hk) (by omega)]
  have hw : WellC S.N S.sup.pages (Spa.page { S with dev := d }) S.held R := WellC.pgs_eq h.hwell (fun m hm => hu m hm)
  have hw' : WellC S.N S.sup.pages (Spa.page { S with dev := d }) S.now R := by rw [hn]; exact hw
  refine ⟨⟨⟨h.good.ok.size.trans hdim.1.symm, h.good.ok.blocks.trans hdim.2.symm, h.good.ok.fits, h.good.ok.held, h.good.ok.now, h.good.ok.mark⟩, hok, hf, h.good.gen, hw'⟩, ⟨ho.slot, ho.chk, ?_, hold, fun i hi => ?_, ho.fit⟩, hw, ?_, h.room⟩
  · show getS (B (d.read S.slot).1) = _
    rw [hcur]
    exact ho.cur
  · have hi : i < S.sup.pages.length := hi
    have hpm : S.sup.pages.getD i 0 ∈ S.sup.pages := by rw [List.getD_eq_getElem?_getD, List.getElem?_eq_getElem hi]; exact List.getElem_mem _
    obtain ⟨b1, b2, b3⟩ := h.hwell.pgs _ hpm
    show (d.read ((S.sup.pages.getD i 0 : Nat) : Int)).1 = mkB (putB d.size.toNat ((2 : UInt8), S.sup.gen, (pagesL S.held (perOf d.size)).getD i ByteArray.empty))
    rw [hdim.1, hread _ b1 b2 (by omega)]
    exact ho.pgs i hi
  · show MW S.N S.sup.pages _ S.mark none
    rw [hm]
    trivial
theorem read_dur {d : Dev} (hp : d.pen = []) {j : Int} (hj : 0 ≤ j ∧ j < d.blocks) : (d.read j).1 = d.dur.getD j.toNat ByteArray.empty := by
  unfold Dev.read
  rw [if_neg (fun e => e hj), hp]
  rfl
theorem read_skip {d : Dev} (h : d.Ok) {j : Int} (hj : 0 ≤ j ∧ j < d.blocks) (hno : ∀ p ∈ d.pen, p.1 ≠ j) : (d.read j).1 = d.dur.getD j.toNat ByteArray.empty := by
  unfold Dev.read
  rw [if_neg (fun e => e hj)]
  exact puts_skip hj.1 _ _ (fun p hp => (h.pend p hp).1) hno
theorem picks_one {l : List (Int × Nat)} (h1 : ∀ p ∈ l, 0 ≤ p.1 ∧ p.1 < 1) (h2 : (l.map (·.1)).Nodup) : l = [] ∨ ∃ m, l = [(0, m)] := by
  match l with
  | [] => exact .inl rfl
  | [(i, m)] =>
    have := h1 _ List.mem_cons_self
    dsimp only at this
    exact .inr ⟨m, by rw [show i = 0 by omega]⟩
  | (i, m) :: (j, m') :: r =>
    exfalso
    have a := h1 (i, m) List.mem_cons_self
    have b := h1 (j, m') (List.mem_cons_of_mem _ List.mem_cons_self)
    dsimp only at a b
    simp only [List.map_cons, List.nodup_cons, List.mem_cons, not_or] at h2
    exact h2.1.1 (by omega)
theorem crash_reads {d : Dev} (hok : d.Ok) (hf : 0 ≤ d.fuse) {c : List Nat} {s : Sup} {slot : Int} (hchk : chk s = 0) (hsz : s.size = d.size) (hps : ∀ p ∈ s.pages, 2 ≤ p ∧ (p : Int) < d.blocks) (hslot : slot = 0 ∨ slot = 1) {Hd : Nat → Prop}
    (hH : ∀ j, Hd j → (j : Int) < d.blocks ∧ (∀ p ∈ d.pen, p.1 ≠ (j : Int)) ∧ ∀ p ∈ s.pages, ((p : Nat) : Int) ≠ (j : Int)) {r : Dev × Int} (hr : commitD d c s slot = r) {l : List (Int × Nat)} (hl : r.1.pickOK l) :
    (r.2 ≠ 0 ∧ ∀ j, Hd j → ((r.1.crashed l).read (j : Int)).1 = (d.read (j : Int)).1) ∨
    (r.2 ≠ 0 ∧ (∀ j, Hd j → (j : Int) ≠ slot → ((r.1.crashed l).read (j : Int)).1 = (d.read (j : Int)).1) ∧ ((r.1.crashed l).read slot).1 ≠ newS s ∧ r.1.pen = [(slot, newS s)]) ∨
    (∀ j : Nat, (j : Int) < d.blocks → ((r.1.crashed l).read (j : Int)).1 = (Go.Proofs.YtjdmggaeagnolaaGreatDoor.V.put (dur2 d c s) (slot, newS s)).getD j ByteArray.empty) := by
  obtain ⟨v1, _, v2⟩ := commit_runs (d := d) hok (c := c) (s := s) (slot := slot) hchk hsz hps hslot
  rw [hr] at v1 v2
  have v2 := v2 hf
  have hcbl : (r.1.crashed l).blocks = d.blocks := v1.blocks
  have hcrd : ∀ j : Int, 0 ≤ j ∧ j < d.blocks → ((r.1.crashed l).read j).1 = (l.foldl (applyP r.1.pen) r.1.dur).getD j.toNat ByteArray.empty := fun j hj => read_dur rfl (by rw [hcbl]; exact hj)
  have hdl : (d.dur.length : Int) = d.blocks := hok.len
  have hd2l : (dur2 d c s).length = d.dur.length := by unfold dur2; rw [puts_len]
  have hskip : ∀ j, Hd j → (dur2 d c s).getD j ByteArray.empty = (d.read (j : Int)).1 := by
    intro j hj
    obtain ⟨h1, h2, h3⟩ := hH j hj
    rw [read_skip hok ⟨by omega, h1⟩ h2, Int.toNat_natCast]
    unfold dur2
    have hM := (cmL_fit hok (c := c) (s := s) hps).2
    have := puts_skip (k := (j : Int)) (by omega) (e := ByteArray.empty) (d.pen ++ fwL d.size.toNat (cmL d c s)) d.dur (fun p hp => ?_) (fun p hp => ?_)
    · rw [Int.toNat_natCast] at this; exact this
    · rcases List.mem_append.1 hp with hp | hp
      · exact (hok.pend p hp).1
      · unfold fwL at hp
        obtain ⟨q, hq, rfl⟩ := List.mem_map.1 hp
        dsimp only
        omega
    · rcases List.mem_append.1 hp with hp | hp
      · exact h2 p hp
      · unfold fwL at hp
        obtain ⟨q, hq, rfl⟩ := List.mem_map.1 hp
        exact h3 q.1 (hM q hq)
  have hnil : r.1.pen = [] → l = [] := by
    intro hp
    cases l with
    | nil => rfl
    | cons p q =>
      obtain ⟨p1, p2, _⟩ := hl.1 p List.mem_cons_self
      rw [hp] at p2
      simp at p2
      omega
  rcases v2 with ⟨a1, a2, ws, a3, a4⟩ | ⟨a1, a2, a3⟩ | ⟨a1, a2, a3⟩ | ⟨a1, a2, a3⟩
  · refine .inl ⟨a1, fun j hj => ?_⟩
    obtain ⟨h1, h2, h3⟩ := hH j hj
    rw [hcrd _ ⟨by omega, h1⟩, a2, Int.toNat_natCast, read_skip hok ⟨by omega, h1⟩ h2, Int.toNat_natCast]
    refine apply_skip l _ (fun p hp e => ?_)
    obtain ⟨p1, p2, _⟩ := hl.1 p hp
    have hm := pen_get p1 p2
    have h0 := (v1.ok.pend _ hm).1
    rw [a3] at hm e h0
    rcases List.mem_append.1 hm with hm | hm
    · exact h2 _ hm (by omega)
    · obtain ⟨q, hq, e2⟩ := a4 _ hm
      exact h3 q hq (by omega)
  · refine .inl ⟨a1, fun j hj => ?_⟩
    obtain ⟨h1, h2, h3⟩ := hH j hj
    rw [hcrd _ ⟨by omega, h1⟩, a2, hnil a3, Int.toNat_natCast]
    exact hskip j hj
  · have hone := picks_one (fun p hp => by
      obtain ⟨p1, p2, _⟩ := hl.1 p hp
      rw [a3] at p2
      exact ⟨p1, by simpa using p2⟩) hl.2
    have hidx : ∀ p ∈ l, (r.1.pen.getD p.1.toNat w00).1 = slot := fun p hp => by
      obtain ⟨p1, p2, _⟩ := hl.1 p hp
      have hm := pen_get p1 p2
      rw [a3] at hm ⊢
      rw [List.mem_singleton.1 hm]
    have hoth : ∀ j : Nat, (j : Int) < d.blocks → (j : Int) ≠ slot → ((r.1.crashed l).read (j : Int)).1 = (dur2 d c s).getD j ByteArray.empty := by
      intro j hj hne
      rw [hcrd _ ⟨by omega, hj⟩, a2, Int.toNat_natCast]
      exact apply_skip l _ (fun p hp e => by rw [hidx p hp] at e; omega)
    by_cases hb2 : ((r.1.crashed l).read slot).1 = newS s
    · refine .inr (.inr (fun j hj => ?_))
      unfold Go.Proofs.YtjdmggaeagnolaaGreatDoor.V.put
      rw [getD_set, hd2l]
      by_cases e : (j : Int) = slot
      · rw [if_pos ⟨by dsimp only; omega, by omega⟩, e]
        exact hb2
      · rw [if_neg (fun hh => e (by have := hh.1; dsimp only at this; omega))]
        exact hoth j hj e
    · refine .inr (.inl ⟨a1, fun j hj hne => ?_, hb2, a3⟩)
      rw [hoth j (hH j hj).1 hne]
      exact hskip j hj
  · refine .inr (.inr (fun j hj => ?_))
    rw [hcrd _ ⟨by omega, hj⟩, a2, hnil a3, Int.toNat_natCast]
    rfl
theorem old_dev {S : Spa} {R H : List Nat} {M : Option (List Nat)} (hg : Great S R H M) {d : Dev} (hok : d.Ok) (hf : d.fuse = -1) (hdim : d.size = S.dev.size ∧ d.blocks = S.dev.blocks)
    (h1 : ∀ j : Nat, (j < 2 ∨ (j < S.N ∧ S.held.getD j 0 ≠ 0)) → (j : Int) ≠ other S.slot → (d.read (j : Int)).1 = (S.dev.read (j : Int)).1)
    (h2 : (getS (B (d.read (other S.slot)).1)).2 ≠ 0 ∨ (getS (B (d.read (other S.slot)).1)).1.gen < S.sup.gen) :
    Great { S with now := S.held, mark := none, dev := d } H H none ∧ ∀ k, usedC S.sup.pages S.held k = true → Spa.page { S with now := S.held, mark := none, dev := d } k = S.page k := by
  obtain ⟨o1, o2, o3⟩ := other_two hg.heldOK.slot
  have hslot := hg.heldOK.slot
  have hS0 := great_abort hg
  have e : S.slot = ((S.slot.toNat : Nat) : Int) := by omega
  have hc : (d.read S.slot).1 = (S.dev.read S.slot).1 := by
    rw [e]
    exact h1 S.slot.toNat (.inl (by omega)) (by rw [← e]; exact o3.symm)
  refine ⟨great_dev hS0 rfl rfl hok hf hdim hc h2 (fun j hj2 hjN hj0 => h1 j (.inr ⟨hjN, hj0⟩) (by omega)), fun k hk => ?_⟩
  obtain ⟨a1, a2, a3⟩ := usedC_iff.1 hk
  have hkN := hg.hwell.lt hk
  show pageR S.N (B (d.read (k : Int)).1) = pageR S.N (B (S.dev.read (k : Int)).1)
  rw [h1 k (.inr ⟨hkN, by omega⟩) (by omega)]
theorem new_dev {S : Spa} {R : List Nat} (hg : Great S R R none) (hn : S.now = S.held) (hm : S.mark = none) {d : Dev} (hok : d.Ok) (hf : d.fuse = -1) (hdim : d.size = S.dev.size ∧ d.blocks = S.dev.blocks)
    (h1 : ∀ j : Nat, j < S.N → (d.read (j : Int)).1 = (S.dev.read (j : Int)).1) :
    Great { S with dev := d } R R none ∧ ∀ k, k < S.N → Spa.page { S with dev := d } k = S.page k := by
  obtain ⟨o1, o2, o3⟩ := other_two hg.heldOK.slot
  have hslot := hg.heldOK.slot
  have hN := hg.good.dims.n
  have h01 : ∀ j : Int, (j = 0 ∨ j = 1) → (d.read j).1 = (S.dev.read j).1 := fun j hj => by
    have := h1 j.toNat (by omega)
    rw [show ((j.toNat : Nat) : Int) = j by omega] at this
    exact this
  have ho := hg.heldOK.old
  refine ⟨great_dev hg hm hn hok hf hdim (h01 _ hslot) (by rw [h01 _ o1]; exact ho) (fun j _ hj _ => h1 j hj), fun k hk => ?_⟩
  show pageR S.N (B (d.read (k : Int)).1) = pageR S.N (B (S.dev.read (k : Int)).1)
  rw [h1 k hk]
theorem crash_main {S : Spa} {R H : List Nat} {M : Option (List Nat)} (hg : Great S R H M) (hpw : ∀ p ∈ S.dev.pen, 2 ≤ p.1 ∧ S.held.getD p.1.toNat 0 = 0) {root : Nat} (hroot : root = 0 ∨ usedC S.sup.pages S.now root = true) (hgen : S.sup.gen + 1 < 1000000000000)
    (hfit : ∀ n, S.now.getD n 0 < 65536) {k : Int} (hk : 0 ≤ k) (hk2 : k < 9223372036854775808) {S1 : Spa} (hS1 : S1 = { S with dev := { S.dev with fuse := k } }) {l : List (Int × Nat)} (hl : (S1.commit root).1.dev.pickOK l) :
    ((S1.commit root).2 ≠ 0 ∧ Great { S with now := S.held, mark := none, dev := (S1.commit root).1.dev.crashed l } H H none ∧ ∀ k, usedC S.sup.pages S.held k = true → Spa.page { S with now := S.held, mark := none, dev := (S1.commit root).1.dev.crashed l } k = S.page k) ∨
    (Great { (S.commit root).1 with dev := (S1.commit root).1.dev.crashed l } R R none ∧ ∀ k, usedC S.sup.pages S.now k = true → Spa.page { (S.commit root).1 with dev := (S1.commit root).1.dev.crashed l } k = S.page k) ∨
    ((S1.commit root).2 ≠ 0 ∧ ((((S1.commit root).1.dev.crashed l).read (other S.slot)).1 ≠ (S.dev.read (other S.slot)).1 ∧ (∀ p ∈ (S1.commit root).1.dev.pen, p.2 ≠ (((S1.commit root).1.dev.crashed l).read (other S.slot)).1) ∧ (getS (B (((S1.commit root).1.dev.crashed l).read (other S.slot)).1)).2 = 0)) := by
  have hG := hg.good
  have ho := hg.heldOK
  have hdim := hG.dims
  have hN := hdim.n
  have hbl := hdim.blocks
  have hsb := hG.ok.blocks
  have hok := hG.dev
  obtain ⟨c1, c2, c3, c4, c5, c6, c7⟩ := great_commit hg hroot hgen hfit
  obtain ⟨o1, o2, o3⟩ := other_two ho.slot
  have hslot := ho.slot
  have hnsm : ∀ k ∈ S.ns, k < S.N ∧ 2 ≤ k ∧ S.held.getD k 0 = 0 := fun k hk => by
    obtain ⟨a1, a2, a3⟩ := ns_free hk
    exact ⟨a1, a2, (isFree_iff.1 a3).2.1⟩
  have hps : ∀ p ∈ (S.next root).pages, 2 ≤ p ∧ (p : Int) < S.dev.blocks := fun p hp => by have := hnsm p hp; rw [← hsb, hbl]; omega
  have hok1 : Dev.Ok { S.dev with fuse := k } := ⟨hok.geo, hok.len, hok.each, hok.pend, by show -1 ≤ k ∧ k < 9223372036854775808; omega⟩
  obtain ⟨u1, u2, _⟩ := commit_runs (d := S.dev) hok (c := S.comC) (s := S.next root) (slot := other S.slot) c6 hG.ok.size hps o1
  obtain ⟨u3, u4, u5⟩ := u2 hG.fuse
  obtain ⟨v1, _, _⟩ := commit_runs (d := { S.dev with fuse := k }) hok1 (c := S.comC) (s := S.next root) (slot := other S.slot) c6 hG.ok.size hps o1
  have eS : (S1.commit root).1.dev = (commitD { S.dev with fuse := k } S.comC (S.next root) (other S.slot)).1 ∧ (S1.commit root).2 = (commitD { S.dev with fuse := k } S.comC (S.next root) (other S.slot)).2 := by
    subst hS1
    have hE : Spa.comE { S with dev := { S.dev with fuse := k } } root = 0 := c5
    unfold Spa.commit
    rw [if_neg (fun hh => hh hE)]
    split
    · exact ⟨rfl, rfl⟩
    · rename_i hz
      refine ⟨rfl, ?_⟩
      have hz : ¬ (commitD { S.dev with fuse := k } S.comC (S.next root) (other S.slot)).2 ≠ 0 := hz
      exact (Classical.not_not.1 hz).symm
  have edev : (S.commit root).1.dev = (commitD S.dev S.comC (S.next root) (other S.slot)).1 := by rw [c1]; rfl
  rw [eS.1] at hl ⊢
  rw [eS.2]
  have hcr := crash_reads (d := { S.dev with fuse := k }) hok1 hk (c := S.comC) (s := S.next root) (slot := other S.slot) c6 hG.ok.size hps o1 (Hd := fun j => j < 2 ∨ (j < S.N ∧ S.held.getD j 0 ≠ 0)) (fun j hj => by
    refine ⟨by show (j : Int) < S.dev.blocks; rw [← hsb, hbl]; omega, fun p hp e => ?_, fun p hp e => ?_⟩
    · obtain ⟨a1, a2⟩ := hpw p hp
      rw [e, Int.toNat_natCast] at a2
      rcases hj with hj | hj
      · omega
      · exact hj.2 a2
    · obtain ⟨a1, a2, a3⟩ := hnsm p hp
      have e : p = j := by omega
      subst e
      rcases hj with hj | hj
      · omega
      · exact hj.2 a3) rfl hl
  have hcok := v1.ok.crashed l
  have hcsz := v1.size
  have hcbl := v1.blocks
  generalize commitD { S.dev with fuse := k } S.comC (S.next root) (other S.slot) = r at *
  have hcsz : (r.1.crashed l).size = S.dev.size := hcsz
  have hcbl : (r.1.crashed l).blocks = S.dev.blocks := hcbl
  have hdr : ∀ j : Int, (Dev.read { S.dev with fuse := k } j).1 = (S.dev.read j).1 := fun j => rfl
  have oslot : other S.slot = (((other S.slot).toNat : Nat) : Int) := by omega
  have old : (∀ j : Nat, (j < 2 ∨ (j < S.N ∧ S.held.getD j 0 ≠ 0)) → (j : Int) ≠ other S.slot → ((r.1.crashed l).read (j : Int)).1 = (S.dev.read (j : Int)).1) →
      ((getS (B ((r.1.crashed l).read (other S.slot)).1)).2 ≠ 0 ∨ (getS (B ((r.1.crashed l).read (other S.slot)).1)).1.gen < S.sup.gen) → Great { S with now := S.held, mark := none, dev := r.1.crashed l } H H none ∧ ∀ k, usedC S.sup.pages S.held k = true → Spa.page { S with now := S.held, mark := none, dev := r.1.crashed l } k = S.page k := by
    intro h1 h2
    exact old_dev hg hcok rfl ⟨hcsz, hcbl⟩ h1 h2
  rcases hcr with ⟨a1, a2⟩ | ⟨a1, a2, a3, a4⟩ | a2
  · refine .inl ⟨a1, old (fun j hj _ => a2 j hj) ?_⟩
    have h0 := ho.old
    have h1 := a2 (other S.slot).toNat (.inl (by omega))
    rw [← oslot, hdr] at h1
    rw [h1]
    exact h0
  · by_cases hb1 : ((r.1.crashed l).read (other S.slot)).1 = (S.dev.read (other S.slot)).1
    · refine .inl ⟨a1, old a2 ?_⟩
      rw [hb1]
      exact ho.old
    · by_cases hb3 : (getS (B ((r.1.crashed l).read (other S.slot)).1)).2 = 0
      · refine .inr (.inr ⟨a1, hb1, fun p hp e => ?_, hb3⟩)
        rw [a4] at hp
        rw [List.mem_singleton.1 hp] at e
        exact a3 e.symm
      · exact .inl ⟨a1, old a2 (.inl hb3)⟩
  · have h1 : ∀ j : Nat, j < S.N → ((r.1.crashed l).read (j : Int)).1 = ((S.commit root).1.dev.read (j : Int)).1 := by
      intro j hj
      have hjb : (j : Int) < S.dev.blocks := by rw [← hsb, hbl]; omega
      rw [a2 j hjb, edev, read_dur u5 ⟨by omega, by rw [u1.blocks]; exact hjb⟩, u4, Int.toNat_natCast]
      rfl
    have e2 : (S.commit root).1.N = S.N := by rw [c1]; rfl
    have e3 : (S.commit root).1.dev.size = S.dev.size ∧ (S.commit root).1.dev.blocks = S.dev.blocks := by rw [edev]; exact ⟨u1.size, u1.blocks⟩
    have e4 : (S.commit root).1.now = (S.commit root).1.held := by rw [c1]
    have e5 : (S.commit root).1.mark = none := by rw [c1]
    rw [← e2] at h1
    obtain ⟨n1, n2⟩ := new_dev c2 e4 e5 hcok rfl ⟨hcsz.trans e3.1.symm, hcbl.trans e3.2.symm⟩ h1
    refine .inr (.inl ⟨n1, fun k hk => ?_⟩)
    rw [n2 k (by rw [e2]; exact hG.well.lt hk)]
    exact c4 k hk
end Go.Proofs.YtjdmggaeagnolaaGreatDoor.V
/- Spaces of one's own, with the blocks that they own. -/
namespace Go.Proofs.YtjdmggaeagnolaaGreatDoor.V
open Go Go.Proofs Go.RowKit Crc
variable {w0 w w' : World} {b db : Nat} {S S' : Spa} {F : Nat → Prop}
end Go.Proofs.YtjdmggaeagnolaaGreatDoor.V
