/-
  disk.Load.
-/
import Derived.Test.YtflnlpbcmcfblaaRead
namespace Go.Proofs.Ytflnlpbcmcfblaa
open Go.RowKit

def chunk (image : List UInt8) (k : Nat) : List UInt8 := (image.drop (k * 64)).take 64
/-- The first k blocks laid. -/
def DS.laidUpto (image : List UInt8) (n k : Nat) : DS := (List.range k).foldl (fun S i => S.lay (i, chunk image i)) (DS.new n)
def DS.tear (S : DS) (t : Int) : DS := { S with torn := S.torn.set t.toNat true }
def DS.tearAll (S : DS) (l : List Int) : DS := l.foldl DS.tear S
def DS.load (image : List UInt8) (torn : List Int) : DS := (DS.laidUpto image (image.length / 64) (image.length / 64)).tearAll torn

theorem laidUpto_succ (image : List UInt8) (n k : Nat) : DS.laidUpto image n (k + 1) = (DS.laidUpto image n k).lay (k, chunk image k) := by
  unfold DS.laidUpto; rw [List.range_succ, List.foldl_append]; rfl
theorem laidUpto_fields (image : List UInt8) (n k : Nat) : (DS.laidUpto image n k).data.length = n ∧ (DS.laidUpto image n k).torn = List.replicate n false ∧ (DS.laidUpto image n k).pend = [] ∧ (DS.laidUpto image n k).off = false ∧
    (DS.laidUpto image n k).pl = false ∧ (DS.laidUpto image n k).left = 0 ∧ (DS.laidUpto image n k).wr = 0 ∧ (DS.laidUpto image n k).sy = 0 := by
  induction k with
  | zero => simp [DS.laidUpto, DS.new]
  | succ k ih =>
    rw [laidUpto_succ]
    obtain ⟨h1, h2, h3, h4, h5, h6, h7, h8⟩ := ih
    refine ⟨by simp [DS.lay, h1], ?_, h3, h4, h5, h6, h7, h8⟩
    simp only [DS.lay, h2]
    apply List.ext_getElem
    · simp
    · intro i h1 h2; simp
theorem tearAll_take_succ (S : DS) (l : List Int) (k : Nat) (h : k < l.length) : S.tearAll (l.take (k + 1)) = (S.tearAll (l.take k)).tear l[k] := by
  unfold DS.tearAll
  rw [List.take_succ_eq_append_getElem h, List.foldl_append]
  rfl
theorem tearAll_fields (l : List Int) : ∀ S : DS, (S.tearAll l).data = S.data ∧ (S.tearAll l).torn.length = S.torn.length ∧ (S.tearAll l).pend = S.pend ∧ (S.tearAll l).off = S.off ∧ (S.tearAll l).pl = S.pl ∧ (S.tearAll l).left = S.left ∧ (S.tearAll l).wr = S.wr ∧ (S.tearAll l).sy = S.sy := by
  induction l with
  | nil => intro S; simp [DS.tearAll]
  | cons x l ih =>
    intro S
    have := ih (S.tear x)
    simpa [DS.tearAll, DS.tear] using this

theorem chunk_len {image : List UInt8} {n k : Nat} (hn : image.length = n * 64) (hk : k < n) : (chunk image k).length = 64 := by
  unfold chunk
  have := Nat.mul_le_mul_right 64 (show k + 1 ≤ n from hk)
  simp; omega

theorem cut_chunk {cur : Array Value} {off : Nat} {image : List UInt8} {n k : Nat} (hn : image.length = n * 64) (hk : k < n) (hx : off + image.length ≤ cur.size) (hc : cut cur off image.length = bvA image) :
    cut cur (off + k * 64) 64 = bvA (chunk image k) := by
  have h64 := chunk_len hn hk
  have hm := Nat.mul_le_mul_right 64 (show k + 1 ≤ n from hk)
  refine cut_ext (by rw [bvA_size, h64]) (by omega) (fun i hi => ?_)
  have := cut_get hx (k * 64 + i) (by omega)
  rw [Nat.add_assoc, ← this, hc, bvA_get, bvA_get]
  unfold chunk
  rw [List.getElem?_take_of_lt hi, List.getElem?_drop]

theorem setIf_same {cur : Array Value} {k : Nat} {v : Value} (h : cur[k]? = some v) : cur.setIfInBounds k v = cur := by
  apply Array.ext_getElem?
  intro i
  by_cases e : k = i
  · subst e
    have := (Array.getElem?_eq_some_iff.1 h).1
    rw [h]; simp [this]
  · rw [Array.getElem?_setIfInBounds_ne e]

set_option maxRecDepth 20000 in
set_option maxHeartbeats 2000000 in
theorem load_ok (w : World) (g off cap : Nat) (image : List UInt8) (tv : Value) (torn : List Int) (n : Nat) (hn : image.length = n * 64) (hcap : image.length ≤ cap) (h1 : 1 ≤ n) (h2 : n ≤ 16384)
    (hx : off + image.length ≤ (rowOf w g).size) (hc : cut (rowOf w g) off image.length = bvA image) (ht : IntsAt w tv torn) (hok : ∀ t ∈ torn, 0 ≤ t ∧ t < n) :
    Calls Try.prog 30 #[.slice (some ⟨g, off, none⟩) image.length cap, tv] w fun e w' => ∃ p : DP, e = .returned (.tuple #[.pointer (some ⟨p.d, 0, none⟩), .int .i64 0]) ∧ DiskRep w' p (DS.load image torn) ∧
      Fr (fun _ => False) w w' ∧ ∀ k, p.foot k → w.heap.size ≤ k := by
  obtain ⟨at_, capt, rfl, hmt, ht2⟩ := ht
  have HT := Lib.hid ht2
  have HN := Lib.hid hn
  have HX := Lib.hid hx
  have HC := Lib.hid hc
  have HK := Lib.hid hok
  obtain ⟨L, hL⟩ : ∃ L, image.length = L := ⟨_, rfl⟩
  have hgl : g < w.heap.size := rowOf_lt (by omega)
  rw [hL] at hn hcap ⊢
  rw [hn] at hcap
  have HLL := Lib.hid hL
  have e1 : Int.tmod (L : Int) 64 = 0 := by rw [hn]; simp
  have e2 : Int.tdiv (L : Int) 64 = n := by rw [hn]; simp
  clear hx hc hok ht2 hL
  go_enter Try.func30, Try.ntmps30
  go_wp2_with fail
  refine (new_ok w n h1 h2).mono ?_
  rintro e w1 ⟨p, rfl, hr1, f1, hfr⟩
  have HR1 := Lib.hid hr1
  have F1 := Lib.hid f1
  have HFR := Lib.hid hfr
  have hsz1 := f1.size
  obtain ⟨cb, ct, hd1, hcb, hct, hsb, hst⟩ := hr1.ex
  obtain ⟨rd1, ld1⟩ := hd1
  have hdl : (DS.new n).data.length = n := by simp [DS.new]
  rw [hdl] at rd1 hcb hct
  have HD1 := Lib.hid (show DStruct w1 p.d _ _ _ _ _ _ _ _ from ⟨rd1, ld1⟩)
  have hpb := HFR.out p.gb (.inr (.inl rfl))
  have hpd := HFR.out p.d (.inl rfl)
  have hpt := HFR.out p.gt (.inr (.inr (.inl rfl)))
  have NB := hr1.n1
  have NT := hr1.n2
  have NBT := hr1.n3
  clear hr1 f1 hfr hst hdl
  go_wp2
  go_loopw [8, 30] (fun _ i wr => ∃ (k : Nat), k ≤ n ∧ i = .int .i64 k ∧ DiskRep wr p (DS.laidUpto image n k) ∧ Fr (fun i => i = p.gb) w1 wr) (fun _ i _ => n - (intOf i).toNat)
  case atStart => exact ⟨0, Nat.zero_le _, rfl, HR1.out, Fr.refl _ _⟩
  case round =>
    obtain ⟨k, hk, rfl, hrep, hf⟩ := hrel
    have HREP := Lib.hid hrep
    have HF := Lib.hid hf
    obtain ⟨rd, ld⟩ := HD1.out.keep hf NB
    have hszr := hf.size
    clear rd1 ld1 hrep hf
    by_cases hlt : k < n
    · have hki : (k : Int) < (n : Int) := by omega
      have hm := Nat.mul_le_mul_right 64 (show k + 1 ≤ n from hlt)
      have hlb := HREP.out.lb
      have rg : rowOf wr g = rowOf w g := by rw [HF.out.row (by omega) (by omega), F1.out.row hgl (fun h => h)]
      have hgs : off + k * 64 + 64 ≤ (rowOf wr g).size := by rw [rg]; have := HX.out; rw [HLL.out] at this; omega
      have hcc : cut (rowOf wr g) (off + k * 64) 64 = bvA (chunk image k) := by rw [rg]; exact cut_chunk HN.out hlt HX.out HC.out
      have hbs : k * 64 + 64 ≤ (rowOf wr p.gb).size := by
        obtain ⟨cb2, ct2, hd2, hcb2, _, hsb2, _⟩ := HREP.out.ex
        rw [hsb2]; rw [(laidUpto_fields image n k).1] at hcb2
        have := Nat.mul_le_mul_right 64 hcb2; omega
      have hones : ones (bvA (chunk image k)) := bvA_ones _
      have hk3 : k * 64 ≤ n * 64 := by omega
      have hk64 : 64 ≤ n * 64 - k * 64 := by omega
      have hkn : ¬ (n * 64 = k * 64) := by omega
      clear rg
      have hcp : k * 64 ≤ cap := by omega
      go_wp2
      go_region
      go_wp2
      go_roundw
      case rel =>
        have hl := laidUpto_fields image n k
        have ht0 : (DS.laidUpto image n k).torn[k]? = some false := by rw [hl.2.1]; simp [hlt]
        have htl : k < (DS.laidUpto image n k).torn.length := by rw [hl.2.1]; simpa using hlt
        have hcell := HREP.out.rt k htl
        rw [List.getElem?_eq_getElem htl] at ht0
        rw [Option.some.inj ht0] at hcell
        have FW : Fr (fun i => i = p.gb) wr ((wr.setRow p.gb (blit (rowOf wr p.gb) (k * 64) (bvA (chunk image k)))).drew) := ((Fr.refl (fun i => i = p.gb) wr).setRow _ _ (fun _ => rfl)).drew
        refine ⟨k + 1, by omega, by go_num, ?_, HF.out.trans FW (fun _ _ h => h)⟩
        rw [laidUpto_succ]
        refine HREP.out.laid (by rw [hl.1]; exact hlt) (chunk_len HN.out hlt) (by simp [go_sem, hlb]) ?_ (FW.mono (fun i _ h => .inl h)) (by simp [go_sem, hlb]) (by rw [FW.liv (live_lt HREP.out.lt) (fun e => NBT e.symm)]; exact HREP.out.lt)
        rw [FW.row (live_lt HREP.out.lt) (fun e => NBT e.symm), setIf_same hcell]
      case measure => simp [intOf]; omega
    · obtain rfl : k = n := by omega
      have hszw : w.heap.size ≤ wr.heap.size := by omega
      have HF2 := Lib.hid (HF.out.trans (Fr.refl (fun i => i = p.gb) wr) (fun _ _ h => h))
      go_wp2
      clear rd ld
      go_loopw [10, 48] (fun _ i wt => ∃ (j : Nat), j ≤ torn.length ∧ i = .int .i64 j ∧ DiskRep wt p ((DS.laidUpto image k k).tearAll (torn.take j)) ∧ Fr (fun i => i = p.gb ∨ i = p.gt) w1 wt) (fun _ i _ => torn.length - (intOf i).toNat)
      case atStart => exact ⟨0, Nat.zero_le _, rfl, HREP.out, HF.out.mono (fun _ _ h => .inl h)⟩
      case round =>
        obtain ⟨j, hj, rfl, hrep, hf⟩ := hrel
        have HR2 := Lib.hid hrep
        have HG := Lib.hid hf
        obtain ⟨rd, ld⟩ := HD1.out.keep hf (fun e => e.elim NB NT)
        have hszt := hf.size
        clear hrep hf
        by_cases hjt : j < torn.length
        · rcases HT.out with hnil | ⟨gx, ox, hax, hcell⟩
          · exfalso; rw [hnil] at hjt; simp at hjt
          subst hax
          have hc0 := hcell j hjt
          have hgx : gx < w.heap.size := rowOf_lt (by have := (Array.getElem?_eq_some_iff.1 hc0).1; omega)
          have rgx : rowOf wr gx = rowOf w gx := by rw [HG.out.row (by omega) (by omega), F1.out.row hgx (fun h => h)]
          rw [← rgx] at hc0
          have hki : (j : Int) < (torn.length : Int) := by omega
          obtain ⟨ht0, ht1⟩ := HK.out _ (List.getElem_mem hjt)
          have TS := Lib.hid (tearAll_take_succ (DS.laidUpto image k k) torn j hjt)
          obtain ⟨t, htt⟩ : ∃ t, torn[j] = t := ⟨_, rfl⟩
          rw [htt] at hc0 ht0 ht1 TS
          obtain ⟨tn, rfl⟩ : ∃ tn : Nat, t = tn := ⟨t.toNat, by omega⟩
          have htn : tn < k := by omega
          have hlt2 := HR2.out.lt
          have hts : tn < (rowOf wr p.gt).size := by
            obtain ⟨cb2, ct2, hd2, _, hct2, _, hst2⟩ := HR2.out.ex
            rw [hst2]; rw [(tearAll_fields _ _).1, (laidUpto_fields image k k).1] at hct2; omega
          have hd1 : ¬ ((tn : Int) < 0) := by omega
          have hd2 : ¬ ((k : Int) ≤ (tn : Int)) := by omega
          clear htt hcell rgx
          go_wp2
          go_roundw
          case rel =>
            have FW : Fr (fun i => i = p.gt) wr (wr.setRow p.gt ((rowOf wr p.gt).setIfInBounds tn (.bool true))) := (Fr.refl (fun i => i = p.gt) wr).setRow _ _ (fun _ => rfl)
            refine ⟨j + 1, by omega, by go_num, ?_, HG.out.trans FW (fun _ _ h => .inr h)⟩
            rw [TS.out]
            exact HR2.out.tore (by simp [go_sem, hlt2]) FW (by simp [go_sem, hlt2])
          case measure => simp [intOf]; omega
        · obtain rfl : j = torn.length := by omega
          clear rd ld
          go_wp2
          go_ret2
          refine ⟨p, rfl, ?_, F1.out.trans HG.out (fun i hi e => by omega), HFR.out⟩
          have e3 : image.length / 64 = k := by rw [HN.out]; simp
          have := HR2.out
          rw [List.take_of_length_le (Nat.le_refl _)] at this
          unfold DS.load
          rw [e3]; exact this

end Go.Proofs.Ytflnlpbcmcfblaa
