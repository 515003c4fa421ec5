/-
  disk.Load: what it refuses.
-/
import Derived.Deep.RegionHeld3
import Derived.Test.YtflnlpbcmcfblaaOwnM
namespace Go.Proofs.Ytflnlpbcmcfblaa
open Go.RowKit

set_option maxRecDepth 20000 in
set_option maxHeartbeats 2000000 in
theorem load_bad3 (w : World) (g off cap : Nat) (image : List UInt8) (tv : Value) (torn : List Int) (n : Nat) (hn : image.length = n * 64) (hcap : image.length ≤ cap) (h1 : 1 ≤ n) (h2 : n ≤ 16384)
    (hx : off + image.length ≤ (rowOf w g).size) (hc : cut (rowOf w g) off image.length = bvA image) (ht : IntsAt w tv torn) (hbad : ¬ ∀ t ∈ torn, 0 ≤ t ∧ t < n) :
    Calls Try.prog 30 #[.slice (some ⟨g, off, none⟩) image.length cap, tv] w fun e w' => e = .returned (.tuple #[.pointer none, .int .i64 1]) ∧ Fr (fun _ => False) w w' := by
  obtain ⟨at_, capt, rfl, hmt, ht2⟩ := ht
  have HT := Lib.hid ht2
  have HN := Lib.hid hn
  have HX := Lib.hid hx
  have HC := Lib.hid hc
  have HK := Lib.hid hbad
  obtain ⟨L, hL⟩ : ∃ L, image.length = L := ⟨_, rfl⟩
  have hgl : g < w.heap.size := rowOf_lt (by omega)
  rw [hL] at hn hcap ⊢
  rw [hn] at hcap
  have HLL := Lib.hid hL
  have e1 : Int.tmod (L : Int) 64 = 0 := by rw [hn]; simp
  have e2 : Int.tdiv (L : Int) 64 = n := by rw [hn]; simp
  clear hx hc hbad ht2 hL
  go_enter Try.func30, Try.ntmps30
  go_wp2_with fail
  refine (new_ok w n h1 h2).mono ?_
  rintro e w1 ⟨p, rfl, hr1, f1, hfr⟩
  have HR1 := Lib.hid hr1
  have F1 := Lib.hid f1
  have HFR := Lib.hid hfr
  have hsz1 := f1.size
  obtain ⟨cb, ct, hd1, hcb, hct, hsb, hst⟩ := hr1.ex
  obtain ⟨rd1, ld1⟩ := hd1
  have hdl : (DS.new n).data.length = n := by simp [DS.new]
  rw [hdl] at rd1 hcb hct
  have HD1 := Lib.hid (show DStruct w1 p.d _ _ _ _ _ _ _ _ from ⟨rd1, ld1⟩)
  have hpb := HFR.out p.gb (.inr (.inl rfl))
  have hpd := HFR.out p.d (.inl rfl)
  have hpt := HFR.out p.gt (.inr (.inr (.inl rfl)))
  have NB := hr1.n1
  have NT := hr1.n2
  have NBT := hr1.n3
  clear hr1 f1 hfr hst hdl
  go_wp2
  go_loopw [8, 30] (fun _ i wr => ∃ (k : Nat), k ≤ n ∧ i = .int .i64 k ∧ DiskRep wr p (DS.laidUpto image n k) ∧ Fr (fun i => i = p.gb) w1 wr) (fun _ i _ => n - (intOf i).toNat)
  case atStart => exact ⟨0, Nat.zero_le _, rfl, HR1.out, Fr.refl _ _⟩
  case round =>
    obtain ⟨k, hk, rfl, hrep, hf⟩ := hrel
    have HREP := Lib.hid hrep
    have HF := Lib.hid hf
    obtain ⟨rd, ld⟩ := HD1.out.keep hf NB
    have hszr := hf.size
    clear rd1 ld1 hrep hf
    by_cases hlt : k < n
    · have hki : (k : Int) < (n : Int) := by omega
      have hm := Nat.mul_le_mul_right 64 (show k + 1 ≤ n from hlt)
      have hlb := HREP.out.lb
      have rg : rowOf wr g = rowOf w g := by rw [HF.out.row (by omega) (by omega), F1.out.row hgl (fun h => h)]
      have hgs : off + k * 64 + 64 ≤ (rowOf wr g).size := by rw [rg]; have := HX.out; rw [HLL.out] at this; omega
      have hcc : cut (rowOf wr g) (off + k * 64) 64 = bvA (chunk image k) := by rw [rg]; exact cut_chunk HN.out hlt HX.out HC.out
      have hbs : k * 64 + 64 ≤ (rowOf wr p.gb).size := by
        obtain ⟨cb2, ct2, hd2, hcb2, _, hsb2, _⟩ := HREP.out.ex
        rw [hsb2]; rw [(laidUpto_fields image n k).1] at hcb2
        have := Nat.mul_le_mul_right 64 hcb2; omega
      have hones : ones (bvA (chunk image k)) := bvA_ones _
      have hk3 : k * 64 ≤ n * 64 := by omega
      have hk64 : 64 ≤ n * 64 - k * 64 := by omega
      have hkn : ¬ (n * 64 = k * 64) := by omega
      clear rg
      have hcp : k * 64 ≤ cap := by omega
      go_wp2
      go_region
      go_wp2
      go_roundw
      case rel =>
        have hl := laidUpto_fields image n k
        have ht0 : (DS.laidUpto image n k).torn[k]? = some false := by rw [hl.2.1]; simp [hlt]
        have htl : k < (DS.laidUpto image n k).torn.length := by rw [hl.2.1]; simpa using hlt
        have hcell := HREP.out.rt k htl
        rw [List.getElem?_eq_getElem htl] at ht0
        rw [Option.some.inj ht0] at hcell
        have FW : Fr (fun i => i = p.gb) wr ((wr.setRow p.gb (blit (rowOf wr p.gb) (k * 64) (bvA (chunk image k)))).drew) := ((Fr.refl (fun i => i = p.gb) wr).setRow _ _ (fun _ => rfl)).drew
        refine ⟨k + 1, by omega, by go_num, ?_, HF.out.trans FW (fun _ _ h => h)⟩
        rw [laidUpto_succ]
        refine HREP.out.laid (by rw [hl.1]; exact hlt) (chunk_len HN.out hlt) (by simp [go_sem, hlb]) ?_ (FW.mono (fun i _ h => .inl h)) (by simp [go_sem, hlb]) (by rw [FW.liv (live_lt HREP.out.lt) (fun e => NBT e.symm)]; exact HREP.out.lt)
        rw [FW.row (live_lt HREP.out.lt) (fun e => NBT e.symm), setIf_same hcell]
      case measure => simp [intOf]; omega
    · obtain rfl : k = n := by omega
      have hszw : w.heap.size ≤ wr.heap.size := by omega
      have HF2 := Lib.hid (HF.out.trans (Fr.refl (fun i => i = p.gb) wr) (fun _ _ h => h))
      go_wp2
      clear rd ld
      go_loopw [10, 48] (fun _ i wt => ∃ (j : Nat), j ≤ torn.length ∧ i = .int .i64 j ∧ DiskRep wt p ((DS.laidUpto image k k).tearAll (torn.take j)) ∧ Fr (fun i => i = p.gb ∨ i = p.gt) w1 wt ∧ Hid (∀ i (h : i < torn.length), i < j → 0 ≤ torn[i] ∧ torn[i] < (k : Int))) (fun _ i _ => torn.length - (intOf i).toNat)
      case atStart => exact ⟨0, Nat.zero_le _, rfl, HREP.out, HF.out.mono (fun _ _ h => .inl h), Lib.hid (fun i h hi => by omega)⟩
      case round =>
        obtain ⟨j, hj, rfl, hrep, hf, hall⟩ := hrel
        have HR2 := Lib.hid hrep
        have HG := Lib.hid hf
        obtain ⟨rd, ld⟩ := HD1.out.keep hf (fun e => e.elim NB NT)
        have hszt := hf.size
        clear hrep hf
        by_cases hjt : j < torn.length
        · rcases HT.out with hnil | ⟨gx, ox, hax, hcell⟩
          · exfalso; rw [hnil] at hjt; simp at hjt
          subst hax
          have hc0 := hcell j hjt
          have hgx : gx < w.heap.size := rowOf_lt (by have := (Array.getElem?_eq_some_iff.1 hc0).1; omega)
          have rgx : rowOf wr gx = rowOf w gx := by rw [HG.out.row (by omega) (by omega), F1.out.row hgx (fun h => h)]
          rw [← rgx] at hc0
          have hki : (j : Int) < (torn.length : Int) := by omega
          have TS := Lib.hid (tearAll_take_succ (DS.laidUpto image k k) torn j hjt)
          obtain ⟨t, htt⟩ : ∃ t, torn[j] = t := ⟨_, rfl⟩
          have HTT := Lib.hid htt
          rw [htt] at hc0 TS
          by_cases htn0 : t < 0
          · clear rgx htt hcell
            go_wp2
            go_ret2
            exact ⟨rfl, F1.out.trans HG.out (fun i hi e => by omega)⟩
          by_cases htn1 : (k : Int) ≤ t
          · clear rgx htt hcell
            go_wp2
            go_ret2
            exact ⟨rfl, F1.out.trans HG.out (fun i hi e => by omega)⟩
          have ht0 : 0 ≤ t := by omega
          have ht1 : t < (k : Int) := by omega
          obtain ⟨tn, rfl⟩ : ∃ tn : Nat, t = tn := ⟨t.toNat, by omega⟩
          have htn : tn < k := by omega
          have hlt2 := HR2.out.lt
          have hts : tn < (rowOf wr p.gt).size := by
            obtain ⟨cb2, ct2, hd2, _, hct2, _, hst2⟩ := HR2.out.ex
            rw [hst2]; rw [(tearAll_fields _ _).1, (laidUpto_fields image k k).1] at hct2; omega
          have hd1 : ¬ ((tn : Int) < 0) := by omega
          have hd2 : ¬ ((k : Int) ≤ (tn : Int)) := by omega
          clear htt hcell rgx
          go_wp2
          go_roundw
          case rel =>
            have FW : Fr (fun i => i = p.gt) wr (wr.setRow p.gt ((rowOf wr p.gt).setIfInBounds tn (.bool true))) := (Fr.refl (fun i => i = p.gt) wr).setRow _ _ (fun _ => rfl)
            refine ⟨j + 1, by omega, by go_num, ?_, HG.out.trans FW (fun _ _ h => .inr h), Lib.hid (fun i h hi => by
              by_cases e : i = j
              · subst e; rw [HTT.out]; omega
              · exact hall.out i h (by omega))⟩
            rw [TS.out]
            exact HR2.out.tore (by simp [go_sem, hlt2]) FW (by simp [go_sem, hlt2])
          case measure => simp [intOf]; omega
        · obtain rfl : j = torn.length := by omega
          exfalso
          apply HK.out
          intro x hx
          obtain ⟨i, hi, rfl⟩ := List.getElem_of_mem hx
          exact hall.out i hi hi

set_option maxRecDepth 20000 in
set_option maxHeartbeats 1000000 in
theorem load_bad1 (w : World) (a : Option Addr) (L cap : Nat) (tv : Value) (hL : L ≤ 9223372036854775807) (h : L % 64 ≠ 0 ∨ L / 64 < 1 ∨ 16384 < L / 64) :
    Calls Try.prog 30 #[.slice a L cap, tv] w fun e w' => e = .returned (.tuple #[.pointer none, .int .i64 1]) ∧ w = w' := by
  have E1 : Int.tmod (L : Int) 64 = ((L % 64 : Nat) : Int) := by rfl
  have E2 : Int.tdiv (L : Int) 64 = ((L / 64 : Nat) : Int) := by rfl
  have hq : L / 64 ≤ 9223372036854775807 := by omega
  obtain ⟨n, hn⟩ : ∃ n, L / 64 = n := ⟨_, rfl⟩
  rw [hn] at hq
  obtain ⟨m, hm⟩ : ∃ n, L % 64 = n := ⟨_, rfl⟩
  rw [hm] at h E1
  rw [hn] at h E2
  clear hn hm
  by_cases h1 : m = 0
  · subst h1
    have E3 : Int.tmod (L : Int) 64 = 0 := E1
    have HN := Lib.hid (show (n : Int) < 1 ∨ 16384 < (n : Int) by omega)
    clear h E1
    go_enter Try.func30, Try.ntmps30
    go_wp2_with fail
    refine (new_bad w n HN.out).mono ?_
    rintro e w' ⟨rfl, rfl⟩
    go_wp2
    go_ret2
    exact ⟨rfl, rfl⟩
  · have h3 : ((m : Int) != 0) = true := by simpa using h1
    clear h
    go_enter Try.func30, Try.ntmps30
    go_wp2
    go_ret2
    exact ⟨rfl, rfl⟩

end Go.Proofs.Ytflnlpbcmcfblaa
