/-
  'writes': the script's writes that may be, done.
-/
import Derived.Test.YtflnlpbcmcfblaaOps
namespace Go.Proofs.Ytflnlpbcmcfblaa
open Go.RowKit

theorem BytesAt.own_lt {w : World} {v : Value} {b : List UInt8} (h : BytesAt w v b) (hb : b ≠ []) {j : Nat} (hj : v.ownBlock = some j) : j < w.heap.size := by
  obtain ⟨a, c, rfl, h | ⟨g, o, rfl, q1, q2⟩⟩ := h
  · exact absurd h hb
  · have e : g = j := by simpa [Value.ownBlock] using hj
    subst e
    have : 0 < b.length := List.length_pos_iff.2 hb
    exact rowOf_lt (by omega)

def appBig (ty : TypeId) (x y : Value) : Sem Value := Builtin.append_ #[36, 36] ty #[x, y]
@[go_sem ↓ high] theorem execOp_app36 (ρ : Operand → Value) (dst : Option Tmp) (x y : Operand) (type : TypeId) (pos : String) (after : Array Edge) (guard : Option (Nat × Bool)) :
    execOp ρ { dst, op := .call { callee := .builtin .append, args := #[x, y], argTypes := #[36, 36] }, type, pos, after, guard } = (do pure (.value (← appBig type (ρ x) (ρ y)))) := by
  simp [execOp, resolve, invoke, builtin, appBig]
attribute [go_sem high] execOp_app36

set_option maxRecDepth 20000 in
set_option maxHeartbeats 4000000 in
theorem writes_any (w0 w : World) (p : DP) (S : DS) (h : St w0 w p S) (vo : Value) (l : List OpV) (ho : OpsAt w0 vo l) (hoff : S.off = false) (hpl : S.pl = false) (hm : S.pend.length + l.length ≤ 2199023255552) (n : Nat) (hn : S.data.length = n) :
    Calls Try.prog 20 #[.pointer (some ⟨p.d, 0, none⟩), .int .i64 n, vo] w fun e w' => ∃ p' g, p'.d = p.d ∧ e = .returned (.tuple #[.slice (some ⟨g, 0, none⟩) n n, .bool true]) ∧ St w0 w' p' (S.wAll l) ∧
      LastAt w' g (lastAll n l) w.heap.size p' ∧ Moves p.foot p'.foot w w' := by
  have n1 := h.rep.ok.n1
  rw [hn] at n1
  have hnn : (0 : Int) ≤ n := by omega
  have hnm : (n : Int) ≤ 16384 := by omega
  have H := Lib.hid h
  have HN := Lib.hid hn
  have HOFF := Lib.hid hoff
  have HPL := Lib.hid hpl
  have HM := Lib.hid hm
  obtain ⟨a, cap, rfl, hl, hops⟩ := ho
  have HO := Lib.hid hops
  clear h hn hops hoff hpl hm n1
  go_enter Try.func20, Try.ntmps20
  go_wp2
  have hs0 := H.out.fr.size
  go_loopw [10, 15] (fun _ i wr => ∃ (k : Nat) (pk : DP), k ≤ l.length ∧ i = .int .i64 k ∧ pk.d = p.d ∧ St w0 wr pk (S.wAll (l.take k)) ∧ LastAt wr w.heap.size (lastAll n (l.take k)) w.heap.size pk ∧ Moves p.foot pk.foot w wr) (fun _ i _ => l.length - (intOf i).toNat)
  case atStart =>
    refine ⟨0, p, Nat.zero_le _, rfl, rfl, H.out.calm ((Fr.refl (fun _ => False) w).alloc _) (fun _ h => h.elim), ?_, ⟨(Fr.refl _ w).alloc _, fun _ h => .inl h⟩⟩
    have e : rowOf (w.alloc (.cells (Array.replicate n (.slice none 0 0)) 36)) w.heap.size = Array.replicate n (.slice none 0 0) := rowOf_alloc_at _ _ _ _ _ rfl
    refine ⟨Nat.le_refl _, live_alloc_at _ _ _ _ rfl, by rw [e]; simp [lastAll], fun hf => by have := H.out.lt hf; omega, fun i hi => ⟨.slice none 0 0, ?_, .inl ⟨by simp [lastAll], rfl⟩⟩⟩
    rw [e]
    have : i < n := by simpa [lastAll] using hi
    simp [this]
  case round =>
    obtain ⟨k, pk, hk, rfl, hpd, hst, hla, hmv⟩ := hrel
    have HST := Lib.hid hst
    have HLA := Lib.hid hla
    have HMV := Lib.hid hmv
    have HPD := Lib.hid hpd
    clear hst hla hmv hpd
    by_cases hlt : k < l.length
    · have hki : (k : Int) < (l.length : Int) := by omega
      rcases HO.out with hnil | ⟨g, off, hax, hall⟩
      · exfalso; rw [hnil] at hlt; simp at hlt
      subst hax
      obtain ⟨vd, vk, e1, e2, e3, e4⟩ := hall k hlt
      obtain ⟨ak, ck, rfl, -⟩ := e4
      have hg0 : g < w0.heap.size := rowOf_lt (by omega)
      have rg := HST.out.fr.row hg0 (fun h => h)
      rw [← rg] at e1 e2
      have E3 := Lib.hid e3
      have TS := Lib.hid (wAll_take_succ S l k hlt)
      have TL := Lib.hid (lastAll_take_succ n l k hlt)
      obtain ⟨o, hox⟩ : ∃ o, l[k] = o := ⟨_, rfl⟩
      rw [hox] at e2 E3 TS TL
      clear hall e3 hox rg
      unfold opC at e2
      obtain ⟨od, on, ob, ok⟩ := o
      simp only at e2 E3
      obtain ⟨ad, capd, hvd, hbd⟩ := E3.out
      subst hvd
      clear hbd
      have o4 : ones #[Value.int IntKind.i64 od, Value.int IntKind.i64 on, Value.slice ad ob.length capd, .slice ak ok.length ck] := by intro v hv; simp at hv; rcases hv with rfl | rfl | rfl | rfl <;> rfl
      have hwl := HST.out.fr.size
      have WF := Lib.hid (wAll_fields (l.take k) S HOFF.out HPL.out)
      have SK := Lib.hid (show OpV.isW ⟨od, on, ob, ok⟩ n = false → ∀ X, St w0 (wr.alloc X) pk (S.wAll (l.take (k + 1))) ∧ LastAt (wr.alloc X) w.heap.size (lastAll n (l.take (k + 1))) w.heap.size pk ∧ Moves p.foot pk.foot w (wr.alloc X) from fun hw X => by
        have e1 : S.wAll (l.take (k + 1)) = S.wAll (l.take k) := by rw [TS.out]; unfold DS.w1; rw [WF.out.2.2.1, HN.out, hw]; rfl
        have e2 : lastAll n (l.take (k + 1)) = lastAll n (l.take k) := by rw [TL.out]; unfold last1; rw [hw]; rfl
        rw [e1, e2]
        have f : Fr (fun _ => False) wr (wr.alloc X) := (Fr.refl _ wr).alloc X
        exact ⟨HST.out.calm f (fun _ h => h.elim), HLA.out.keep f (fun _ _ _ _ h => h) (fun _ h => .inl h), HMV.out.trans ⟨f.mono (fun _ _ h => h.elim), fun _ h => .inl h⟩⟩)
      by_cases hd : od = 0
      · subst hd
        by_cases hn0 : on < 0
        · go_wp2
          go_roundw
          case rel =>
            obtain ⟨q1, q2, q3⟩ := SK.out (by simp [OpV.isW]; omega) _
            exact ⟨k + 1, pk, by omega, by go_num, HPD.out, q1, q2, q3⟩
          case measure => simp [intOf]; omega
        · by_cases hn1 : (n : Int) ≤ on
          · go_wp2
            go_roundw
            case rel =>
              obtain ⟨q1, q2, q3⟩ := SK.out (by simp [OpV.isW]; omega) _
              exact ⟨k + 1, pk, by omega, by go_num, HPD.out, q1, q2, q3⟩
            case measure => simp [intOf]; omega
          · by_cases hl64 : ob.length = 64
            · obtain ⟨m, rfl⟩ : ∃ m : Nat, on = m := ⟨on.toNat, by omega⟩
              have hmn : m < n := by omega
              have HW := Lib.hid (show OpV.isW ⟨0, m, ob, ok⟩ (S.wAll (l.take k)).data.length = true by rw [WF.out.2.2.1, HN.out]; simp [OpV.isW, hl64]; omega)
              have HL64 := Lib.hid hl64
              rw [hl64] at e2 o4 E3
              clear hl64 hn0 hn1
              have hwr : (wr.alloc (.cells #[Value.int IntKind.i64 0, Value.int IntKind.i64 m, Value.slice ad 64 capd, .slice ak ok.length ck] 55)).heap.size = wr.heap.size + 1 := by simp
              have hbox : rowOf (wr.alloc (.cells #[Value.int IntKind.i64 0, Value.int IntKind.i64 m, Value.slice ad 64 capd, .slice ak ok.length ck] 55)) wr.heap.size = #[Value.int IntKind.i64 0, Value.int IntKind.i64 m, Value.slice ad 64 capd, .slice ak ok.length ck] := rowOf_alloc_at _ _ _ _ _ rfl
              have HX := Lib.hid (show ∀ X, Fr (fun _ => False) wr (wr.alloc X) from fun X => (Fr.refl _ wr).alloc X)
              have HWR := Lib.hid hwr
              have HBOX := Lib.hid hbox
              clear hwr hbox
              go_wp2_with fail
              obtain ⟨w4, hw4⟩ : ∃ w4, wr.alloc (.cells #[Value.int IntKind.i64 0, Value.int IntKind.i64 m, Value.slice ad 64 capd, .slice ak ok.length ck] 55) = w4 := ⟨_, rfl⟩
              have F4 := Lib.hid (hw4 ▸ HX.out _)
              rw [hw4] at HBOX HWR ⊢
              clear hw4
              have S4 := Lib.hid (HST.out.calm F4.out (fun _ h => h.elim))
              have L4 := Lib.hid (HLA.out.keep F4.out (fun _ _ _ _ h => h) (fun _ h => .inl h))
              have B4 := Lib.hid (E3.out.later S4.out.fr)
              have hsep : ∀ j, (Value.slice ad 64 capd).ownBlock = some j → ¬ pk.foot j := fun j hj hf => by
                have h1 := HST.out.foot _ hf
                have h2 := E3.out.own_lt (by intro e; have := HL64.out; rw [e] at this; simp at this) hj
                omega
              rw [← HPD.out]
              refine (write_any w4 pk _ S4.out.rep m (.slice ad 64 capd) ob B4.out hsep (by rw [WF.out.2.2.2.2.2.2]; have h1 := wPend_len S.data.length (l.take k); have h2 := HM.out; simp only [List.length_append, List.length_take] at h1 ⊢; omega)).mono ?_
              rintro e w5 ⟨p5, hp5, rfl, r5, m5⟩
              have EW := write_isW HW.out WF.out.1 WF.out.2.1
              have ew1 := congrArg Prod.fst EW
              have ew2 := congrArg Prod.snd EW
              simp only at ew1 ew2
              rw [ew1, HPD.out]
              rw [ew2] at r5
              have S5 := Lib.hid (S4.out.move m5 r5)
              have hbf : ¬ pk.foot wr.heap.size := fun hf => by have := HST.out.lt hf; omega
              have b5 : rowOf w5 wr.heap.size = _ := (m5.fr.row (by rw [HWR.out]; omega) hbf).trans HBOX.out
              have L5 := Lib.hid (L4.out.keep m5.fr (fun _ _ _ h => h) m5.new)
              have M5 := Lib.hid m5
              have HP5 := Lib.hid hp5
              clear r5 m5 hp5 hsep hbf EW ew1 ew2
              obtain ⟨hgb, lg5, sz5, nf5, hcells⟩ := L5.out
              obtain ⟨u0, hu0, -⟩ := hcells m (by rw [lastAll_len]; exact hmn)
              have h45 := M5.out.fr.size
              have hgl5 := live_lt lg5
              have S5w := S5.out.fr.size
              clear hcells sz5
              obtain ⟨v6, w6, hrun, o6, f6, n6⟩ := run_append_B (w := w5.drew) 36 (OwnB.nil _ w5.heap.size) (Nat.le_refl _) (vs := .slice ad 64 capd) (news := ob) (E3.out.later S5.out.fr.drew) (by simp [HL64.out])
              have hrun' : (appBig 36 (.slice none 0 0) (.slice ad 64 capd)).run Try.prog w5.drew = .ok v6 w6 := hrun
              have O6 := Lib.hid o6
              have F6 := Lib.hid (show Fr (fun _ => False) w5 w6 from ⟨f6.os, f6.tape, f6.output, f6.size, fun i hi _ => f6.block i hi (fun e => by cases e)⟩)
              have ux6 : (rowOf w6 w.heap.size)[m]? = some u0 := by rw [F6.out.row hgl5 (fun h => h)]; exact hu0
              have l6 : live w6 w.heap.size = true := (F6.out.liv hgl5 (fun h => h)).trans lg5
              have b6 := (F6.out.row (g := wr.heap.size) (by have := HWR.out; omega) (fun h => h)).trans b5
              have N6 := Lib.hid n6
              obtain ⟨a6, c6, rfl⟩ := o6.shape
              clear hrun o6 f6 n6
              go_wp2
              go_region
              go_wp2
              go_roundw
              case rel =>
                have nf5' := nf5
                have hw5 : wr.heap.size + 1 ≤ w5.heap.size := by have := HWR.out; omega
                have M6 : Moves p.foot p5.foot w w6 := ((HMV.out.trans ⟨F4.out.mono (fun _ _ h => h.elim), fun _ h => .inl h⟩).trans M5.out).trans ⟨F6.out.mono (fun _ _ h => h.elim), fun _ h => .inl h⟩
                have OB := O6.out.own (by simp [HL64.out])
                rw [List.nil_append] at OB
                have hwn : w.heap.size ≤ wr.heap.size := HMV.out.fr.size
                have hown : ∀ j, (Value.slice a6 ob.length c6).ownBlock = some j → w5.heap.size ≤ j := fun j hj => (OB.lt hj).1
                refine ⟨k + 1, p5, by omega, by go_num, HP5.out.trans HPD.out, ?_, ?_, ⟨M6.fr.setNew (Nat.le_refl _) _, M6.new⟩⟩
                · have eS : S.wAll (l.take (k + 1)) = { (S.wAll (l.take k)) with pend := (S.wAll (l.take k)).pend ++ [((m : Int).toNat, ob)], wr := wrap64 ((S.wAll (l.take k)).wr + 1) } := by
                    rw [TS.out]; unfold DS.w1; rw [if_pos HW.out, write_isW HW.out WF.out.1 WF.out.2.1]
                  rw [eS]
                  refine (S5.out.calm F6.out (fun _ h => h.elim)).calm ((Fr.refl (fun i => i = w.heap.size) w6).setRow _ _ (fun _ => rfl)) (fun j hj => by subst hj; exact ⟨hs0, nf5'⟩)
                · have eL : lastAll n (l.take (k + 1)) = (lastAll n (l.take k)).set m (some ob) := by
                    have hw2 : OpV.isW ⟨0, m, ob, ok⟩ n = true := by have := HW.out; rwa [WF.out.2.2.1, HN.out] at this
                    rw [TL.out]; unfold last1; rw [if_pos hw2]; rfl
                  rw [eL]
                  refine (L5.out.keep F6.out (fun _ _ _ _ h => h) (fun _ h => .inl h)).put (by rw [lastAll_len]; exact hmn) (OB.weaken (by omega)) (fun e => by have := hown _ e; omega) (fun j hj hf => by have := hown _ hj; have := S5.out.lt hf; omega)
                    ((Fr.refl (fun i => i = w.heap.size) w6).setRow _ _ (fun _ => rfl)) (by simp [go_sem, l6]) (by simp [go_sem, l6])
              case measure => simp [intOf]; omega
            · obtain ⟨lb, hlb⟩ : ∃ lb, ob.length = lb := ⟨_, rfl⟩
              rw [hlb] at hl64 o4 e2
              have HLB := Lib.hid hlb
              clear hlb
              go_wp2
              go_roundw
              case rel =>
                obtain ⟨q1, q2, q3⟩ := SK.out (by simp [OpV.isW, HLB.out]; omega) _
                exact ⟨k + 1, pk, by omega, by go_num, HPD.out, q1, q2, q3⟩
              case measure => simp [intOf]; omega
      · go_wp2
        go_roundw
        case rel =>
          obtain ⟨q1, q2, q3⟩ := SK.out (by simp [OpV.isW, hd]) _
          exact ⟨k + 1, pk, by omega, by go_num, HPD.out, q1, q2, q3⟩
        case measure => simp [intOf]; omega
    · obtain rfl : k = l.length := by omega
      go_wp2
      go_ret2
      refine ⟨pk, _, HPD.out, rfl, ?_, ?_, HMV.out⟩
      · have := HST.out; rwa [List.take_of_length_le (Nat.le_refl _)] at this
      · have := HLA.out; rwa [List.take_of_length_le (Nat.le_refl _)] at this

end Go.Proofs.Ytflnlpbcmcfblaa
