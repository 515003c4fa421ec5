/-
  Package log: the small calls on a log that stands open.
-/
import Derived.Test.YtflnlpbcmcfblaaLP
namespace Go.Proofs.Ytflnlpbcmcfblaa
open Go.RowKit

/-! ### Package log: the small calls on a log that stands open. -/
section
variable (w : World) (bl d : Nat) (h : HeadV) (slot size used records : Nat) (over : Bool) (bm : Nat)

set_option maxHeartbeats 400000 in
theorem logNone_ok (hrow : rowOf w bl = logRow d h slot size used records over bm) :
    Calls Try.prog 89 #[.pointer (some ⟨bl, 0, none⟩)] w fun e w' => e = .returned (.bool false) ∧ w = w' := by
  unfold logRow at hrow
  go_enter Try.func89, Try.ntmps89
  go_wp2
  go_ret
  exact ⟨rfl, rfl⟩

/-- The error of an Append or a Checkpoint, ahead of all else. -/
def lookE (over : Bool) (n : Nat) : Int := if over then 7 else if 65536 < n then 3 else 0

set_option maxHeartbeats 400000 in
theorem look_any (hrow : rowOf w bl = logRow d h slot size used records over bm) (a : Option Addr) (n c : Nat) :
    Calls Try.prog 87 #[.pointer (some ⟨bl, 0, none⟩), .slice a n c] w fun e w' => e = .returned (.int .i64 (lookE over n)) ∧ w = w' := by
  have H := Lib.hid hrow
  unfold logRow at hrow
  cases over with
  | true =>
    go_enter Try.func87, Try.ntmps87
    go_wp2_with (go_at_call 89; refine (logNone_ok _ _ _ _ _ _ _ _ _ _ H.out).mono ?_; rintro e w' ⟨rfl, rfl⟩)
    go_ret
    exact ⟨rfl, rfl⟩
  | false =>
    by_cases hn : 65536 < n
    · have hni : (65536 : Int) < (n : Int) := by omega
      have E := Lib.hid (show lookE false n = 3 by simp [lookE, hn])
      go_enter Try.func87, Try.ntmps87
      go_wp2_with (go_at_call 89; refine (logNone_ok _ _ _ _ _ _ _ _ _ _ H.out).mono ?_; rintro e w' ⟨rfl, rfl⟩)
      go_ret
      exact ⟨by rw [E.out]; rfl, rfl⟩
    · have hni : ¬ (65536 : Int) < (n : Int) := by omega
      have E := Lib.hid (show lookE false n = 0 by simp [lookE, hn])
      go_enter Try.func87, Try.ntmps87
      go_wp2_with (go_at_call 89; refine (logNone_ok _ _ _ _ _ _ _ _ _ _ H.out).mono ?_; rintro e w' ⟨rfl, rfl⟩)
      go_ret
      exact ⟨by rw [E.out]; rfl, rfl⟩

def roomN (over : Bool) (size used : Nat) : Nat := if over then 0 else size - used

set_option maxHeartbeats 400000 in
theorem room_any (hrow : rowOf w bl = logRow d h slot size used records over bm) (hu : used ≤ size) (hs : size ≤ 16384) :
    Calls Try.prog 53 #[.pointer (some ⟨bl, 0, none⟩)] w fun e w' => e = .returned (.int .i64 (roomN over size used : Nat)) ∧ Fr (fun _ => False) w w' ∧ ∃ n, w' = w.drewN n := by
  have H := Lib.hid hrow
  unfold logRow at hrow
  cases over with
  | true =>
    go_enter Try.func53, Try.ntmps53
    go_wp2_with (go_at_call 89; refine (logNone_ok _ _ _ _ _ _ _ _ _ _ H.out).mono ?_; rintro e w' ⟨rfl, rfl⟩)
    go_ret
    exact ⟨rfl, Fr.refl _ _, 0, rfl⟩
  | false =>
    have E := Lib.hid (show ((roomN false size used : Nat) : Int) = (size : Int) - (used : Int) by simp [roomN]; omega)
    go_enter Try.func53, Try.ntmps53
    go_wp2_with (go_at_call 89; refine (logNone_ok _ _ _ _ _ _ _ _ _ _ H.out).mono ?_; rintro e w' ⟨rfl, rfl⟩)
    go_quiet (fail)
    go_wp2
    go_ret
    exact ⟨by rw [E.out]; rfl, (Fr.refl _ _).drewN _, _, rfl⟩

set_option maxHeartbeats 400000 in
theorem count_any (hrow : rowOf w bl = logRow d h slot size used records over bm) :
    Calls Try.prog 54 #[.pointer (some ⟨bl, 0, none⟩)] w fun e w' => e = .returned (.int .i64 (if over then 0 else records : Nat)) ∧ w = w' := by
  have H := Lib.hid hrow
  unfold logRow at hrow
  cases over with
  | true =>
    go_enter Try.func54, Try.ntmps54
    go_wp2_with (go_at_call 89; refine (logNone_ok _ _ _ _ _ _ _ _ _ _ H.out).mono ?_; rintro e w' ⟨rfl, rfl⟩)
    go_ret
    exact ⟨rfl, rfl⟩
  | false =>
    go_enter Try.func54, Try.ntmps54
    go_wp2_with (go_at_call 89; refine (logNone_ok _ _ _ _ _ _ _ _ _ _ H.out).mono ?_; rintro e w' ⟨rfl, rfl⟩)
    go_ret
    exact ⟨rfl, rfl⟩

end

theorem Recs.allAt {w : World} {v : Value} {us : List Value} {R : List (List UInt8)} {base : Nat} (h : Recs w v us R base) (hne : R ≠ []) : AllAt w v R base := by
  have hl := h.ln
  have h0 : 0 < R.length := List.length_pos_iff.2 hne
  rcases h.da with ⟨-, e⟩ | ⟨g, cap, rfl, b1, b2, ⟨b3, b3p⟩, b4, b5, b6⟩
  · simp at e; rw [e] at hl; simp at hl; omega
  · simp only [List.length_map] at b3 b3p b6
    refine ⟨g, 0, cap, by simp [hl], by omega, b1, by omega, fun i hi => ?_⟩
    have hiu : i < us.length := by omega
    have c := b6 i hiu
    have g0 := cut_get (cur := rowOf w g) (off := i * 1) (n := 1) (by omega) 0 (by omega)
    rw [c] at g0
    refine ⟨us[i], ?_, h.el i hiu hi⟩
    simpa using g0.symm

/-! ### Package log: lay writes a record's blocks. -/
theorem layB_succ {gen life rec : Nat} {b : List UInt8} {k : Nat} (hk : k < recN b.length) : (layB gen life rec b).take (k + 1) = (layB gen life rec b).take k ++ [markB ⟨gen, life, rec, k, b.length⟩ ((b.drop (k * 40)).take 40)] := by
  rw [List.take_succ_eq_append_getElem (by rw [layB_len]; exact hk)]
  congr 2
  simp [layB]

set_option maxRecDepth 20000 in
set_option maxHeartbeats 4000000 in
theorem lay_any2 (w0 w : World) (p : DP) (S : DS) (h : St w0 w p S) (bl : Nat) (t l g ar0 slot size used0 records : Nat) (over : Bool) (bm : Nat) (hrow : rowOf w bl = logRow p.d ⟨t, l, g, ar0⟩ slot size used0 records over bm) (hlv : live w bl = true) (hnf : ¬ p.foot bl)
    (hl : l < 18446744073709551616) (gen ar used rec : Nat) (hgen : gen < 18446744073709551616) (har : ar ≤ 1) (hsz : size ≤ 16384) (_hused : used ≤ 16384) (hrec : rec < 9223372036854775808)
    (a : Option Addr) (c : Nat) (b : List UInt8) (hb : BytesAt w (.slice a b.length c) b) (hcap : b.length ≤ c) (hb2 : b.length ≤ 65536) (hm : S.pend.length ≤ 1099511627776) (T : Nat) (hT : 2 + ar * size + used = T) (hal : T ≤ 20000) :
    Calls Try.prog 88 #[.pointer (some ⟨bl, 0, none⟩), .slice a b.length c, .int .u64 gen, .int .i64 ar, .int .i64 used, .int .i64 rec] w fun e w' => ∃ p', p'.d = p.d ∧
      e = .returned (.int .i64 (S.writeSeq (T : Int) (layB gen l rec b)).1) ∧ St w0 w' p' (S.writeSeq (T : Int) (layB gen l rec b)).2 ∧ Moves p.foot p'.foot w w' := by
  unfold logRow at hrow
  simp only at hrow
  have H := Lib.hid h
  have HB := Lib.hid hb
  have HM := Lib.hid hm
  have HROW := Lib.hid hrow
  obtain ⟨n, hn⟩ : ∃ n, recN b.length = n := ⟨_, rfl⟩
  have HN := Lib.hid hn
  have hn1 := recN_pos b.length
  have hn2 := recN_bound hb2
  have hnl := recN_le (long := b.length)
  have hnu : (n - 1) * 40 ≤ b.length := by rw [← hn]; unfold recN; split <;> omega
  have LB := Lib.hid (layB_len gen l rec b)
  rw [hn] at hn1 hn2 hnl LB
  obtain ⟨q, hq⟩ : ∃ q, b.length = q := ⟨_, rfl⟩
  have HQ := Lib.hid hq
  rw [hq] at HB hb2 hnl hnu hcap HN ⊢
  have BN := Lib.hid (blocksI_nat q)
  have GL := Lib.hid (And.intro hgen hl)
  have HTT := Lib.hid hT
  clear h hb hm hn hq hgen hl hT
  go_enter Try.func88, Try.ntmps88
  go_wp2_with fail
  refine (logBlocks_any _ (by omega) _).mono ?_
  rintro e w' ⟨rfl, rfl⟩
  rw [BN.out, HN.out]
  go_wp2
  go_loopw [13, 14, 15, 16, 20] (fun vb _ _ _ i wr => ∃ (k : Nat) (us : List Value), k ≤ n ∧ i = .int .i64 k ∧ Recs wr vb us ((layB gen l rec b).take k) w.heap.size ∧ Fr (fun _ => False) w wr) (fun _ _ _ _ i _ => n - (intOf i).toNat)
  case atStart => exact ⟨0, [], Nat.zero_le _, rfl, by simpa using Recs.nil w w.heap.size, Fr.refl _ _⟩
  case round =>
    obtain ⟨k, us, hk, rfl, hrs, hf⟩ := hrel
    have HF := Lib.hid hf
    have RS := Lib.hid hrs
    have hr1 := (hf.row (live_lt hlv) (fun h => h)).trans HROW.out
    clear hrs hf
    by_cases hlt : k < n
    · have hki : (k : Int) < (n : Int) := by omega
      have hk40 : k * 40 ≤ q := by
        have := Nat.mul_le_mul_right 40 (show k ≤ n - 1 by omega)
        omega
      have hn40 : q ≤ n * 40 := hnl
      go_upto_region 7 with fail
      obtain ⟨W5, hW5⟩ : ∃ W5, wr.alloc (.cells #[.int .u64 gen, .int .u64 l, .int .i64 rec, .int .i64 k, .int .i64 q] 142) = W5 := ⟨_, rfl⟩
      obtain ⟨b5, hb5⟩ : ∃ b, wr.heap.size = b := ⟨_, rfl⟩
      have R5 : rowOf W5 b5 = #[.int .u64 gen, .int .u64 l, .int .i64 rec, .int .i64 k, .int .i64 q] := by rw [← hW5, ← hb5]; exact rowOf_alloc_at _ _ _ _ _ rfl
      have F5 := Lib.hid (show Fr (fun _ => False) wr W5 by rw [← hW5]; exact (Fr.refl _ wr).alloc _)
      have S5 := Lib.hid (show W5.heap.size = b5 + 1 by rw [← hW5, ← hb5]; simp)
      have B5 := Lib.hid hb5
      rw [hW5, hb5]
      clear hW5 hb5 hr1
      obtain ⟨F, hF⟩ : ∃ F, k * 40 = F := ⟨_, rfl⟩
      have hFi : (k : Int) * 40 = (F : Int) := by omega
      rw [hFi]
      clear hFi
      have TS := Lib.hid (layB_succ (gen := gen) (life := l) (rec := rec) (b := b) (k := k) (by rw [HQ.out, HN.out]; exact hlt))
      rw [hF] at TS hk40
      have HFF := Lib.hid hF
      clear hF
      obtain ⟨ld, hld⟩ : ∃ ld, (b.drop F).take 40 = ld := ⟨_, rfl⟩
      have LD := Lib.hid hld
      rw [hld] at TS
      have LL := Lib.hid (show ld.length = min 40 (q - F) by rw [← hld, List.length_take, List.length_drop, HQ.out])
      clear hld
      have US := Lib.hid (show us.length = k by rw [RS.out.ln, List.length_take, LB.out]; omega)
      have hFk : F = k * 40 := HFF.out.symm
      have K0 := Lib.hid (show q = 0 → F = 0 by intro e; have := HN.out; rw [e] at this; simp [recN] at this; omega)
      clear hFk
      have MB := Lib.hid (show ∀ (W : World) vl, BytesAt W vl ld → Calls Try.prog 96 #[.agg #[.int .u64 gen, .int .u64 l, .int .i64 rec, .int .i64 k, .int .i64 q], vl] W fun e w' => ∃ v', e = .returned v' ∧ OwnB w' v' (markB ⟨gen, l, rec, k, b.length⟩ ld) W.heap.size ∧ Fr (fun _ => False) W w' from
        fun W vl hv => by rw [HQ.out]; exact markBlock_any W gen l rec k q GL.out.1 GL.out.2 hrec (by omega) (by omega) vl ld hv (by rw [LL.out]; omega))
      have RS5 := Lib.hid (RS.out.keep F5.out (fun _ _ _ h => h))
      have FW5 := Lib.hid (HF.out.trans F5.out (fun _ _ h => h))
      by_cases hz : q = 0
      · have F0 := Lib.hid (K0.out hz)
        have Q0 := Lib.hid hz
        obtain ⟨M, hM⟩ : ∃ M, F + 40 = M := ⟨_, rfl⟩
        have hMw : IntKind.i64.wrap ((F : Int) + 40) = (M : Int) := by rw [IntKind.wrap_i64]; omega
        have MM := Lib.hid hM
        have h1 : ¬ (M : Int) < (q : Int) := by omega
        have h2 : (q : Int) ≤ (c : Int) := by omega
        have h3 : F ≤ q := by have := F0.out; omega
        clear hM hz
        have CALL := Lib.hid (show ∀ W A C m, Fr (fun _ => False) W5 W → m = min 40 (q - F) → Calls Try.prog 96 #[.agg #[.int .u64 gen, .int .u64 l, .int .i64 rec, .int .i64 k, .int .i64 q], .slice A m C] W fun e w' => ∃ v', e = .returned v' ∧ OwnB w' v' (markB ⟨gen, l, rec, k, b.length⟩ ld) W.heap.size ∧ Fr (fun _ => False) W w' from
          fun W A C m _ hm => MB.out W _ (by
            have hl := LL.out
            have e : ld = [] := List.eq_nil_of_length_eq_zero (by have := Q0.out; omega)
            have e2 : m = 0 := by have := Q0.out; omega
            rw [e, e2]; exact ⟨A, C, rfl, .inl rfl⟩))
        rcases a with _ | x
        · by_cases hcF : c = F
          · subst hcF
            go_region_law (first | (refine step_append_one (o := ⟨some 48, _, _, _, _, _⟩) rfl (.tmp 36) (.tmp 47) 29 rfl 36 _ 1 24 Try.underlying29 ti36 u13 (us.map fun u => #[u]) w.heap.size rfl (((RS5.out.da.keep (Fr.refl (fun _ => False) W5).drew (fun _ _ h => h)).keep F6.out (fun _ _ h => h)).keep ((Fr.refl (fun _ => False) w6).alloc _) (fun _ _ h => h)) (Nat.le_trans FW5.out.size (Nat.le_trans (show W5.heap.size ≤ w6.heap.size from F6.out.size) (by simp))) w6.heap.size 1 rfl #[.slice a6 64 c6] (by simp [go_sem]) (by simp [go_sem]) (by intro y hy; simp at hy; subst hy; rfl) (by intro y hy; simp at hy; obtain ⟨u, _, rfl⟩ := hy; rfl) (by have := US.out; simp only [maxLen]; simp; omega) (fitsN (by have := US.out; simp; omega) (by omega)) ?_; intro g7 cap7 w7 ho7 f7 hn7; have HO7 := Lib.hid ho7; have F7 := Lib.hid f7; have N7 := Lib.hid hn7; clear ho7 f7 hn7) | (go_simp; go_at_call 96; clear hMw; refine (CALL.out _ _ _ _ (Fr.refl _ W5).drew (by have := Q0.out; omega)).mono ?_; rintro e w6 ⟨v6, rfl, o6, f6⟩; have O6 := Lib.hid o6; have F6 := Lib.hid f6; obtain ⟨a6, c6, e6⟩ := o6.shape; rw [markB_len _ _ (by rw [LL.out]; omega)] at e6; subst e6; clear o6 f6))
            all_goals
              go_wp2
              go_roundw
              case rel =>
                have HO8 := HO7.out
                rw [List.length_map] at HO8
                have f65 : Fr (fun _ => False) W5 (w6.alloc (.cells #[.slice a6 64 c6] 36)) := ((Fr.refl (fun _ => False) W5).drew.trans F6.out (fun _ _ h => h)).alloc _
                have q6 := F6.out.size
                have q5 := FW5.out.size
                simp only [World.size_drew] at q6
                have RX := RS5.out.snoc f65 ((O6.out.weaken (show w.heap.size ≤ W5.drew.heap.size by simp; omega)).keep ((Fr.refl (fun _ => False) w6).alloc (.cells #[.slice a6 64 c6] 36)) (fun _ _ h => h)) (fun j hj => by have := (O6.out.lt hj).1; simp at this; omega) HO8 F7.out (fun j hj => by
                  simp only [Value.ownBlock, Option.some.injEq] at hj
                  subst hj; exact N7.out)
                rw [← TS.out] at RX
                exact ⟨k + 1, _, by omega, by go_num, RX, (FW5.out.trans f65 (fun _ _ h => h)).trans F7.out (fun i hi e => by have := (RS5.out.da.lt e).1; omega)⟩
              case measure => simp [intOf]; omega
          · go_region_law (first | (refine step_append_one (o := ⟨some 48, _, _, _, _, _⟩) rfl (.tmp 36) (.tmp 47) 29 rfl 36 _ 1 24 Try.underlying29 ti36 u13 (us.map fun u => #[u]) w.heap.size rfl (((RS5.out.da.keep (Fr.refl (fun _ => False) W5).drew (fun _ _ h => h)).keep F6.out (fun _ _ h => h)).keep ((Fr.refl (fun _ => False) w6).alloc _) (fun _ _ h => h)) (Nat.le_trans FW5.out.size (Nat.le_trans (show W5.heap.size ≤ w6.heap.size from F6.out.size) (by simp))) w6.heap.size 1 rfl #[.slice a6 64 c6] (by simp [go_sem]) (by simp [go_sem]) (by intro y hy; simp at hy; subst hy; rfl) (by intro y hy; simp at hy; obtain ⟨u, _, rfl⟩ := hy; rfl) (by have := US.out; simp only [maxLen]; simp; omega) (fitsN (by have := US.out; simp; omega) (by omega)) ?_; intro g7 cap7 w7 ho7 f7 hn7; have HO7 := Lib.hid ho7; have F7 := Lib.hid f7; have N7 := Lib.hid hn7; clear ho7 f7 hn7) | (go_simp; go_at_call 96; clear hMw; refine (CALL.out _ _ _ _ (Fr.refl _ W5).drew (by have := Q0.out; omega)).mono ?_; rintro e w6 ⟨v6, rfl, o6, f6⟩; have O6 := Lib.hid o6; have F6 := Lib.hid f6; obtain ⟨a6, c6, e6⟩ := o6.shape; rw [markB_len _ _ (by rw [LL.out]; omega)] at e6; subst e6; clear o6 f6))
            all_goals
              go_wp2
              go_roundw
              case rel =>
                have HO8 := HO7.out
                rw [List.length_map] at HO8
                have f65 : Fr (fun _ => False) W5 (w6.alloc (.cells #[.slice a6 64 c6] 36)) := ((Fr.refl (fun _ => False) W5).drew.trans F6.out (fun _ _ h => h)).alloc _
                have q6 := F6.out.size
                have q5 := FW5.out.size
                simp only [World.size_drew] at q6
                have RX := RS5.out.snoc f65 ((O6.out.weaken (show w.heap.size ≤ W5.drew.heap.size by simp; omega)).keep ((Fr.refl (fun _ => False) w6).alloc (.cells #[.slice a6 64 c6] 36)) (fun _ _ h => h)) (fun j hj => by have := (O6.out.lt hj).1; simp at this; omega) HO8 F7.out (fun j hj => by
                  simp only [Value.ownBlock, Option.some.injEq] at hj
                  subst hj; exact N7.out)
                rw [← TS.out] at RX
                exact ⟨k + 1, _, by omega, by go_num, RX, (FW5.out.trans f65 (fun _ _ h => h)).trans F7.out (fun i hi e => by have := (RS5.out.da.lt e).1; omega)⟩
              case measure => simp [intOf]; omega
        · by_cases hcF : c = F
          · subst hcF
            go_region_law (first | (refine step_append_one (o := ⟨some 48, _, _, _, _, _⟩) rfl (.tmp 36) (.tmp 47) 29 rfl 36 _ 1 24 Try.underlying29 ti36 u13 (us.map fun u => #[u]) w.heap.size rfl (((RS5.out.da.keep (Fr.refl (fun _ => False) W5).drew (fun _ _ h => h)).keep F6.out (fun _ _ h => h)).keep ((Fr.refl (fun _ => False) w6).alloc _) (fun _ _ h => h)) (Nat.le_trans FW5.out.size (Nat.le_trans (show W5.heap.size ≤ w6.heap.size from F6.out.size) (by simp))) w6.heap.size 1 rfl #[.slice a6 64 c6] (by simp [go_sem]) (by simp [go_sem]) (by intro y hy; simp at hy; subst hy; rfl) (by intro y hy; simp at hy; obtain ⟨u, _, rfl⟩ := hy; rfl) (by have := US.out; simp only [maxLen]; simp; omega) (fitsN (by have := US.out; simp; omega) (by omega)) ?_; intro g7 cap7 w7 ho7 f7 hn7; have HO7 := Lib.hid ho7; have F7 := Lib.hid f7; have N7 := Lib.hid hn7; clear ho7 f7 hn7) | (go_simp; go_at_call 96; clear hMw; refine (CALL.out _ _ _ _ (Fr.refl _ W5).drew (by have := Q0.out; omega)).mono ?_; rintro e w6 ⟨v6, rfl, o6, f6⟩; have O6 := Lib.hid o6; have F6 := Lib.hid f6; obtain ⟨a6, c6, e6⟩ := o6.shape; rw [markB_len _ _ (by rw [LL.out]; omega)] at e6; subst e6; clear o6 f6))
            all_goals
              go_wp2
              go_roundw
              case rel =>
                have HO8 := HO7.out
                rw [List.length_map] at HO8
                have f65 : Fr (fun _ => False) W5 (w6.alloc (.cells #[.slice a6 64 c6] 36)) := ((Fr.refl (fun _ => False) W5).drew.trans F6.out (fun _ _ h => h)).alloc _
                have q6 := F6.out.size
                have q5 := FW5.out.size
                simp only [World.size_drew] at q6
                have RX := RS5.out.snoc f65 ((O6.out.weaken (show w.heap.size ≤ W5.drew.heap.size by simp; omega)).keep ((Fr.refl (fun _ => False) w6).alloc (.cells #[.slice a6 64 c6] 36)) (fun _ _ h => h)) (fun j hj => by have := (O6.out.lt hj).1; simp at this; omega) HO8 F7.out (fun j hj => by
                  simp only [Value.ownBlock, Option.some.injEq] at hj
                  subst hj; exact N7.out)
                rw [← TS.out] at RX
                exact ⟨k + 1, _, by omega, by go_num, RX, (FW5.out.trans f65 (fun _ _ h => h)).trans F7.out (fun i hi e => by have := (RS5.out.da.lt e).1; omega)⟩
              case measure => simp [intOf]; omega
          · go_region_law (first | (refine step_append_one (o := ⟨some 48, _, _, _, _, _⟩) rfl (.tmp 36) (.tmp 47) 29 rfl 36 _ 1 24 Try.underlying29 ti36 u13 (us.map fun u => #[u]) w.heap.size rfl (((RS5.out.da.keep (Fr.refl (fun _ => False) W5).drew (fun _ _ h => h)).keep F6.out (fun _ _ h => h)).keep ((Fr.refl (fun _ => False) w6).alloc _) (fun _ _ h => h)) (Nat.le_trans FW5.out.size (Nat.le_trans (show W5.heap.size ≤ w6.heap.size from F6.out.size) (by simp))) w6.heap.size 1 rfl #[.slice a6 64 c6] (by simp [go_sem]) (by simp [go_sem]) (by intro y hy; simp at hy; subst hy; rfl) (by intro y hy; simp at hy; obtain ⟨u, _, rfl⟩ := hy; rfl) (by have := US.out; simp only [maxLen]; simp; omega) (fitsN (by have := US.out; simp; omega) (by omega)) ?_; intro g7 cap7 w7 ho7 f7 hn7; have HO7 := Lib.hid ho7; have F7 := Lib.hid f7; have N7 := Lib.hid hn7; clear ho7 f7 hn7) | (go_simp; go_at_call 96; clear hMw; refine (CALL.out _ _ _ _ (Fr.refl _ W5).drew (by have := Q0.out; omega)).mono ?_; rintro e w6 ⟨v6, rfl, o6, f6⟩; have O6 := Lib.hid o6; have F6 := Lib.hid f6; obtain ⟨a6, c6, e6⟩ := o6.shape; rw [markB_len _ _ (by rw [LL.out]; omega)] at e6; subst e6; clear o6 f6))
            all_goals
              go_wp2
              go_roundw
              case rel =>
                have HO8 := HO7.out
                rw [List.length_map] at HO8
                have f65 : Fr (fun _ => False) W5 (w6.alloc (.cells #[.slice a6 64 c6] 36)) := ((Fr.refl (fun _ => False) W5).drew.trans F6.out (fun _ _ h => h)).alloc _
                have q6 := F6.out.size
                have q5 := FW5.out.size
                simp only [World.size_drew] at q6
                have RX := RS5.out.snoc f65 ((O6.out.weaken (show w.heap.size ≤ W5.drew.heap.size by simp; omega)).keep ((Fr.refl (fun _ => False) w6).alloc (.cells #[.slice a6 64 c6] 36)) (fun _ _ h => h)) (fun j hj => by have := (O6.out.lt hj).1; simp at this; omega) HO8 F7.out (fun j hj => by
                  simp only [Value.ownBlock, Option.some.injEq] at hj
                  subst hj; exact N7.out)
                rw [← TS.out] at RX
                exact ⟨k + 1, _, by omega, by go_num, RX, (FW5.out.trans f65 (fun _ _ h => h)).trans F7.out (fun i hi e => by have := (RS5.out.da.lt e).1; omega)⟩
              case measure => simp [intOf]; omega
      · have hFq : F < q := by
          have h1 := HFF.out
          have h2 := HN.out
          have : (n - 1) * 40 < q := by rw [← h2]; unfold recN; rw [if_neg hz]; omega
          have := Nat.mul_le_mul_right 40 (show k ≤ n - 1 by omega)
          omega
        obtain ⟨a', c', he, hnil | ⟨gv, ov, hax, hx, hc⟩⟩ := HB.out
        · have := HQ.out; rw [hnil] at this; simp at this; omega
        simp only [Value.slice.injEq] at he
        obtain ⟨rfl, -, rfl⟩ := he
        subst hax
        have hcF : ¬ c = F := by omega
        have HX := Lib.hid (And.intro hx hc)
        have BL := Lib.hid (show ∀ W m, Fr (fun _ => False) w W → m = min 40 (q - F) → BytesAt W (.slice (some ⟨gv, ov + F, none⟩) m (c - F)) ld by
          intro W m hf hm
          have hg : gv < w.heap.size := rowOf_lt (by have := HX.out.1; have := HQ.out; omega)
          have er := hf.row hg (fun h => h)
          refine ⟨_, _, by rw [LL.out, ← hm], .inr ⟨gv, ov + F, rfl, by rw [LL.out, er]; have := HX.out.1; have := HQ.out; omega, ?_⟩⟩
          rw [er]
          refine cut_ext (by rw [bvA_size]) (by rw [LL.out]; have := HX.out.1; have := HQ.out; omega) (fun i hi => ?_)
          have hi2 := hi
          rw [LL.out] at hi2
          have := cut_get HX.out.1 (F + i) (by have := HQ.out; omega)
          rw [HX.out.2, bvA_get] at this
          rw [Nat.add_assoc, ← this, bvA_get, ← LD.out, List.getElem?_take_of_lt (by omega), List.getElem?_drop])
        clear hx hc
        obtain ⟨M, hM⟩ : ∃ M, F + 40 = M := ⟨_, rfl⟩
        have hMw : IntKind.i64.wrap ((F : Int) + 40) = (M : Int) := by rw [IntKind.wrap_i64]; omega
        have hFM : F ≤ M := by omega
        have MM := Lib.hid hM
        clear hM
        have CALL := Lib.hid (show ∀ W m, Fr (fun _ => False) W5 W → m = min 40 (q - F) → Calls Try.prog 96 #[.agg #[.int .u64 gen, .int .u64 l, .int .i64 rec, .int .i64 k, .int .i64 q], .slice (some ⟨gv, ov + F, none⟩) m (c - F)] W fun e w' => ∃ v', e = .returned v' ∧ OwnB w' v' (markB ⟨gen, l, rec, k, b.length⟩ ld) W.heap.size ∧ Fr (fun _ => False) W w' from
          fun W m hf hm => MB.out W _ (BL.out W m (FW5.out.trans hf (fun _ _ h => h)) hm))
        by_cases hMq : M < q
        · have h1 : (M : Int) < (q : Int) := by omega
          have h2 : (M : Int) ≤ (c : Int) := by omega
          go_region_law (first | (refine step_append_one (o := ⟨some 48, _, _, _, _, _⟩) rfl (.tmp 36) (.tmp 47) 29 rfl 36 _ 1 24 Try.underlying29 ti36 u13 (us.map fun u => #[u]) w.heap.size rfl (((RS5.out.da.keep (Fr.refl (fun _ => False) W5).drew (fun _ _ h => h)).keep F6.out (fun _ _ h => h)).keep ((Fr.refl (fun _ => False) w6).alloc _) (fun _ _ h => h)) (Nat.le_trans FW5.out.size (Nat.le_trans (show W5.heap.size ≤ w6.heap.size from F6.out.size) (by simp))) w6.heap.size 1 rfl #[.slice a6 64 c6] (by simp [go_sem]) (by simp [go_sem]) (by intro y hy; simp at hy; subst hy; rfl) (by intro y hy; simp at hy; obtain ⟨u, _, rfl⟩ := hy; rfl) (by have := US.out; simp only [maxLen]; simp; omega) (fitsN (by have := US.out; simp; omega) (by omega)) ?_; intro g7 cap7 w7 ho7 f7 hn7; have HO7 := Lib.hid ho7; have F7 := Lib.hid f7; have N7 := Lib.hid hn7; clear ho7 f7 hn7) | (go_simp; go_at_call 96; clear hMw; refine (CALL.out _ _ (Fr.refl _ W5).drew (by have := MM.out; omega)).mono ?_; rintro e w6 ⟨v6, rfl, o6, f6⟩; have O6 := Lib.hid o6; have F6 := Lib.hid f6; obtain ⟨a6, c6, e6⟩ := o6.shape; rw [markB_len _ _ (by rw [LL.out]; omega)] at e6; subst e6; clear o6 f6))
          all_goals
            go_wp2
            go_roundw
            case rel =>
              have HO8 := HO7.out
              rw [List.length_map] at HO8
              have f65 : Fr (fun _ => False) W5 (w6.alloc (.cells #[.slice a6 64 c6] 36)) := ((Fr.refl (fun _ => False) W5).drew.trans F6.out (fun _ _ h => h)).alloc _
              have q6 := F6.out.size
              have q5 := FW5.out.size
              simp only [World.size_drew] at q6
              have RX := RS5.out.snoc f65 ((O6.out.weaken (show w.heap.size ≤ W5.drew.heap.size by simp; omega)).keep ((Fr.refl (fun _ => False) w6).alloc (.cells #[.slice a6 64 c6] 36)) (fun _ _ h => h)) (fun j hj => by have := (O6.out.lt hj).1; simp at this; omega) HO8 F7.out (fun j hj => by
                simp only [Value.ownBlock, Option.some.injEq] at hj
                subst hj; exact N7.out)
              rw [← TS.out] at RX
              exact ⟨k + 1, _, by omega, by go_num, RX, (FW5.out.trans f65 (fun _ _ h => h)).trans F7.out (fun i hi e => by have := (RS5.out.da.lt e).1; omega)⟩
            case measure => simp [intOf]; omega
        · have h1 : ¬ (M : Int) < (q : Int) := by omega
          have h2 : (q : Int) ≤ (c : Int) := by omega
          have h3 : F ≤ q := by omega
          go_region_law (first | (refine step_append_one (o := ⟨some 48, _, _, _, _, _⟩) rfl (.tmp 36) (.tmp 47) 29 rfl 36 _ 1 24 Try.underlying29 ti36 u13 (us.map fun u => #[u]) w.heap.size rfl (((RS5.out.da.keep (Fr.refl (fun _ => False) W5).drew (fun _ _ h => h)).keep F6.out (fun _ _ h => h)).keep ((Fr.refl (fun _ => False) w6).alloc _) (fun _ _ h => h)) (Nat.le_trans FW5.out.size (Nat.le_trans (show W5.heap.size ≤ w6.heap.size from F6.out.size) (by simp))) w6.heap.size 1 rfl #[.slice a6 64 c6] (by simp [go_sem]) (by simp [go_sem]) (by intro y hy; simp at hy; subst hy; rfl) (by intro y hy; simp at hy; obtain ⟨u, _, rfl⟩ := hy; rfl) (by have := US.out; simp only [maxLen]; simp; omega) (fitsN (by have := US.out; simp; omega) (by omega)) ?_; intro g7 cap7 w7 ho7 f7 hn7; have HO7 := Lib.hid ho7; have F7 := Lib.hid f7; have N7 := Lib.hid hn7; clear ho7 f7 hn7) | (go_simp; go_at_call 96; clear hMw; refine (CALL.out _ _ (Fr.refl _ W5).drew (by have := MM.out; omega)).mono ?_; rintro e w6 ⟨v6, rfl, o6, f6⟩; have O6 := Lib.hid o6; have F6 := Lib.hid f6; obtain ⟨a6, c6, e6⟩ := o6.shape; rw [markB_len _ _ (by rw [LL.out]; omega)] at e6; subst e6; clear o6 f6))
          all_goals
            go_wp2
            go_roundw
            case rel =>
              have HO8 := HO7.out
              rw [List.length_map] at HO8
              have f65 : Fr (fun _ => False) W5 (w6.alloc (.cells #[.slice a6 64 c6] 36)) := ((Fr.refl (fun _ => False) W5).drew.trans F6.out (fun _ _ h => h)).alloc _
              have q6 := F6.out.size
              have q5 := FW5.out.size
              simp only [World.size_drew] at q6
              have RX := RS5.out.snoc f65 ((O6.out.weaken (show w.heap.size ≤ W5.drew.heap.size by simp; omega)).keep ((Fr.refl (fun _ => False) w6).alloc (.cells #[.slice a6 64 c6] 36)) (fun _ _ h => h)) (fun j hj => by have := (O6.out.lt hj).1; simp at this; omega) HO8 F7.out (fun j hj => by
                simp only [Value.ownBlock, Option.some.injEq] at hj
                subst hj; exact N7.out)
              rw [← TS.out] at RX
              exact ⟨k + 1, _, by omega, by go_num, RX, (FW5.out.trans f65 (fun _ _ h => h)).trans F7.out (fun i hi e => by have := (RS5.out.da.lt e).1; omega)⟩
            case measure => simp [intOf]; omega
    · obtain rfl : k = n := by omega
      have LA := Lib.hid (RS.out.allAt (by
        intro e
        have h1 : ((layB gen l rec b).take k).length = k := by rw [List.length_take, LB.out]; omega
        rw [e] at h1; simp at h1; omega))
      have ET := Lib.hid (show (layB gen l rec b).take k = layB gen l rec b from List.take_of_length_le (by rw [LB.out]; exact Nat.le_refl _))
      rw [ET.out] at LA
      have SR := Lib.hid (H.out.calm HF.out (fun _ h => h.elim))
      have L1 := Lib.hid ((HF.out.liv (live_lt hlv) (fun h => h)).trans hlv)
      have R1 := Lib.hid hr1
      clear hn1 hn2 hnl hnu hk hlt
      go_upto_region 9 with fail
      obtain ⟨B, hB⟩ : ∃ B, 2 + ar * size = B := ⟨_, rfl⟩
      have BG := Lib.hid (show ∀ W, rowOf W bl = _ → Calls Try.prog 81 #[.pointer (some ⟨bl, 0, none⟩), .int .i64 ar] W fun e w' => e = .returned (.int .i64 (B : Nat)) ∧ W = w' from
        fun W hW => by rw [← hB]; exact begin_any W bl p.d ⟨t, l, g, ar0⟩ slot size used0 records over bm ar hW har hsz)
      have hBT : B + used = T := by rw [← hB]; exact HTT.out
      have hws : IntKind.i64.wrap ((B : Int) + (used : Int)) = (T : Int) := by rw [IntKind.wrap_i64]; omega
      have hb0 := Lib.hid hws
      have HAL := Lib.hid hal
      clear hB hal hBT hws
      have PM := Lib.hid (show ∀ k, p.foot k → k < w.heap.size from fun k hk => H.out.lt hk)
      have WR := Lib.hid (show ∀ W, Fr (fun _ => False) wr W → Calls Try.prog 85 #[.pointer (some ⟨p.d, 0, none⟩), .int .i64 T, u13] W fun e w' => ∃ p', p'.d = p.d ∧ e = .returned (.int .i64 (S.writeSeq T (layB gen l rec b)).1) ∧ St w0 w' p' (S.writeSeq T (layB gen l rec b)).2 ∧ Moves p.foot p'.foot W w' from
        fun W fW => writeL_any w0 W p S (SR.out.calm fW (fun _ h => h.elim)) T u13 (layB gen l rec b) w.heap.size (LA.out.keep fW (fun _ _ _ h => h) (fun e => by have := LB.out; rw [e] at this; have := HN.out; have := recN_pos q; simp at *; omega))
          (fun e => by have := LB.out; rw [e] at this; have := HN.out; have := recN_pos q; simp at *; omega) (by have := LB.out; have := HN.out; have := recN_bound hb2; omega) (by have := HAL.out; omega) (fun j h1 _ h3 => by have := PM.out j h3; omega) HM.out)
      have hws := hb0.out
      go_region_held3 (fun w' => rowOf w' bl = #[.pointer (some ⟨p.d, 0, none⟩), .int .u64 t, .int .u64 l, .int .u64 g, .int .i64 ar0, .int .i64 slot, .int .i64 size, .int .i64 used0, .int .i64 records, .bool over, .map (some bm)])
        (first | assumption | (rw [rowOf_drew]; exact R1.out))
        (first | (go_simp; go_at_call 81; refine (BG.out _ (by first | assumption | exact R1.out | (rw [rowOf_drew]; exact R1.out))).mono ?_; rintro e w3 ⟨rfl, rfl⟩) | (go_simp; go_at_call 85; refine (WR.out _ (by first | exact Fr.refl _ _ | exact (Fr.refl _ _).drew)).mono ?_; rintro e w5 ⟨p5, hp5, rfl, s5, m5⟩; have K5 := (m5.fr.row (g := bl) (live_lt (w := wr) L1.out) hnf).trans R1.out; have M5 := Lib.hid m5; have SS5 := Lib.hid s5; have P5 := Lib.hid hp5; clear m5 s5 hp5))
      all_goals
        go_wp2
        go_ret
        exact ⟨p5, P5.out, rfl, SS5.out, ⟨(HF.out.drew.mono (fun _ _ h => h.elim)).trans M5.out.fr (fun i hi h => h), fun j hj => (M5.out.new j hj).imp id (fun h => by have := HF.out.size; simp at h; omega)⟩⟩

/-! ### Package log: Append. -/
/-- The numbers of an open log are in their bounds. -/
structure LogV.Ok (V : LogV) : Prop where
  t : V.h.turn < 18446744073709551616
  l : V.h.life < 18446744073709551616
  g : V.h.gen < 9223372036854000000
  a : V.h.area ≤ 1
  s : V.slot ≤ 1
  z : V.size ≤ 8191
  u : V.used ≤ V.size
  r : V.records ≤ 16384

theorem LogAt.keep {w w' : World} {p p' : DP} {bl bm : Nat} {V : LogV} {n : Nat} {cnt : Nat → Nat} (L : LogAt w p bl bm V n cnt) {F : Nat → Prop} (f : Fr F w w') (hp : p'.d = p.d) (h1 : ¬ F bl) (h2 : ¬ F bm) (hnew : ∀ k, p'.foot k → p.foot k ∨ w.heap.size ≤ k) : LogAt w' p' bl bm V n cnt :=
  ⟨by rw [f.row (live_lt L.liv) h1, hp]; exact L.row, by rw [f.liv (live_lt L.liv) h1]; exact L.liv, L.map.keep f h2, fun e => (hnew _ e).elim L.nb (fun h => by have := live_lt L.liv; omega), fun e => (hnew _ e).elim L.nm (fun h => by have := L.map.lt; omega), L.ne⟩

set_option maxHeartbeats 1000000 in
theorem append_bad (w : World) (p : DP) (bl bm : Nat) (V : LogV) (n : Nat) (cnt : Nat → Nat) (L : LogAt w p bl bm V n cnt) (a : Option Addr) (q c : Nat) (he : lookE V.over q ≠ 0) :
    Calls Try.prog 49 #[.pointer (some ⟨bl, 0, none⟩), .slice a q c] w fun e w' => e = .returned (.int .i64 (lookE V.over q)) ∧ w = w' := by
  have LL := Lib.hid L
  obtain ⟨E, hE⟩ : ∃ E, lookE V.over q = E := ⟨_, rfl⟩
  have HE := Lib.hid hE
  rw [hE] at he ⊢
  have h2 : (E != 0) = true := by simpa using he
  clear L hE he
  go_enter Try.func49, Try.ntmps49
  go_wp2_with fail
  refine (look_any _ _ _ _ _ _ _ _ _ _ LL.out.row a q c).mono ?_
  rintro e w' ⟨rfl, rfl⟩
  rw [HE.out]
  go_wp2
  go_ret
  exact ⟨rfl, rfl⟩

set_option maxHeartbeats 1000000 in
theorem append_full (w : World) (p : DP) (bl bm : Nat) (V : LogV) (n : Nat) (cnt : Nat → Nat) (L : LogAt w p bl bm V n cnt) (hV : V.Ok) (a : Option Addr) (q c : Nat) (he : lookE V.over q = 0) (hf : V.size - V.used < recN q) :
    Calls Try.prog 49 #[.pointer (some ⟨bl, 0, none⟩), .slice a q c] w fun e w' => e = .returned (.int .i64 4) ∧ Fr (fun _ => False) w w' := by
  have LL := Lib.hid L
  have HV := Lib.hid hV
  have HE := Lib.hid he
  have hq : q ≤ 65536 := by
    unfold lookE at he
    by_cases h1 : V.over = true
    · rw [if_pos h1] at he; simp at he
    · rw [if_neg h1] at he
      by_cases h2 : 65536 < q
      · rw [if_pos h2] at he; simp at he
      · omega
  have ho : V.over = false := by
    unfold lookE at he
    by_cases h1 : V.over = true
    · rw [if_pos h1] at he; simp at he
    · simpa using h1
  have HO := Lib.hid (show roomN V.over V.size V.used = V.size - V.used by rw [ho]; rfl)
  obtain ⟨R, hR⟩ : ∃ R, V.size - V.used = R := ⟨_, rfl⟩
  have HR := Lib.hid hR
  obtain ⟨m, hm⟩ : ∃ m, recN q = m := ⟨_, rfl⟩
  have BN := Lib.hid (blocksI_nat q)
  have HM := Lib.hid hm
  rw [hR, hm] at hf
  have hfi : (R : Int) < (m : Int) := by omega
  have hzs := hV.z
  clear L hV he ho hR hm hzs
  go_enter Try.func49, Try.ntmps49
  go_wp2_with fail
  refine (look_any _ _ _ _ _ _ _ _ _ _ LL.out.row a q c).mono ?_
  rintro e w' ⟨rfl, rfl⟩
  rw [HE.out]
  go_wp2_with fail
  refine (logBlocks_any _ (by omega) _).mono ?_
  rintro e w' ⟨rfl, rfl⟩
  rw [BN.out, HM.out]
  go_wp2_with fail
  refine (room_any _ _ _ _ _ _ _ _ _ _ LL.out.row HV.out.u (Nat.le_trans HV.out.z (by omega))).mono ?_
  rintro e w' ⟨rfl, f1, -⟩
  rw [HO.out, HR.out]
  go_wp2
  go_ret
  exact ⟨rfl, f1⟩

/-- An Append that is let by: the log's numbers behind it. -/
def LogV.appended (V : LogV) (q : Int) (b : List UInt8) : LogV := if q = 0 then { V with used := V.used + recN b.length, records := V.records + 1 } else { V with over := true }
def appendS (S : DS) (V : LogV) (b : List UInt8) : Int × DS := S.writeSeq ((2 + V.h.area * V.size + V.used : Nat) : Int) (layB V.h.gen V.h.life V.records b)

set_option maxRecDepth 20000 in
set_option maxHeartbeats 2000000 in
theorem append_fits (w0 w : World) (p : DP) (S : DS) (h : St w0 w p S) (bl bm : Nat) (V : LogV) (n : Nat) (cnt : Nat → Nat) (L : LogAt w p bl bm V n cnt) (hV : V.Ok) (hbl : w0.heap.size ≤ bl) (a : Option Addr) (c : Nat) (b : List UInt8) (hb : BytesAt w (.slice a b.length c) b) (hcap : b.length ≤ c)
    (he : lookE V.over b.length = 0) (hf : recN b.length ≤ V.size - V.used) (hm : S.pend.length ≤ 1099511627776) :
    Calls Try.prog 49 #[.pointer (some ⟨bl, 0, none⟩), .slice a b.length c] w fun e w' => ∃ p', p'.d = p.d ∧ e = .returned (.int .i64 (appendS S V b).1) ∧ St w0 w' p' (appendS S V b).2 ∧ LogAt w' p' bl bm (V.appended (appendS S V b).1 b) n cnt ∧
      Moves (fun k => p.foot k ∨ k = bl) (fun k => p'.foot k ∨ k = bl) w w' := by
  have LL := Lib.hid L
  have HE := Lib.hid he
  have H := Lib.hid h
  have HB := Lib.hid hb
  have HMM := Lib.hid hm
  have HV := Lib.hid hV
  have ho : V.over = false := by
    unfold lookE at he
    by_cases h1 : V.over = true
    · rw [if_pos h1] at he; simp at he
    · simpa using h1
  have hq : b.length ≤ 65536 := by
    unfold lookE at he
    rw [ho] at he
    by_cases h2 : 65536 < b.length
    · simp [h2] at he
    · omega
  have hrow := L.row
  have hlv := L.liv
  have hsz := hV.z
  have hu := hV.u
  have hrc := hV.r
  have ha := hV.a
  obtain ⟨⟨t, l, g, ar⟩, slot, size, used, records, over⟩ := V
  simp only at ho hrow hsz hu hrc ha hf
  subst ho
  unfold logRow at hrow
  simp only at hrow
  have HO := Lib.hid (show roomN false size used = size - used from rfl)
  obtain ⟨R, hR⟩ : ∃ R, size - used = R := ⟨_, rfl⟩
  have HR := Lib.hid hR
  obtain ⟨m, hm⟩ : ∃ m, recN b.length = m := ⟨_, rfl⟩
  have BN := Lib.hid (blocksI_nat b.length)
  have HM := Lib.hid hm
  have hm2 := recN_bound hq
  rw [hR, hm] at hf
  rw [hm] at hm2
  have hfi : ¬ (R : Int) < (m : Int) := by omega
  have hum : used + m ≤ size := by omega
  obtain ⟨q, hq2⟩ : ∃ q, b.length = q := ⟨_, rfl⟩
  have HQ := Lib.hid hq2
  obtain ⟨T, hT⟩ : ∃ T, 2 + ar * size + used = T := ⟨_, rfl⟩
  have hT2 : T ≤ 20000 := by
    have := Nat.mul_le_mul_right size ha
    omega
  have LAY := Lib.hid (show ∀ W, Fr (fun _ => False) w W → Calls Try.prog 88 #[.pointer (some ⟨bl, 0, none⟩), .slice a q c, .int .u64 g, .int .i64 ar, .int .i64 used, .int .i64 records] W fun e w' => ∃ p', p'.d = p.d ∧
      e = .returned (.int .i64 (S.writeSeq (T : Int) (layB g l records b)).1) ∧ St w0 w' p' (S.writeSeq (T : Int) (layB g l records b)).2 ∧ Moves p.foot p'.foot W w' from fun W fW => by
    have h1 := lay_any2 w0 W p S (H.out.calm fW (fun _ h => h.elim)) bl t l g ar slot size used records false bm ((fW.row (live_lt hlv) (fun h => h)).trans hrow) ((fW.liv (live_lt hlv) (fun h => h)).trans hlv) LL.out.nb HV.out.l g ar used records
      (by have := HV.out.g; simp only at this; omega) ha (by omega) (by omega) (by omega) a c b (HB.out.later fW) (by omega) (by omega) HMM.out T hT hT2
    rw [HQ.out] at h1
    exact h1)
  have AS := Lib.hid (show appendS S ⟨⟨t, l, g, ar⟩, slot, size, used, records, false⟩ b = S.writeSeq (T : Int) (layB g l records b) by unfold appendS; simp only; rw [hT])
  rw [AS.out]
  have HT := Lib.hid hT
  rw [hq2]
  rw [hq2] at hq BN HM HE hcap
  have W1 : IntKind.i64.wrap ((used : Int) + (m : Int)) = ((used + m : Nat) : Int) := by rw [IntKind.wrap_i64]; omega
  have W2 : IntKind.i64.wrap ((records : Int) + 1) = ((records + 1 : Nat) : Int) := by rw [IntKind.wrap_i64]; omega
  have WW := Lib.hid (And.intro W1 W2)
  have HLV := Lib.hid hlv
  have hlt := live_lt hlv
  clear L hV he hR hm h hb hq2 hT hT2 hf W1 W2 hlv
  go_enter Try.func49, Try.ntmps49
  go_wp2_with fail
  refine (look_any _ _ _ _ _ _ _ _ _ _ LL.out.row a q c).mono ?_
  rintro e w' ⟨rfl, rfl⟩
  rw [HE.out]
  go_wp2_with fail
  refine (logBlocks_any _ (by omega) _).mono ?_
  rintro e w' ⟨rfl, rfl⟩
  rw [BN.out, HM.out]
  go_wp2_with fail
  refine (room_any _ _ _ _ _ _ _ _ _ _ LL.out.row HV.out.u (Nat.le_trans HV.out.z (by omega))).mono ?_
  rintro e w1 ⟨rfl, f1, -⟩
  rw [HO.out, HR.out]
  have F1 := Lib.hid f1
  have r1 := (f1.row hlt (fun h => h)).trans hrow
  have hlt1 : bl < w1.heap.size := Nat.lt_of_lt_of_le hlt f1.size
  clear f1
  go_upto_region 7 with fail
  go_region_held3 (fun w' => rowOf w' bl = #[.pointer (some ⟨p.d, 0, none⟩), .int .u64 t, .int .u64 l, .int .u64 g, .int .i64 ar, .int .i64 slot, .int .i64 size, .int .i64 used, .int .i64 records, .bool false, .map (some bm)])
    (first | assumption | (rw [rowOf_drew]; assumption))
    ((go_simp; go_at_call 88; refine (LAY.out _ F1.out.drew).mono ?_; rintro e w5 ⟨p5, hp5, rfl, s5, m5⟩; have K5 := (m5.fr.row (g := bl) hlt1 LL.out.nb).trans ((rowOf_drew _ _).trans r1); have L5 := (m5.fr.liv (g := bl) hlt1 LL.out.nb).trans ((F1.out.liv hlt (fun h => h)).trans HLV.out); have M5 := Lib.hid m5; have SS5 := Lib.hid s5; have P5 := Lib.hid hp5; clear m5 s5 hp5))
  all_goals
    have hb5 := live_lt L5
    have MT := Lib.hid (show Moves p.foot p5.foot w w5 from ⟨(F1.out.drew.mono (fun _ _ h => h.elim)).trans M5.out.fr (fun i hi h => h), fun j hj => (M5.out.new j hj).imp id (fun h => by have := F1.out.size; simp at h; omega)⟩)
    have NB := Lib.hid (show ¬ p5.foot bl from fun e => (MT.out.new bl e).elim LL.out.nb (fun h => by omega))
    obtain ⟨E, hE⟩ : ∃ E, (S.writeSeq (T : Int) (layB g l records b)).1 = E := ⟨_, rfl⟩
    have FIN := Lib.hid (show ∀ (V' : LogV) c, rowOf (w5.setRow bl c) bl = logRow p.d V'.h V'.slot V'.size V'.used V'.records V'.over bm → St w0 (w5.setRow bl c) p5 (S.writeSeq (T : Int) (layB g l records b)).2 ∧ LogAt (w5.setRow bl c) p5 bl bm V' n cnt ∧ Moves (fun k => p.foot k ∨ k = bl) (fun k => p5.foot k ∨ k = bl) w (w5.setRow bl c) from fun V' c hr => by
      have FX := (Fr.refl (fun k => k = bl) w5).setRow bl c (fun _ => rfl)
      have hbm := LL.out.map.lt
      refine ⟨SS5.out.calm FX (fun k e => ⟨by omega, fun hk => NB.out (e ▸ hk)⟩), ⟨by rw [P5.out]; exact hr, by rw [live_setRow]; exact L5, (LL.out.map.keep MT.out.fr LL.out.nm).keep FX (fun e => LL.out.ne e.symm), NB.out, fun e => (MT.out.new bm e).elim LL.out.nm (fun h => by omega), LL.out.ne⟩, ⟨?_, fun k hk => ?_⟩⟩
      · exact (MT.out.fr.mono (fun _ _ h => .inl h)).trans (FX.mono (fun _ _ h => .inr h)) (fun _ _ h => h)
      · rcases hk with hk | hk
        · exact (MT.out.new k hk).imp .inl id
        · exact .inl (.inr hk))
    have HEE := Lib.hid hE
    rw [hE]
    clear hE
    by_cases hz : E = 0
    · subst hz
      go_wp2
      go_ret
      have hV' : LogV.appended ⟨⟨t, l, g, ar⟩, slot, size, used, records, false⟩ 0 b = ⟨⟨t, l, g, ar⟩, slot, size, used + m, records + 1, false⟩ := by
        unfold LogV.appended; rw [if_pos rfl, HQ.out, HM.out]
      rw [HEE.out, hV']
      exact ⟨p5, P5.out, rfl, FIN.out _ _ (by rw [rowOf_setRow_same _ _ _ L5]; simp [logRow])⟩
    · have hz2 : (E != 0) = true := by simpa using hz
      go_wp2
      go_ret
      have hV' : LogV.appended ⟨⟨t, l, g, ar⟩, slot, size, used, records, false⟩ E b = ⟨⟨t, l, g, ar⟩, slot, size, used, records, true⟩ := by
        unfold LogV.appended; rw [if_neg hz]
      rw [HEE.out, hV']
      exact ⟨p5, P5.out, rfl, FIN.out _ _ (by rw [rowOf_setRow_same _ _ _ L5]; simp [logRow])⟩

/-! ### Package log: Checkpoint. -/
set_option maxHeartbeats 1000000 in
theorem check_bad (w : World) (p : DP) (bl bm : Nat) (V : LogV) (n : Nat) (cnt : Nat → Nat) (L : LogAt w p bl bm V n cnt) (a : Option Addr) (q c : Nat) (he : lookE V.over q ≠ 0) :
    Calls Try.prog 52 #[.pointer (some ⟨bl, 0, none⟩), .slice a q c] w fun e w' => e = .returned (.int .i64 (lookE V.over q)) ∧ w = w' := by
  have LL := Lib.hid L
  obtain ⟨E, hE⟩ : ∃ E, lookE V.over q = E := ⟨_, rfl⟩
  have HE := Lib.hid hE
  rw [hE] at he ⊢
  have h2 : (E != 0) = true := by simpa using he
  clear L hE he
  go_enter Try.func52, Try.ntmps52
  go_wp2_with fail
  refine (look_any _ _ _ _ _ _ _ _ _ _ LL.out.row a q c).mono ?_
  rintro e w' ⟨rfl, rfl⟩
  rw [HE.out]
  go_wp2
  go_ret
  exact ⟨rfl, rfl⟩

theorem lookE_zero {over : Bool} {q : Nat} (he : lookE over q = 0) : over = false ∧ q ≤ 65536 := by
  unfold lookE at he
  cases over with
  | true => simp at he
  | false =>
    by_cases h2 : 65536 < q
    · simp [h2] at he
    · exact ⟨rfl, by omega⟩

set_option maxHeartbeats 1000000 in
theorem check_full (w : World) (p : DP) (bl bm : Nat) (V : LogV) (n : Nat) (cnt : Nat → Nat) (L : LogAt w p bl bm V n cnt) (a : Option Addr) (q c : Nat) (he : lookE V.over q = 0) (hf : V.size < recN q) :
    Calls Try.prog 52 #[.pointer (some ⟨bl, 0, none⟩), .slice a q c] w fun e w' => e = .returned (.int .i64 4) ∧ Fr (fun _ => False) w w' := by
  have LL := Lib.hid L
  have HE := Lib.hid he
  obtain ⟨ho, hq⟩ := lookE_zero he
  have hrow := L.row
  unfold logRow at hrow
  obtain ⟨z, hz⟩ : ∃ z, V.size = z := ⟨_, rfl⟩
  rw [hz] at hf hrow
  obtain ⟨m, hm⟩ : ∃ m, recN q = m := ⟨_, rfl⟩
  have BN := Lib.hid (blocksI_nat q)
  have HM := Lib.hid hm
  rw [hm] at hf
  have hfi : (z : Int) < (m : Int) := by omega
  clear L he ho hm hz
  go_enter Try.func52, Try.ntmps52
  go_wp2_with fail
  refine (look_any _ _ _ _ _ _ _ _ _ _ LL.out.row a q c).mono ?_
  rintro e w' ⟨rfl, rfl⟩
  rw [HE.out]
  go_wp2_with fail
  refine (logBlocks_any _ (by omega) _).mono ?_
  rintro e w' ⟨rfl, rfl⟩
  rw [BN.out, HM.out]
  go_wp2
  go_ret
  exact ⟨rfl, Fr.refl _ _⟩

theorem sync_zero_pend {S : DS} (h : S.sync.1 = 0) : S.sync.2.pend = [] := by
  unfold DS.sync at h ⊢
  split
  · rename_i h1; rw [if_pos h1] at h; exact absurd h h1
  · rename_i h1
    rw [if_neg h1] at h
    split
    · rename_i h2; rw [if_pos h2] at h; simp at h
    · rfl
theorem writeSeq_zero_pend (bs : List (List UInt8)) : ∀ {S : DS} {fr : Int}, (S.writeSeq fr bs).1 = 0 → (S.writeSeq fr bs).2.pend = [] := by
  induction bs with
  | nil => intro S fr h; exact sync_zero_pend h
  | cons b bs ih =>
    intro S fr h
    unfold DS.writeSeq at h ⊢
    split
    · rename_i h1; rw [if_pos h1] at h; exact absurd h h1
    · rename_i h1; rw [if_neg h1] at h; exact ih h

/-- The generation, the head, the writes of a Checkpoint. -/
def ckG (V : LogV) (n : Nat) (cnt : Nat → Nat) : Nat := freeFrom cnt n (V.h.gen + 1)
def ckH (V : LogV) (g : Nat) : HeadV := ⟨(V.h.turn + 1) % 18446744073709551616, V.h.life, g, 1 - V.h.area⟩
def ckLay (S : DS) (V : LogV) (b : List UInt8) (g : Nat) : Int × DS := S.writeSeq ((2 + (1 - V.h.area) * V.size : Nat) : Int) (layB g V.h.life 0 b)
def ckHead (S : DS) (V : LogV) (b : List UInt8) (g : Nat) : Int × DS := (ckLay S V b g).2.writeSeq (V.slot : Int) [headB (ckH V g)]
def ckS (S : DS) (V : LogV) (b : List UInt8) (g : Nat) : Int × DS := if (ckLay S V b g).1 ≠ 0 then ckLay S V b g else ckHead S V b g
def ckV (S : DS) (V : LogV) (b : List UInt8) (g : Nat) : LogV :=
  if (ckLay S V b g).1 ≠ 0 then { V with over := true }
  else if (ckHead S V b g).1 ≠ 0 then { h := ckH V g, slot := 1 - V.slot, size := V.size, used := V.used, records := V.records, over := true }
  else { h := ckH V g, slot := 1 - V.slot, size := V.size, used := recN b.length, records := 1, over := false }

set_option maxRecDepth 20000 in
set_option maxHeartbeats 2000000 in
theorem check_fits (w0 w : World) (p : DP) (S : DS) (h : St w0 w p S) (bl bm : Nat) (V : LogV) (n : Nat) (cnt : Nat → Nat) (L : LogAt w p bl bm V n cnt) (hV : V.Ok) (hbl : w0.heap.size ≤ bl) (a : Option Addr) (c : Nat) (b : List UInt8) (hb : BytesAt w (.slice a b.length c) b) (hcap : b.length ≤ c)
    (he : lookE V.over b.length = 0) (hf : recN b.length ≤ V.size) (hm : S.pend.length ≤ 1099511627776) (hn : n ≤ 16384) (hfree : cnt (ckG V n cnt) = 0) :
    Calls Try.prog 52 #[.pointer (some ⟨bl, 0, none⟩), .slice a b.length c] w fun e w' => ∃ p', p'.d = p.d ∧ e = .returned (.int .i64 (ckS S V b (ckG V n cnt)).1) ∧ St w0 w' p' (ckS S V b (ckG V n cnt)).2 ∧ LogAt w' p' bl bm (ckV S V b (ckG V n cnt)) n cnt ∧
      Moves (fun k => p.foot k ∨ k = bl) (fun k => p'.foot k ∨ k = bl) w w' := by
  have LL := Lib.hid L
  have HE := Lib.hid he
  have H := Lib.hid h
  have HB := Lib.hid hb
  have HMM := Lib.hid hm
  have HV := Lib.hid hV
  obtain ⟨ho, hq⟩ := lookE_zero he
  obtain ⟨g2, hg2⟩ : ∃ g2, ckG V n cnt = g2 := ⟨_, rfl⟩
  have hg2b : g2 ≤ V.h.gen + 1 + n := by rw [← hg2]; exact freeFrom_le _ _ _
  have hfr := fresh_any
  have hrow := L.row
  have hlv := L.liv
  have hsz := hV.z
  have ha := hV.a
  have hgb := hV.g
  have hsl := hV.s
  rw [hg2] at hfree ⊢
  have FREE := Lib.hid (show ∀ W, Cnt W bm n cnt → Calls Try.prog 83 #[.map (some bm), .int .u64 (V.h.gen + 1 : Nat)] W fun e w' => e = .returned (.int .u64 g2) ∧ W = w' from fun W hW => by
    rw [← hg2]; exact fresh_any W bm n cnt hW (V.h.gen + 1) n (by omega) (by have := hg2; unfold ckG at this; rw [this]; exact hfree))
  obtain ⟨⟨t, l, g, ar⟩, slot, size, used, records, over⟩ := V
  simp only at ho hrow hsz ha hf hgb hsl FREE hg2b
  subst ho
  unfold logRow at hrow
  simp only at hrow
  obtain ⟨m, hm⟩ : ∃ m, recN b.length = m := ⟨_, rfl⟩
  have BN := Lib.hid (blocksI_nat b.length)
  have HM := Lib.hid hm
  rw [hm] at hf
  have hfi : ¬ (size : Int) < (m : Int) := by omega
  obtain ⟨q, hq2⟩ : ∃ q, b.length = q := ⟨_, rfl⟩
  have HQ := Lib.hid hq2
  obtain ⟨ar2, har2⟩ : ∃ ar2, 1 - ar = ar2 := ⟨_, rfl⟩
  have ha2 : ar2 ≤ 1 := by omega
  obtain ⟨T, hT⟩ : ∃ T, 2 + ar2 * size = T := ⟨_, rfl⟩
  have hT2 : T ≤ 20000 := by
    have := Nat.mul_le_mul_right size ha2
    omega
  have LAY := Lib.hid (show ∀ W, Fr (fun _ => False) w W → Calls Try.prog 88 #[.pointer (some ⟨bl, 0, none⟩), .slice a q c, .int .u64 g2, .int .i64 ar2, .int .i64 0, .int .i64 0] W fun e w' => ∃ p', p'.d = p.d ∧
      e = .returned (.int .i64 (S.writeSeq (T : Int) (layB g2 l 0 b)).1) ∧ St w0 w' p' (S.writeSeq (T : Int) (layB g2 l 0 b)).2 ∧ Moves p.foot p'.foot W w' from fun W fW => by
    have h1 := lay_any2 w0 W p S (H.out.calm fW (fun _ h => h.elim)) bl t l g ar slot size used records false bm ((fW.row (live_lt hlv) (fun h => h)).trans hrow) ((fW.liv (live_lt hlv) (fun h => h)).trans hlv) LL.out.nb HV.out.l g2 ar2 0 0
      (by omega) ha2 (by omega) (by omega) (by omega) a c b (HB.out.later fW) (by omega) (by omega) HMM.out T (by omega) hT2
    rw [HQ.out] at h1
    exact h1)
  have AS := Lib.hid (show ckLay S ⟨⟨t, l, g, ar⟩, slot, size, used, records, false⟩ b g2 = S.writeSeq (T : Int) (layB g2 l 0 b) by unfold ckLay; simp only; rw [har2, hT])
  have W1 : IntKind.i64.wrap (1 - (ar : Int)) = (ar2 : Int) := by rw [IntKind.wrap_i64]; omega
  have W2 : IntKind.u64.wrap ((g : Int) + 1) = ((g + 1 : Nat) : Int) := by rw [IntKind.wrap_u64]; omega
  have WW := Lib.hid (And.intro W1 W2)
  have HLV := Lib.hid hlv
  have hlt := live_lt hlv
  have hg2l := Lib.hid (show g2 < 18446744073709551616 by omega)
  have HAR := Lib.hid (And.intro har2 ha2)
  rw [hq2]
  rw [hq2] at hq BN HM HE hcap
  clear L hV he hm h hb hq2 hT hT2 hf W1 W2 hlv hfr hgb hg2b hg2 hfree har2 ha2
  go_enter Try.func52, Try.ntmps52
  go_wp2_with fail
  refine (look_any _ _ _ _ _ _ _ _ _ _ LL.out.row a q c).mono ?_
  rintro e w' ⟨rfl, rfl⟩
  rw [HE.out]
  go_wp2_with fail
  refine (logBlocks_any _ (by omega) _).mono ?_
  rintro e w' ⟨rfl, rfl⟩
  rw [BN.out, HM.out]
  go_upto_region 7 with fail
  have W1 := WW.out.1
  have W2 := WW.out.2
  go_region_held3 (fun w' => rowOf w' bl = #[.pointer (some ⟨p.d, 0, none⟩), .int .u64 t, .int .u64 l, .int .u64 g, .int .i64 ar, .int .i64 slot, .int .i64 size, .int .i64 used, .int .i64 records, .bool false, .map (some bm)])
    (first | assumption | (rw [rowOf_drew]; assumption))
    ((go_simp; go_at_call 83; refine (FREE.out _ (LL.out.map.keep (Fr.refl (fun _ => False) w).drew (fun h => h))).mono ?_; rintro e w5 ⟨rfl, rfl⟩))
  clear W1 W2
  all_goals
    go_wp2_with fail
    refine (LAY.out _ (Fr.refl _ _).drew).mono ?_
    rintro e w5 ⟨p5, hp5, rfl, s5, m5⟩
    obtain ⟨S5, hS5⟩ : ∃ S5, S.writeSeq (T : Int) (layB g2 l 0 b) = S5 := ⟨_, rfl⟩
    have PE5 := Lib.hid (show S5.1 = 0 → S5.2.pend = [] by rw [← hS5]; exact writeSeq_zero_pend _)
    rw [hS5] at AS s5 ⊢
    clear hS5
    have SS5 := Lib.hid s5
    have P5 := Lib.hid hp5
    have MT := Lib.hid (show Moves p.foot p5.foot w w5 from ⟨(Fr.refl _ w).drew.trans m5.fr (fun i hi h => h), m5.new⟩)
    have L5 := (MT.out.fr.liv hlt LL.out.nb).trans HLV.out
    have r5 := (MT.out.fr.row hlt LL.out.nb).trans hrow
    have hb5 := live_lt L5
    have hbm := LL.out.map.lt
    have NB := Lib.hid (show ¬ p5.foot bl from fun e => (MT.out.new bl e).elim LL.out.nb (fun h => by omega))
    have NM := Lib.hid (show ¬ p5.foot bm from fun e => (MT.out.new bm e).elim LL.out.nm (fun h => by omega))
    have CN5 := Lib.hid (LL.out.map.keep MT.out.fr LL.out.nm)
    have HBM := Lib.hid hbm
    clear s5 hp5 m5 hbm
    obtain ⟨E, hE⟩ : ∃ E, S5.1 = E := ⟨_, rfl⟩
    have HEE := Lib.hid hE
    rw [hE]
    clear hE
    by_cases hz : E = 0
    · subst hz
      have CS := Lib.hid (show ckS S ⟨⟨t, l, g, ar⟩, slot, size, used, records, false⟩ b g2 = S5.2.writeSeq (slot : Int) [headB ⟨(t + 1) % 18446744073709551616, l, g2, ar2⟩] by
        unfold ckS ckHead ckH; rw [AS.out, if_neg (by simpa using HEE.out)]; simp only; rw [HAR.out.1])
      have CV := Lib.hid (show ckV S ⟨⟨t, l, g, ar⟩, slot, size, used, records, false⟩ b g2 = if (S5.2.writeSeq (slot : Int) [headB ⟨(t + 1) % 18446744073709551616, l, g2, ar2⟩]).1 ≠ 0 then ⟨⟨(t + 1) % 18446744073709551616, l, g2, ar2⟩, 1 - slot, size, used, records, true⟩ else ⟨⟨(t + 1) % 18446744073709551616, l, g2, ar2⟩, 1 - slot, size, m, 1, false⟩ by
        unfold ckV ckHead ckH; rw [AS.out, if_neg (by simpa using HEE.out)]; simp only; rw [HAR.out.1, HQ.out, HM.out])
      go_wp2_with fail
      obtain ⟨W6, hW6⟩ : ∃ W6, w5.setRow bl #[.pointer (some ⟨p.d, 0, none⟩), .int .u64 t, .int .u64 l, .int .u64 g2, .int .i64 ar2, .int .i64 slot, .int .i64 size, .int .i64 used, .int .i64 records, .bool false, .map (some bm)] = W6 := ⟨_, rfl⟩
      have FX := Lib.hid (show Fr (fun k => k = bl) w5 W6 by rw [← hW6]; exact (Fr.refl (fun k => k = bl) w5).setRow _ _ (fun _ => rfl))
      have R6 := Lib.hid (show rowOf W6 bl = logRow p5.d ⟨t, l, g2, ar2⟩ slot size used records false bm ∧ live W6 bl = true by
        rw [← hW6, P5.out]; exact ⟨rowOf_setRow_same _ _ _ L5, by rw [live_setRow]; exact L5⟩)
      rw [hW6]
      clear hW6
      refine (turn_any w0 W6 p5 S5.2 (SS5.out.calm FX.out (fun k e => ⟨by omega, fun hk => NB.out (e ▸ hk)⟩)) bl t l g2 ar2 slot size used records false bm R6.out.1 R6.out.2 NB.out hbl HV.out.t HV.out.l hg2l.out HAR.out.2 HV.out.s (by rw [PE5.out HEE.out]; simp)).mono ?_
      rintro e w7 ⟨p7, hp7, rfl, rep7, row7, liv7, mv7, nf7, new7⟩
      obtain ⟨S7, hS7⟩ : ∃ S7, S5.2.writeSeq (slot : Int) [headB ⟨(t + 1) % 18446744073709551616, l, g2, ar2⟩] = S7 := ⟨_, rfl⟩
      rw [hS7] at rep7 CS CV ⊢
      clear hS7
      obtain ⟨t2, ht2⟩ : ∃ t2, (t + 1) % 18446744073709551616 = t2 := ⟨_, rfl⟩
      rw [ht2] at row7 CV
      clear ht2
      have F57 := Lib.hid (show Fr (fun k => p5.foot k ∨ k = bl) w5 w7 from (FX.out.mono (fun _ _ h => .inr h)).trans mv7.fr (fun _ _ h => h))
      have NEW7 := Lib.hid (show ∀ k, p7.foot k → p.foot k ∨ w.heap.size ≤ k from fun k hk => (new7 k hk).elim (fun h => MT.out.new k h) (fun h => .inr (by have := FX.out.size; have := MT.out.fr.size; omega)))
      have M7 := Lib.hid (show Moves (fun k => p.foot k ∨ k = bl) (fun k => p7.foot k ∨ k = bl) w w7 from
        ⟨(MT.out.fr.mono (fun _ _ h => .inl h)).trans F57.out (fun i hi h => h.elim (fun h => (MT.out.new i h).elim .inl (fun h => by omega)) .inr), fun k hk => hk.elim (fun h => (NEW7.out k h).imp .inl id) (fun h => .inl (.inr h))⟩)
      have ST7 := Lib.hid (show St w0 w7 p7 S7.2 from ⟨H.out.fr.trans M7.out.fr (fun i hi e => e.elim (fun e => by have := H.out.foot i e; omega) (fun e => by omega)), rep7, fun k hk => (NEW7.out k hk).elim (H.out.foot k) (fun h => by have := H.out.fr.size; omega)⟩)
      have row7b := row7
      rw [P5.out] at row7b
      unfold logRow at row7b
      simp only at row7b
      have LV7 := Lib.hid liv7
      have P7 := Lib.hid (hp7.trans P5.out)
      have CN7 := Lib.hid (CN5.out.keep F57.out (fun e => e.elim NM.out (fun e => LL.out.ne e.symm)))
      have NB7 := Lib.hid nf7
      have NM7 := Lib.hid (show ¬ p7.foot bm from fun e => (NEW7.out bm e).elim LL.out.nm (fun h => by have := HBM.out; omega))
      have FIN := Lib.hid (show ∀ (V' : LogV) c, rowOf (w7.setRow bl c) bl = logRow p.d V'.h V'.slot V'.size V'.used V'.records V'.over bm → St w0 (w7.setRow bl c) p7 S7.2 ∧ LogAt (w7.setRow bl c) p7 bl bm V' n cnt ∧ Moves (fun k => p.foot k ∨ k = bl) (fun k => p7.foot k ∨ k = bl) w (w7.setRow bl c) from fun V' c hr => by
        have FY := (Fr.refl (fun k => k = bl) w7).setRow bl c (fun _ => rfl)
        refine ⟨ST7.out.calm FY (fun k e => ⟨by omega, fun hk => NB7.out (e ▸ hk)⟩), ⟨by rw [P7.out]; exact hr, by rw [live_setRow]; exact LV7.out, CN7.out.keep FY (fun e => LL.out.ne e.symm), NB7.out, NM7.out, LL.out.ne⟩, ⟨M7.out.fr.trans FY (fun _ _ h => .inr h), M7.out.new⟩⟩)
      clear rep7 row7 liv7 mv7 nf7 new7 hp7 r5
      obtain ⟨E2, hE2⟩ : ∃ E2, S7.1 = E2 := ⟨_, rfl⟩
      have HE2 := Lib.hid hE2
      rw [hE2]
      clear hE2
      by_cases hz2 : E2 = 0
      · subst hz2
        have lv7 := LV7.out
        go_wp2
        go_ret
        rw [CS.out, CV.out, if_neg (by simpa using HE2.out)]
        exact ⟨p7, P7.out, by rw [HE2.out]; rfl, FIN.out _ _ (by rw [rowOf_setRow_same _ _ _ LV7.out]; simp [logRow])⟩
      · have hz3 : (E2 != 0) = true := by simpa using hz2
        have lv7 := LV7.out
        go_wp2
        go_ret
        rw [CS.out, CV.out, if_pos (by rw [HE2.out]; exact hz2)]
        exact ⟨p7, P7.out, by rw [HE2.out]; rfl, FIN.out _ _ (by rw [rowOf_setRow_same _ _ _ LV7.out]; simp [logRow])⟩
    · have hz1 : (E == 0) = false := by simpa using hz
      have hz2 : (E != 0) = true := by simpa using hz
      have CS := Lib.hid (show ckS S ⟨⟨t, l, g, ar⟩, slot, size, used, records, false⟩ b g2 = S5 by
        unfold ckS; rw [AS.out, if_pos (by rw [HEE.out]; exact hz)])
      have CV := Lib.hid (show ckV S ⟨⟨t, l, g, ar⟩, slot, size, used, records, false⟩ b g2 = ⟨⟨t, l, g, ar⟩, slot, size, used, records, true⟩ by
        unfold ckV; rw [AS.out, if_pos (by rw [HEE.out]; exact hz)])
      have FIN := Lib.hid (show ∀ (V' : LogV) c, rowOf (w5.setRow bl c) bl = logRow p.d V'.h V'.slot V'.size V'.used V'.records V'.over bm → St w0 (w5.setRow bl c) p5 S5.2 ∧ LogAt (w5.setRow bl c) p5 bl bm V' n cnt ∧ Moves (fun k => p.foot k ∨ k = bl) (fun k => p5.foot k ∨ k = bl) w (w5.setRow bl c) from fun V' c hr => by
        have FY := (Fr.refl (fun k => k = bl) w5).setRow bl c (fun _ => rfl)
        refine ⟨SS5.out.calm FY (fun k e => ⟨by omega, fun hk => NB.out (e ▸ hk)⟩), ⟨by rw [P5.out]; exact hr, by rw [live_setRow]; exact L5, CN5.out.keep FY (fun e => LL.out.ne e.symm), NB.out, NM.out, LL.out.ne⟩, ⟨(MT.out.fr.mono (fun _ _ h => .inl h)).trans (FY.mono (fun _ _ h => .inr h)) (fun _ _ h => h), fun k hk => hk.elim (fun h => (MT.out.new k h).imp .inl id) (fun h => .inl (.inr h))⟩⟩)
      go_wp2
      go_ret
      rw [CS.out, CV.out]
      exact ⟨p5, P5.out, by rw [HEE.out]; rfl, FIN.out _ _ (by rw [rowOf_setRow_same _ _ _ L5]; simp [logRow])⟩

end Go.Proofs.Ytflnlpbcmcfblaa
