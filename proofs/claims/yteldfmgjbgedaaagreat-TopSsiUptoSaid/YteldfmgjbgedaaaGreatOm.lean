/-
  Package keystonetop: commits.
-/
import Derived.Test.YteldfmgjbgedaaaGreatOi
namespace Go.Proofs.YteldfmgjbgedaaaGreat
open Go.RowKit Go.Maps

theorem verRow_size (l : List (Key × Nat × Nat)) : ∀ y ∈ l.map verA, y.size = 3 := by
  intro y hy
  obtain ⟨p, -, rfl⟩ := List.mem_map.1 hy
  rfl

section
variable {w w3 : World} {cls : Nat → Nat} {pp m : Nat} {S : PS}

/-- One more in the order. -/
theorem Play.grow_vo (h : Play w cls pp m S) (z : Nat) {g' len cap' : Nat} (ho : OwnRows w3 (.slice (some ⟨g', 0, none⟩) len cap') 1 (natRows (S.ord) ++ natRows ([z])) 0)
    (hf : Fr (fun i => S.vo.ownBlock = some i) w w3) (hn : S.vo.ownBlock = some g' ∨ w.heap.size ≤ g') :
    Play (w3.setRow pp #[.pointer (some ⟨m, 0, none⟩), S.vl, S.vv, .slice (some ⟨g', 0, none⟩) len cap', S.vk]) (clsG cls g' 10) pp m { S with ord := S.ord ++ [z], vo := .slice (some ⟨g', 0, none⟩) len cap' } := by
  have hpp := h.cp
  have np : ¬ S.vo.ownBlock = some pp := fun e => by have := h.co _ e; omega
  have l3 : live w3 pp = true := by rw [hf.liv (live_lt h.lp) np]; exact h.lp
  have f4 : Fr (fun k => k = pp ∨ S.vo.ownBlock = some k) w (w3.setRow pp #[.pointer (some ⟨m, 0, none⟩), S.vl, S.vv, .slice (some ⟨g', 0, none⟩) len cap', S.vk]) := (hf.mono (fun _ _ e => .inr e)).setRow pp _ (fun _ => .inl rfl)
  have hc' : ∀ k, k < w.heap.size → clsG cls g' 10 k = cls k := fun k hk => clsG_old h.co hn hk
  have hF : ∀ k, live w k = true → (k = pp ∨ S.vo.ownBlock = some k) → cls k < 12 := fun k _ e => by
    rcases e with e | e
    · rw [e, hpp]; omega
    · rw [h.co _ e]; omega
  have oth : ∀ {v : Value} {size : Nat} {xs : List (Array Value)} {c : Nat}, OwnRows w v size xs 0 → (∀ k, v.ownBlock = some k → cls k = c) → c ≠ 7 ∧ c ≠ 10 → OwnRows (w3.setRow pp #[.pointer (some ⟨m, 0, none⟩), S.vl, S.vv, .slice (some ⟨g', 0, none⟩) len cap', S.vk]) v size xs 0 ∧ ∀ k, v.ownBlock = some k → clsG cls g' 10 k = c :=
    fun a b h8 => ⟨a.keep f4 (fun k hk e => by
      have h1 := b k hk
      rcases e with e | e
      · rw [e, hpp] at h1; omega
      · rw [h.co _ e] at h1; omega), fun k hk => (hc' k (a.lt hk).2).trans (b k hk)⟩
  have hgp : g' ≠ pp := fun e => by
    rcases hn with e2 | e2
    · exact np (e ▸ e2)
    · have := live_lt h.lp; omega
  refine h.setP f4 hF hc' (by rw [rowOf_setRow_same _ _ _ l3]) (by rw [live_setRow]; exact l3) (oth h.hl h.cl (by omega)).1 (oth h.hl h.cl (by omega)).2 (oth h.hv h.cv (by omega)).1 (oth h.hv h.cv (by omega)).2 ?_ ?_ (oth h.hk h.ck (by omega)).1 (oth h.hk h.ck (by omega)).2 (fun i p hp => .inl hp)
  · have := ho.keep ((Fr.refl (fun k => k = pp) w3).setRow pp #[.pointer (some ⟨m, 0, none⟩), S.vl, S.vv, .slice (some ⟨g', 0, none⟩) len cap', S.vk] (fun _ => rfl)) (fun k hk e => by injection hk with hk; exact hgp (hk.trans e))
    first | (simpa using this) | (simpa [strRows] using this) | (simpa [natRows] using this)
  · intro k hk
    injection hk with hk
    rw [← hk]; exact clsG_at _ _ _

/-- A version more. -/
theorem Play.grow_vv (h : Play w cls pp m S) (z : Key × Nat × Nat) {g' len cap' : Nat} (ho : OwnRows w3 (.slice (some ⟨g', 0, none⟩) len cap') 3 ((S.vs).map verA ++ ([z]).map verA) 0)
    (hf : Fr (fun i => S.vv.ownBlock = some i) w w3) (hn : S.vv.ownBlock = some g' ∨ w.heap.size ≤ g') :
    Play (w3.setRow pp #[.pointer (some ⟨m, 0, none⟩), S.vl, .slice (some ⟨g', 0, none⟩) len cap', S.vo, S.vk]) (clsG cls g' 9) pp m { S with vs := S.vs ++ [z], vv := .slice (some ⟨g', 0, none⟩) len cap' } := by
  have hpp := h.cp
  have np : ¬ S.vv.ownBlock = some pp := fun e => by have := h.cv _ e; omega
  have l3 : live w3 pp = true := by rw [hf.liv (live_lt h.lp) np]; exact h.lp
  have f4 : Fr (fun k => k = pp ∨ S.vv.ownBlock = some k) w (w3.setRow pp #[.pointer (some ⟨m, 0, none⟩), S.vl, .slice (some ⟨g', 0, none⟩) len cap', S.vo, S.vk]) := (hf.mono (fun _ _ e => .inr e)).setRow pp _ (fun _ => .inl rfl)
  have hc' : ∀ k, k < w.heap.size → clsG cls g' 9 k = cls k := fun k hk => clsG_old h.cv hn hk
  have hF : ∀ k, live w k = true → (k = pp ∨ S.vv.ownBlock = some k) → cls k < 12 := fun k _ e => by
    rcases e with e | e
    · rw [e, hpp]; omega
    · rw [h.cv _ e]; omega
  have oth : ∀ {v : Value} {size : Nat} {xs : List (Array Value)} {c : Nat}, OwnRows w v size xs 0 → (∀ k, v.ownBlock = some k → cls k = c) → c ≠ 7 ∧ c ≠ 9 → OwnRows (w3.setRow pp #[.pointer (some ⟨m, 0, none⟩), S.vl, .slice (some ⟨g', 0, none⟩) len cap', S.vo, S.vk]) v size xs 0 ∧ ∀ k, v.ownBlock = some k → clsG cls g' 9 k = c :=
    fun a b h8 => ⟨a.keep f4 (fun k hk e => by
      have h1 := b k hk
      rcases e with e | e
      · rw [e, hpp] at h1; omega
      · rw [h.cv _ e] at h1; omega), fun k hk => (hc' k (a.lt hk).2).trans (b k hk)⟩
  have hgp : g' ≠ pp := fun e => by
    rcases hn with e2 | e2
    · exact np (e ▸ e2)
    · have := live_lt h.lp; omega
  refine h.setP f4 hF hc' (by rw [rowOf_setRow_same _ _ _ l3]) (by rw [live_setRow]; exact l3) (oth h.hl h.cl (by omega)).1 (oth h.hl h.cl (by omega)).2 ?_ ?_ (oth h.ho h.co (by omega)).1 (oth h.ho h.co (by omega)).2 (oth h.hk h.ck (by omega)).1 (oth h.hk h.ck (by omega)).2 (fun i p hp => .inl hp)
  · have := ho.keep ((Fr.refl (fun k => k = pp) w3).setRow pp #[.pointer (some ⟨m, 0, none⟩), S.vl, .slice (some ⟨g', 0, none⟩) len cap', S.vo, S.vk] (fun _ => rfl)) (fun k hk e => by injection hk with hk; exact hgp (hk.trans e))
    first | (simpa using this) | (simpa [strRows] using this) | (simpa [natRows] using this)
  · intro k hk
    injection hk with hk
    rw [← hk]; exact clsG_at _ _ _

/-- A key more. -/
theorem Play.grow_vk (h : Play w cls pp m S) (z : Key) {g' len cap' : Nat} (ho : OwnRows w3 (.slice (some ⟨g', 0, none⟩) len cap') 1 (strRows (S.keys) ++ strRows ([z])) 0)
    (hf : Fr (fun i => S.vk.ownBlock = some i) w w3) (hn : S.vk.ownBlock = some g' ∨ w.heap.size ≤ g') :
    Play (w3.setRow pp #[.pointer (some ⟨m, 0, none⟩), S.vl, S.vv, S.vo, .slice (some ⟨g', 0, none⟩) len cap']) (clsG cls g' 11) pp m { S with keys := S.keys ++ [z], vk := .slice (some ⟨g', 0, none⟩) len cap' } := by
  have hpp := h.cp
  have np : ¬ S.vk.ownBlock = some pp := fun e => by have := h.ck _ e; omega
  have l3 : live w3 pp = true := by rw [hf.liv (live_lt h.lp) np]; exact h.lp
  have f4 : Fr (fun k => k = pp ∨ S.vk.ownBlock = some k) w (w3.setRow pp #[.pointer (some ⟨m, 0, none⟩), S.vl, S.vv, S.vo, .slice (some ⟨g', 0, none⟩) len cap']) := (hf.mono (fun _ _ e => .inr e)).setRow pp _ (fun _ => .inl rfl)
  have hc' : ∀ k, k < w.heap.size → clsG cls g' 11 k = cls k := fun k hk => clsG_old h.ck hn hk
  have hF : ∀ k, live w k = true → (k = pp ∨ S.vk.ownBlock = some k) → cls k < 12 := fun k _ e => by
    rcases e with e | e
    · rw [e, hpp]; omega
    · rw [h.ck _ e]; omega
  have oth : ∀ {v : Value} {size : Nat} {xs : List (Array Value)} {c : Nat}, OwnRows w v size xs 0 → (∀ k, v.ownBlock = some k → cls k = c) → c ≠ 7 ∧ c ≠ 11 → OwnRows (w3.setRow pp #[.pointer (some ⟨m, 0, none⟩), S.vl, S.vv, S.vo, .slice (some ⟨g', 0, none⟩) len cap']) v size xs 0 ∧ ∀ k, v.ownBlock = some k → clsG cls g' 11 k = c :=
    fun a b h8 => ⟨a.keep f4 (fun k hk e => by
      have h1 := b k hk
      rcases e with e | e
      · rw [e, hpp] at h1; omega
      · rw [h.ck _ e] at h1; omega), fun k hk => (hc' k (a.lt hk).2).trans (b k hk)⟩
  have hgp : g' ≠ pp := fun e => by
    rcases hn with e2 | e2
    · exact np (e ▸ e2)
    · have := live_lt h.lp; omega
  refine h.setP f4 hF hc' (by rw [rowOf_setRow_same _ _ _ l3]) (by rw [live_setRow]; exact l3) (oth h.hl h.cl (by omega)).1 (oth h.hl h.cl (by omega)).2 (oth h.hv h.cv (by omega)).1 (oth h.hv h.cv (by omega)).2 (oth h.ho h.co (by omega)).1 (oth h.ho h.co (by omega)).2 ?_ ?_ (fun i p hp => .inl hp)
  · have := ho.keep ((Fr.refl (fun k => k = pp) w3).setRow pp #[.pointer (some ⟨m, 0, none⟩), S.vl, S.vv, S.vo, .slice (some ⟨g', 0, none⟩) len cap'] (fun _ => rfl)) (fun k hk e => by injection hk with hk; exact hgp (hk.trans e))
    first | (simpa using this) | (simpa [strRows] using this) | (simpa [natRows] using this)
  · intro k hk
    injection hk with hk
    rw [← hk]; exact clsG_at _ _ _


set_option maxRecDepth 20000 in
set_option maxHeartbeats 4000000 in
theorem Play.commits20 (h : Play w cls pp m S) {n : Nat} {p : PT} (hp : S.l[n]? = some p) {g c : Nat} (hv : S.vl = .slice (some ⟨g, 0, none⟩) S.l.length c) (num : Nat) (hlo : S.ord.length < 2 ^ 32) (hlv : S.vs.length + p.wr.length < 2 ^ 32) :
    Calls Tryz.prog 20 #[.pointer (some ⟨pp, 0, none⟩), .pointer (some ⟨g, n * 6, none⟩), .int .i64 (num : Nat)] w fun e w' => e = .returned (.tuple #[]) ∧ Hid (∃ cls' vo' vv', (∀ k, k < w.heap.size → cls' k = cls k) ∧ Fr (fun k => k = pp ∨ k = g ∨ S.vo.ownBlock = some k ∨ S.vv.ownBlock = some k) w w' ∧
      Play w' cls' pp m { S with l := S.l.set n { p with over := true }, ord := S.ord ++ [p.tx], vs := S.vs ++ p.wr.map (fun x => (x, num, p.tx)), vo := vo', vv := vv' }) := by
  obtain ⟨g1, c1, hvl, hlg, hg8, hn, hsz, c0, -, c2, -, -, c5⟩ := h.cells hp
  obtain ⟨rfl, -, rfl⟩ := slice_inj (hvl.symm.trans hv)
  have HVVI := Lib.hid (rfl : S.vv = S.vv)
  have hrow := h.row
  have hlp := h.lp
  have H0 := Lib.hid (h.overed hp hv)
  have hne : g1 ≠ pp := fun e => by have := h.cp; rw [← e, hg8] at this; omega
  have hne' : pp ≠ g1 := fun e => hne e.symm
  rw [hv] at hrow
  have hltp := live_lt hlp
  have hltg := live_lt hlg
  go_enter Tryz.func20, Tryz.ntmps20
  go_upto_region 1 with fail
  have f0 : Fr (fun k => k = pp ∨ k = g1 ∨ S.vo.ownBlock = some k ∨ S.vv.ownBlock = some k) w (w.setRow g1 ((rowOf w g1).setIfInBounds (n * 6 + 2) (.bool true))) := (Fr.refl _ w).setRow _ _ (fun _ => .inr (.inl rfl))
  have h0 := H0.out
  generalize w.setRow g1 ((rowOf w g1).setIfInBounds (n * 6 + 2) (.bool true)) = w0 at h0 f0 ⊢
  clear H0
  have hp0 : (S.l.set n { p with over := true })[n]? = some { p with over := true } := List.getElem?_set_self hn
  have HGOAL := Lib.hid (rfl : ({ S with l := S.l.set n { p with over := true } } : PS) = { S with l := S.l.set n { p with over := true } })
  obtain ⟨p0, hp0e⟩ : ∃ p0 : PT, p0 = { p with over := true } := ⟨_, rfl⟩
  obtain ⟨S0, hS0⟩ : ∃ S0 : PS, S0 = { S with l := S.l.set n p0 } := ⟨_, rfl⟩
  have hS0l : S0.l.length = S.l.length := by rw [hS0]; simp
  have hv0 : S0.vl = .slice (some ⟨g1, 0, none⟩) S0.l.length c1 := by rw [hS0l, hS0]; exact hv
  have hpS : S0.l[n]? = some p0 := by rw [hS0]; show (S.l.set n p0)[n]? = some p0; exact List.getElem?_set_self hn
  have hlo0 : S0.ord.length < 2 ^ 32 := by rw [hS0]; exact hlo
  have hlv0 : S0.vs.length + p0.wr.length < 2 ^ 32 := by rw [hS0, hp0e]; exact hlv
  have htx : p.tx = p0.tx := by rw [hp0e]
  rw [← hp0e, ← hS0] at h0
  have HSE := Lib.hid hS0
  have HPE := Lib.hid hp0e
  have HF0 := Lib.hid f0
  have H0 := Lib.hid h0
  obtain ⟨g2, c2', hvl2, hlg2, hg82, -, -, d0, -, -, -, -, d5⟩ := h0.cells hpS
  obtain ⟨rfl, -, rfl⟩ := slice_inj (hvl2.symm.trans hv0)
  have hr0 := h0.row
  rw [hv0] at hr0
  obtain ⟨ao, co, hvo⟩ := h0.ho.len
  rw [natRows_length] at hvo
  have HVO := Lib.hid hvo
  rw [hvo] at hr0
  have l0 := h0.lp
  have lt0 := live_lt l0
  have ltg0 := live_lt hlg2
  clear h0 f0 h hp hv hrow hlp c0 c2 c5 hvl hlg hg8 hn hsz hp0 HGOAL hp0e hS0 hvl2 hvo hlo hlv hltp hltg
  go_region_law (refine step_append_one (o := ⟨some 21, _, _, _, _, _⟩) rfl (.tmp 15) (.tmp 20) 32 rfl 3 _ 1 8 Tryz.underlying32 ti3 (.slice ao S0.ord.length co) (natRows S0.ord) 0 rfl ((HVO.out ▸ H0.out.ho).keep (((Fr.refl (fun _ => False) w0).alloc _).drew) (fun _ _ h => h)) (Nat.zero_le _) w0.heap.size 1 rfl #[.int .i64 (p0.tx : Nat)] (by simp [go_sem]) (by simp [go_sem]; rfl) (by intro z hz; simp at hz; rcases hz with rfl; rfl) (natRows_size _) (by rw [natRows_length]; simp only [maxLen]; omega) (fitsN (by rw [natRows_length]; omega) (by omega)) ?_; intro g' cap' w1 ho1 f1 hn1; rw [natRows_length] at ho1 ⊢; have HO1 := Lib.hid ho1; have N1 := Lib.hid hn1; have f01 : Fr (fun i => S0.vo.ownBlock = some i) w0 w1 := ((((Fr.refl (fun _ => False) w0).alloc _).drew).mono (fun _ _ e => e.elim)).trans f1 (fun _ _ e => by rw [HVO.out]; exact e); have np1 : ¬ S0.vo.ownBlock = some pp := (fun e => by have := H0.out.co _ e; rw [H0.out.cp] at this; omega); have r1 := (f01.row lt0 np1).trans hr0; have l1 := (f01.liv lt0 np1).trans l0; have HF01 := Lib.hid f01; clear ho1 f1 hn1 f01)
  all_goals
    have n1 : S0.vo.ownBlock = some g' ∨ w0.heap.size ≤ g' := N1.out.elim (fun e => .inl (by rw [HVO.out]; exact e)) (fun e => .inr (by simp at e; omega))
    have hv0' : S0.vl = .slice (some ⟨g2, 0, none⟩) S.l.length c2' := by rw [hv0, hS0l]
    rw [← hv0']
    have h1 := H0.out.grow_vo p0.tx HO1.out HF01.out n1
    have f12 : Fr (fun k => k = pp ∨ S0.vo.ownBlock = some k) w0 (w1.setRow pp #[.pointer (some ⟨m, 0, none⟩), S0.vl, S0.vv, .slice (some ⟨g', 0, none⟩) (S0.ord.length + 1) cap', S0.vk]) := (HF01.out.mono (fun _ _ e => .inr e)).setRow pp _ (fun _ => .inl rfl)
    generalize w1.setRow pp #[.pointer (some ⟨m, 0, none⟩), S0.vl, S0.vv, .slice (some ⟨g', 0, none⟩) (S0.ord.length + 1) cap', S0.vk] = w2 at h1 f12 ⊢
    have HAG1 : Hid (∀ k, k < w.heap.size → clsG cls g' 10 k = cls k) := Lib.hid (fun k hk => clsG_old H0.out.co n1 (Nat.lt_of_lt_of_le hk HF0.out.size))
    have HFA : Hid (Fr (fun k => k = pp ∨ k = g2 ∨ S.vo.ownBlock = some k ∨ S.vv.ownBlock = some k) w w2) := Lib.hid (HF0.out.trans f12 (fun k _ e => by
      rcases e with e | e
      · exact .inl e
      · exact .inr (.inr (.inl (by rw [HSE.out] at e; exact e)))))
    generalize clsG cls g' 10 = cls1 at h1 HAG1
    obtain ⟨S1, hS1⟩ : ∃ S1 : PS, S1 = { S0 with ord := S0.ord ++ [p0.tx], vo := .slice (some ⟨g', 0, none⟩) (S0.ord.length + 1) cap' } := ⟨_, rfl⟩
    rw [← hS1] at h1
    have hv1 : S1.vl = .slice (some ⟨g2, 0, none⟩) S1.l.length c2' := by rw [hS1]; exact hv0
    have hp1 : S1.l[n]? = some p0 := by rw [hS1]; exact hpS
    have hlv1 : S1.vs.length + p0.wr.length < 2 ^ 32 := by rw [hS1]; exact hlv0
    have HS1 := Lib.hid hS1
    have H1 := Lib.hid h1
    obtain ⟨g3, c3', hvl3, hlg3, -, -, -, -, -, -, -, -, e5⟩ := h1.cells hp1
    obtain ⟨rfl, -, -⟩ := slice_inj (hvl3.symm.trans hv1)
    obtain ⟨aw, cw, hvw⟩ := (h1.hw n p0 hp1).1.len
    rw [strRows_length] at hvw
    rw [hvw] at e5
    have HVW := Lib.hid hvw
    have hlw : p0.wr.length ≤ 9223372036854775807 := by omega
    clear h1 f12 hS1 hv0' hr0 d0 d5 r1 hvl3 hvw n1 hv0 hS0l hpS hlo0 hlv0
    go_wp2_with fail
    go_loopw [29] (fun t29 wr => ∃ (k : Nat) (cls2 : Nat → Nat) (vv' : Value), t29 = .int .i64 (k : Nat) ∧ k ≤ p0.wr.length ∧ Play wr cls2 pp m { S1 with vs := S1.vs ++ (p0.wr.take k).map (fun x => (x, num, p0.tx)), vv := vv' } ∧ (∀ k, k < w.heap.size → cls2 k = cls k) ∧ (∀ j, vv'.ownBlock = some j → j < w.heap.size → S.vv.ownBlock = some j) ∧ Fr (fun k => k = pp ∨ k = g3 ∨ S.vo.ownBlock = some k ∨ S.vv.ownBlock = some k) w wr) (fun t29 _ => p0.wr.length - (intOf t29).toNat)
    case atStart =>
      refine ⟨0, cls1, S1.vv, rfl, Nat.zero_le _, ?_, HAG1.out, fun j hj _ => by rw [HS1.out, HSE.out] at hj; exact hj, HFA.out⟩
      simp only [List.take_zero, List.map_nil, List.append_nil]
      exact H1.out
    case round =>
      obtain ⟨k, cls2, vv', rfl, hk, hP, hag, how, hfr⟩ := hrel
      have HOW := Lib.hid how
      clear how
      have HP := Lib.hid hP
      have HAG := Lib.hid hag
      have HFR := Lib.hid hfr
      by_cases hlt : k < p0.wr.length
      · have hpk : ({ S1 with vs := S1.vs ++ (p0.wr.take k).map (fun x => (x, num, p0.tx)), vv := vv' } : PS).l[n]? = some p0 := hp1
        obtain ⟨g4, c4', hvl4, hlg4, -, -, -, x0, -, -, -, -, -⟩ := hP.cells hpk
        obtain ⟨rfl, -, -⟩ := slice_inj (hvl4.symm.trans hv1)
        have how := (hP.hw n p0 hpk).1
        rw [HVW.out] at how
        obtain ⟨gw, rfl, -, hlgw, -, -, hszw, hget⟩ := how.get (k := k) (by rw [strRows_length]; exact hlt)
        have hrow : (strRows p0.wr)[k]'(by rw [strRows_length]; exact hlt) = #[.string ⟨p0.wr[k].toArray⟩] := by simp [strRows]
        have y0 : (rowOf wr gw)[k]? = some (.string ⟨p0.wr[k].toArray⟩) := by have := hget 0 (by omega); rw [hrow] at this; simpa using this
        have HTK := Lib.hid (List.take_succ_eq_append_getElem hlt)
        have HLT := Lib.hid hlt
        generalize hq : p0.wr[k] = u at y0 HTK
        have hki : (k : Int) < (p0.wr.length : Int) := by omega
        have hrp := hP.row
        obtain ⟨av, cv, hvv⟩ := hP.hv.len
        rw [List.length_map] at hvv
        replace hvv : vv' = .slice av (S1.vs ++ (p0.wr.take k).map (fun x => (x, num, p0.tx))).length cv := hvv
        have hll : (S1.vs ++ (p0.wr.take k).map (fun x => (x, num, p0.tx))).length = S1.vs.length + k := by simp; omega
        rw [hll] at hvv
        replace hrp : rowOf wr pp = #[.pointer (some ⟨m, 0, none⟩), S1.vl, vv', S1.vo, S1.vk] := hrp
        rw [hvv] at hrp
        have HVV := Lib.hid hvv
        have HLL := Lib.hid hll
        have lp := hP.lp
        have ltp := live_lt lp
        have ltg := live_lt hlg4
        have ltw := live_lt hlgw
        clear hget hrow hq hP hag hfr hvl4 how hvv hll e5
        go_wp2_with fail
        go_region_law (refine step_append_one (o := ⟨some 46, _, _, _, _, _⟩) rfl (.tmp 37) (.tmp 45) 31 rfl 106 _ 3 32 Tryz.underlying31 ti106 (.slice av (S1.vs.length + k) cv) ((S1.vs ++ (p0.wr.take k).map (fun x => (x, num, p0.tx))).map verA) 0 rfl ((HVV.out ▸ HP.out.hv).keep (((Fr.refl (fun _ => False) wr).alloc _).drew) (fun _ _ h => h)) (Nat.zero_le _) wr.heap.size 1 rfl (verA (u, num, p0.tx)) (by simp [go_sem]) (by simp [go_sem, verA]; rfl) (by intro z hz; simp [verA] at hz; rcases hz with rfl | rfl | rfl <;> rfl) (verRow_size _) (by rw [List.length_map, HLL.out]; simp only [maxLen]; omega) (fitsN (by rw [List.length_map, HLL.out]; omega) (by omega)) ?_; intro g' cap' w4 ho4 f4 hn4; rw [List.length_map, HLL.out] at ho4 ⊢; have HO4 := Lib.hid ho4; have N4 := Lib.hid hn4; have f04 : Fr (fun i => vv'.ownBlock = some i) wr w4 := ((((Fr.refl (fun _ => False) wr).alloc _).drew).mono (fun _ _ e => e.elim)).trans f4 (fun _ _ e => by rw [HVV.out]; exact e); have np4 : ¬ vv'.ownBlock = some pp := (fun e => by have := HP.out.cv _ e; rw [HP.out.cp] at this; omega); have r4 := (f04.row ltp np4).trans hrp; have l4 := (f04.liv ltp np4).trans lp; have HF04 := Lib.hid f04; clear ho4 f4 hn4 f04)
        all_goals
          have n4 : vv'.ownBlock = some g' ∨ wr.heap.size ≤ g' := N4.out.elim (fun e => .inl (by rw [HVV.out]; exact e)) (fun e => .inr (by simp at e; omega))
          rw [← hv1]
          have h4 := HP.out.grow_vv (u, num, p0.tx) HO4.out HF04.out n4
          have f14 : Fr (fun k => k = pp ∨ vv'.ownBlock = some k) wr (w4.setRow pp #[.pointer (some ⟨m, 0, none⟩), S1.vl, .slice (some ⟨g', 0, none⟩) (S1.vs.length + k + 1) cap', S1.vo, S1.vk]) := (HF04.out.mono (fun _ _ e => .inr e)).setRow pp _ (fun _ => .inl rfl)
          have h4' : Play (w4.setRow pp #[.pointer (some ⟨m, 0, none⟩), S1.vl, .slice (some ⟨g', 0, none⟩) (S1.vs.length + k + 1) cap', S1.vo, S1.vk]) (clsG cls2 g' 9) pp m { S1 with vs := S1.vs ++ (p0.wr.take (k + 1)).map (fun x => (x, num, p0.tx)), vv := .slice (some ⟨g', 0, none⟩) (S1.vs.length + k + 1) cap' } := by
            rw [HTK.out, List.map_append, ← List.append_assoc]
            exact h4
          generalize w4.setRow pp #[.pointer (some ⟨m, 0, none⟩), S1.vl, .slice (some ⟨g', 0, none⟩) (S1.vs.length + k + 1) cap', S1.vo, S1.vk] = w5 at h4' f14 ⊢
          have HP4 := Lib.hid h4'
          have HF14 := Lib.hid f14
          clear h4 h4' f14
          go_wp2
          go_roundw
          case rel =>
            refine ⟨k + 1, clsG cls2 g' 9, .slice (some ⟨g', 0, none⟩) (S1.vs.length + k + 1) cap', by go_num, by have := HLT.out; omega, HP4.out, fun j hj => (clsG_old HP.out.cv n4 (Nat.lt_of_lt_of_le hj HFR.out.size)).trans (HAG.out j hj), fun j hj hjw => ?_, HFR.out.trans HF14.out (fun j hj e => ?_)⟩
            · injection hj with hj
              replace hj : g' = j := hj
              rcases n4 with e | e
              · exact HOW.out j (hj ▸ e) hjw
              · have := HFR.out.size; omega
            · rcases e with e | e
              · exact .inl e
              · exact .inr (.inr (.inr (HOW.out j e hj)))
          case measure => (have := HLT.out; simp only [intOf]; omega)
      · obtain rfl : k = p0.wr.length := by omega
        clear hP hag hfr
        go_wp2
        go_end0
        have e1 : (p0.wr.take p0.wr.length) = p0.wr := List.take_of_length_le (Nat.le_refl _)
        refine ⟨rfl, Lib.hid ⟨cls2, S1.vo, vv', HAG.out, HFR.out, ?_⟩⟩
        have h9 := HP.out
        rw [e1] at h9
        have he : ({ S1 with vs := S1.vs ++ p0.wr.map (fun x => (x, num, p0.tx)), vv := vv' } : PS) = { S with l := S.l.set n { p with over := true }, ord := S.ord ++ [p.tx], vs := S.vs ++ p.wr.map (fun x => (x, num, p.tx)), vo := S1.vo, vv := vv' } := by
          rw [HS1.out, HSE.out, HPE.out]
        rw [he] at h9
        exact h9
end
end Go.Proofs.YteldfmgjbgedaaaGreat
