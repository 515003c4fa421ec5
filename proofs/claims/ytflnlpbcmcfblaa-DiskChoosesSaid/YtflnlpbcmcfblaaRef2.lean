/-
  The reference of package disk: lay, tear.
-/
import Derived.Test.YtflnlpbcmcfblaaRef
namespace Go.Proofs.Ytflnlpbcmcfblaa
open Go.RowKit

theorem zip_set {α β γ : Type} (g : α → β → γ) (a : List α) (b : List β) (n : Nat) (x : α) (y : β) : List.zipWith g (a.set n x) (b.set n y) = (List.zipWith g a b).set n (g x y) := by
  apply List.ext_getElem
  · simp
  · intro i h1 h2
    simp only [List.getElem_zipWith, List.getElem_set]
    by_cases e : n = i <;> simp [e]

theorem chunks_lay (S : DS) (n : Nat) (b : List UInt8) : (S.lay (n, b)).chunks = S.chunks.set n b := by
  unfold DS.chunks DS.lay
  rw [zip_set]; rfl
theorem chunks_tear {S : DS} (n : Nat) (hn : n < S.data.length) : ({ S with torn := S.torn.set n true } : DS).chunks = S.chunks.set n zeros64 := by
  unfold DS.chunks
  have := zip_set shown S.torn S.data n true S.data[n]
  rw [List.set_getElem_self hn] at this
  rw [this]; rfl

/-- One block written anew. -/
theorem RRep.put {w w' : World} {f : Nat → Prop} {r gd gt : Nat} {S S' : DS} (h : RRep w f r gd gt S) {n : Nat} {t : Bool} {c : List UInt8} {u : Value} (hok : S'.Ok)
    (ho : S'.off = S.off) (hl : refLeft S' = refLeft S) (hw : S'.wr = S.wr) (hs : S'.sy = S.sy) (hp : S'.pend = S.pend) (hdl : S'.data.length = S.data.length) (hch : S'.chunks = S.chunks.set n c) (htn : S'.torn = S.torn.set n t)
    (hu : OwnBytes w' u c w.heap.size) (rd : rowOf w' gd = (rowOf w gd).setIfInBounds n u) (rt : rowOf w' gt = (rowOf w gt).setIfInBounds n (.bool t)) (hf : Fr (fun k => k = gd ∨ k = gt) w w') (ld : live w' gd = true) (lt : live w' gt = true) :
    RRep w' (fun k => f k ∨ (w.heap.size ≤ k ∧ k < w'.heap.size)) r gd gt S' := by
  obtain ⟨cd, ct, wv, e1, e2⟩ := h.ex
  have hnr : ¬ (r = gd ∨ r = gt) := fun e => e.elim h.n1 h.n2
  have lr := live_lt h.lr
  have lgd := live_lt h.ld
  have lgt := live_lt h.lt
  refine ⟨hok, ⟨cd, ct, wv, by rw [hf.row lr hnr, ho, hl, hw, hs, hdl]; exact e1, ?_⟩, by rw [hf.liv lr hnr]; exact h.lr, ld, lt, fun i hi => ?_, fun i hi => ?_, .inl h.fr, .inl h.fd, .inl h.ft, h.n1, h.n2, h.n3, fun k hk => ?_⟩
  · rw [hp]; exact e2.keep hf (fun k _ _ h2 h3 e => e.elim h2 h3) (fun _ h => .inl h)
  · simp only [hch, List.length_set] at hi ⊢
    obtain ⟨v, a1, a2, a3⟩ := h.data i hi
    rw [rd, setIf_get a1]
    by_cases e : n = i
    · subst e
      refine ⟨u, by simp, by simpa using hu.weaken (Nat.zero_le _), fun k hk => ?_⟩
      have := hu.lt hk
      exact ⟨.inr this, by omega, by omega, by omega⟩
    · refine ⟨v, by simp [e], ?_, a3.mono (fun _ h => .inl h)⟩
      rw [List.getElem_set_ne e]
      exact a2.keep hf (fun k hk e => e.elim (a3 k hk).2.2.1 (a3 k hk).2.2.2)
  · simp only [htn, List.length_set] at hi ⊢
    rw [rt, setIf_get (h.torn i hi), List.getElem_set]
    by_cases e : n = i <;> simp [e]
  · rcases hk with hk | hk
    · exact Nat.lt_of_lt_of_le (h.lt' k hk) hf.size
    · exact hk.2

theorem put_moves {w w' : World} {f : Nat → Prop} {gd gt : Nat} (hd : f gd) (ht : f gt) (hf : Fr (fun k => k = gd ∨ k = gt) w w') : Moves f (fun k => f k ∨ (w.heap.size ≤ k ∧ k < w'.heap.size)) w w' :=
  ⟨hf.mono (fun k _ e => by rcases e with rfl | rfl <;> assumption), fun k hk => hk.imp id (fun h => h.1)⟩

theorem lay_ok {S : DS} (h : S.Ok) {n : Nat} {b : List UInt8} (hb : b.length = 64) : (S.lay (n, b)).Ok := by
  refine ⟨by simpa [DS.lay] using h.n0, by simpa [DS.lay] using h.n1, by simp [DS.lay, h.tl], fun x hx => ?_, by simpa [DS.lay] using h.pe, h.l0, h.l1⟩
  rcases List.mem_or_eq_of_mem_set hx with hx | rfl
  · exact h.dl x hx
  · exact hb

set_option maxRecDepth 20000 in
set_option maxHeartbeats 2000000 in
theorem rlay_any (w : World) (f : Nat → Prop) (r gd gt : Nat) (S : DS) (h : RRep w f r gd gt S) (n : Nat) (b : List UInt8) (hn : n < S.data.length) (hb : b.length = 64) (vd : Value) (hv : BytesAt w vd b) (hsep : ∀ k, vd.ownBlock = some k → k ≠ gd ∧ k ≠ gt) :
    Calls Try.prog 69 #[.pointer (some ⟨r, 0, none⟩), .agg #[.int .i64 n, vd]] w fun e w' => e = .returned (.tuple #[]) ∧ ∃ f', RRep w' f' r gd gt (S.lay (n, b)) ∧ Moves f f' w w' := by
  have H := Lib.hid h
  have HV := Lib.hid hv
  have HB := Lib.hid hb
  obtain ⟨cd, ct, wv, hr, -⟩ := h.ex
  have hlr := h.lr
  have hlt := h.lt
  have hld := h.ld
  have lr := live_lt hlr
  have lt := live_lt hlt
  have ld := live_lt hld
  have n1 := h.n1
  have n2 := h.n2
  have n3 := h.n3
  have htn : n < S.torn.length := by rw [h.ok.tl]; exact hn
  have ct0 := h.torn n htn
  obtain ⟨u0, cd0, -⟩ := h.data n (by rw [DS.chunks_len h.ok]; exact hn)
  obtain ⟨a, cp, rfl, -⟩ := hv
  rw [hb] at HV ⊢
  have hni : (n : Int) < (S.data.length : Int) := by omega
  have n1' : gd ≠ r := fun e => n1 e.symm
  have n2' : gt ≠ r := fun e => n2 e.symm
  have n3' : gt ≠ gd := fun e => n3 e.symm
  have HS := Lib.hid hsep
  clear h hb hsep
  go_enter Try.func69, Try.ntmps69
  go_wp2
  go_region
  go_wp2
  obtain ⟨W1, hW1⟩ : ∃ W1, ((w.alloc (Obj.cells #[Value.int IntKind.i64 ↑n, Value.slice a 64 cp] 44)).setRow gt ((rowOf w gt).setIfInBounds n (Value.bool false))).drew = W1 := ⟨_, rfl⟩
  have F1 := Lib.hid (show Fr (fun k => k = gt) w W1 by rw [← hW1]; exact (((Fr.refl (fun k => k = gt) w).alloc _).setRow _ _ (fun _ => rfl)).drew)
  have b1 : rowOf W1 w.heap.size = #[.int .i64 n, .slice a 64 cp] ∧ live W1 w.heap.size = true := by rw [← hW1]; have : w.heap.size ≠ gt := by omega
                                                                                                     simp [go_sem, this]
  have T1 := Lib.hid (show rowOf W1 gt = (rowOf w gt).setIfInBounds n (.bool false) ∧ live W1 gt = true by rw [← hW1]; simp [go_sem, lt, hlt])
  have sz1 : W1.heap.size = w.heap.size + 1 := by rw [← hW1]; simp
  rw [hW1]
  clear hW1 ct0 hlt
  obtain ⟨b1, b1l⟩ := b1
  have r1 := (F1.out.row lr n2).trans hr
  have l1 := (F1.out.liv ld n3).trans hld
  have c1 : (rowOf W1 gd)[n]? = some u0 := by rw [F1.out.row ld n3]; exact cd0
  have B1 := Lib.hid (HV.out.keep F1.out (fun k hk e => (HS.out k (by rw [HB.out]; exact hk)).2 e))
  clear hr hlr hld cd0
  go_region_law (first | fail | (go_simp; go_at_call 68; refine (copied_any _ (.slice a 64 cp) b (B1.out.later (by first | exact Fr.refl _ _ | exact (Fr.refl _ _).drew | exact (Fr.refl _ _).drewN _)) (by simp [HB.out])).mono ?_; rintro e w3 ⟨v3, rfl, o3, f3⟩; have O3 := Lib.hid o3; have F3 := Lib.hid (show Fr (fun _ => False) W1 w3 from ⟨f3.os, f3.tape, f3.output, f3.size, f3.block⟩); obtain ⟨a3, c3, rfl⟩ := o3.shape; have r3 := (F3.out.row (by omega) (fun h => h)).trans r1; have l3 := (F3.out.liv (by omega) (fun h => h)).trans l1; have b3 := (F3.out.row (by omega) (fun h => h)).trans b1; have c3' : (rowOf w3 gd)[n]? = some u0 := (congrArg (fun x : Array Value => x[n]?) (F3.out.row (by omega) (fun h => h))).trans c1; clear o3 f3))
  all_goals
    go_end0
    have hd3 : live w3 gd = true := l3
    have FW : Fr (fun k => k = gd ∨ k = gt) w (w3.setRow gd ((rowOf w3 gd).setIfInBounds n (Value.slice a3 b.length c3))) :=
      ((F1.out.mono (fun _ _ h => .inr h)).trans F3.out (fun _ _ h => h.elim)).setRow _ _ (fun _ => .inl rfl)
    have hg3 : w.heap.size ≤ W1.heap.size := by omega
    have OB := O3.out.own (by simp [HB.out])
    have hu : OwnBytes (w3.setRow gd ((rowOf w3 gd).setIfInBounds n (Value.slice a3 b.length c3))) (.slice a3 b.length c3) b w.heap.size :=
      (OB.keep ((Fr.refl (fun k => k = gd) w3).setRow _ _ (fun _ => rfl)) (fun k hk e => by have hkk : W1.heap.size ≤ k := (OB.lt hk).1; omega)).weaken hg3
    refine ⟨rfl, _, H.out.put (t := false) (lay_ok H.out.ok HB.out) rfl rfl rfl rfl rfl (by simp [DS.lay]) (chunks_lay S n b) rfl hu ?_ ?_ FW ?_ ?_, put_moves H.out.fd H.out.ft FW⟩
    · rw [rowOf_setRow_same _ _ _ l3, F3.out.row (by omega) (fun h => h), F1.out.row ld n3]
    · rw [rowOf_setRow_ne _ _ _ _ n3', F3.out.row (by omega) (fun h => h), T1.out.1]
    · rw [live_setRow]; exact l3
    · rw [live_setRow, F3.out.liv (by omega) (fun h => h)]; exact T1.out.2

end Go.Proofs.Ytflnlpbcmcfblaa
