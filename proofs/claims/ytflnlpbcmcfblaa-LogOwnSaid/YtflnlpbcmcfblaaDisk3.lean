/-
  Blocks, Off, Counts, Plan of a disk that was made; keystonelaw02.begun.
-/
import Derived.Test.YtflnlpbcmcfblaaWrite
namespace Go.Proofs.Ytflnlpbcmcfblaa
open Go.RowKit

section
variable (w : World) (p : DP) (S : DS) (h : DiskRep w p S)
include h

theorem none_rep : Calls Try.prog 64 #[.pointer (some ⟨p.d, 0, none⟩)] w fun e w' => e = .returned (.bool false) ∧ w = w' := by
  obtain ⟨cb, ct, hd, hx⟩ := h.ex
  exact none_any _ _ _ _ _ _ _ _ _ _ _ _ hd h.ok.n0

set_option maxHeartbeats 400000 in
theorem blocks_rep : Calls Try.prog 37 #[.pointer (some ⟨p.d, 0, none⟩)] w fun e w' => e = .returned (.int .i64 (S.data.length : Int)) ∧ w = w' := by
  obtain ⟨cb, ct, hd, hx⟩ := h.ex
  have H := Lib.hid h
  obtain ⟨r, l⟩ := hd
  clear h hx
  go_enter Try.func37, Try.ntmps37
  go_wp2_with (go_at_call 64; refine (none_rep _ _ _ H.out).mono ?_; rintro e w' ⟨rfl, rfl⟩)
  go_ret
  exact ⟨rfl, rfl⟩

set_option maxHeartbeats 400000 in
theorem off_rep : Calls Try.prog 24 #[.pointer (some ⟨p.d, 0, none⟩)] w fun e w' => e = .returned (.bool S.off) ∧ w = w' := by
  obtain ⟨cb, ct, hd, hx⟩ := h.ex
  have H := Lib.hid h
  obtain ⟨r, l⟩ := hd
  clear h hx
  go_enter Try.func24, Try.ntmps24
  go_wp2_with (go_at_call 64; refine (none_rep _ _ _ H.out).mono ?_; rintro e w' ⟨rfl, rfl⟩)
  go_ret
  exact ⟨rfl, rfl⟩

set_option maxHeartbeats 400000 in
theorem counts_rep : Calls Try.prog 42 #[.pointer (some ⟨p.d, 0, none⟩)] w fun e w' => e = .returned (.tuple #[.int .i64 S.wr, .int .i64 S.sy]) ∧ Fr (fun _ => False) w w' := by
  obtain ⟨cb, ct, hd, hx⟩ := h.ex
  have H := Lib.hid h
  obtain ⟨r, l⟩ := hd
  clear h hx
  go_enter Try.func42, Try.ntmps42
  go_wp2_with (go_at_call 64; refine (none_rep _ _ _ H.out).mono ?_; rintro e w' ⟨rfl, rfl⟩)
  go_quiet (fail)
  go_wp2
  go_ret2
  exact ⟨rfl, (Fr.refl _ _).drewN _⟩

theorem plan_rep (n : Int) (hn : n ≤ 9223372036854775807) : Calls Try.prog 32 #[.pointer (some ⟨p.d, 0, none⟩), .int .i64 n] w fun e w' => e = .returned (.int .i64 (S.plan n).1) ∧
    DiskRep w' p (S.plan n).2 ∧ Fr (· = p.d) w w' := by
  obtain ⟨cb, ct, hd, hx⟩ := h.ex
  cases ho : S.off with
  | true =>
    have e : S.plan n = (22, S) := by simp [DS.plan, ho]
    rw [ho] at hd
    rw [e]
    refine (plan_off _ _ _ _ _ _ _ _ _ _ _ hd h.ok.n0 n).mono ?_
    rintro e w' ⟨rfl, rfl⟩
    exact ⟨rfl, h, Fr.refl _ _⟩
  | false =>
    have e : S.plan n = (0, { S with pl := decide (0 ≤ n), left := if 0 ≤ n then n else 0 }) := by simp [DS.plan, ho]
    rw [ho] at hd
    rw [e]
    refine (plan_on _ _ _ _ _ _ _ _ _ _ _ hd h.ok.n0 n).mono ?_
    rintro e w' ⟨rfl, hd', f⟩
    refine ⟨rfl, ?_, f⟩
    have := h.upd f (fun e => h.n1 e.symm) (fun e => h.n2 e.symm) hd hd' (h.rp.keep f (fun k hk e => h.n4.1 (by rw [hk, e]))) h.n4 h.ok.pe (by split <;> omega) (by split <;> omega)
    rw [← ho] at this
    exact this
end

theorem ready0 {S : DS} (h : S.Ok) (ho : S.off = false) : S.ready 0 = 0 := by
  unfold DS.ready; rw [readyI_zero]; have := h.n0; exact ⟨ho, by omega, by omega⟩

theorem bytesAt_new (w : World) (n : Nat) : BytesAt (w.alloc (.cells (Array.replicate n (.int .u8 0)) 5)) (.slice (some ⟨w.heap.size, 0, none⟩) n n) (List.replicate n 0) := by
  refine ⟨_, n, by simp, .inr ⟨w.heap.size, 0, rfl, ?_, ?_⟩⟩
  · rw [rowOf_alloc_at _ _ _ _ _ rfl]; simp
  · rw [rowOf_alloc_at _ _ _ _ _ rfl]
    apply cut_ext (by simp [bvA_size]) (by simp)
    intro i hi
    simp only [List.length_replicate] at hi
    rw [bvA_get]
    simp [hi, bv]

set_option maxHeartbeats 400000 in
theorem begun2_any (w : World) : Calls Try.prog 18 #[] w fun e w' => e = .returned (.bool true) ∧ Fr (fun _ => False) w w' := by
  go_enter Try.func18, Try.ntmps18
  go_wp2_with fail
  show Calls _ _ #[.int .i64 ((1 : Nat) : Int)] _ _
  refine (new_ok _ 1 (by omega) (by omega)).mono ?_
  rintro e w1 ⟨p, rfl, hr, f1, hn⟩
  have H := Lib.hid hr
  have F := Lib.hid f1
  have N := Lib.hid hn
  have L := Lib.hid (show ((DS.new 1).data.length : Int) = 1 by simp [DS.new])
  clear hr f1 hn
  go_wp2_with fail
  refine (blocks_rep _ _ _ H.out).mono ?_
  rintro e w' ⟨rfl, rfl⟩
  rw [L.out]
  go_wp2_with fail
  have fa : Fr (fun _ => False) w1 (w1.alloc (.cells (Array.replicate 64 (.int .u8 0)) 5)) := (Fr.refl _ _).alloc _
  refine (write_any _ p (DS.new 1) (H.out.keep fa (fun _ _ hf => hf)) 0 _ _ (bytesAt_new w1 64) ?_ (by simp [DS.new])).mono ?_
  · intro k hk hf
    have := H.out.lt_foot hf
    simp [Value.ownBlock] at hk; omega
  rintro e w2 ⟨p', hp', he, hr', hm⟩
  have e0 : ((DS.new 1).write 0 (List.replicate 64 0)).1 = 0 := by rfl
  rw [e0] at he
  subst he
  have M := Lib.hid hm
  clear hr' hm hp' e0
  go_wp2
  go_ret
  refine ⟨rfl, ?_⟩
  exact F.out.trans ((fa.mono (fun _ _ hf => hf.elim)).trans M.out.fr (fun i _ hf => hf) : Fr p.foot w1 w2) (fun i hi hf => absurd (N.out i hf) (by omega))

end Go.Proofs.Ytflnlpbcmcfblaa
