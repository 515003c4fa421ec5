/-
  (*Disk).Image.
-/
import Derived.Test.YtflnlpbcmcfblaaApp2
namespace Go.Proofs.Ytflnlpbcmcfblaa
open Go.RowKit

/-- What a block looks like from outside: noughts, if it is torn. -/
def shown (t : Bool) (b : List UInt8) : List UInt8 := if t then zeros64 else b
def DS.chunks (S : DS) : List (List UInt8) := List.zipWith shown S.torn S.data
def DS.img (S : DS) : List UInt8 := S.chunks.flatten
/-- The places of the torn blocks among the first k. -/
def tornUpto (torn : List Bool) (k : Nat) : List Int := ((List.range k).filter (fun i => torn[i]?.getD false)).map (fun (i : Nat) => (i : Int))
def DS.tornL (S : DS) : List Int := tornUpto S.torn S.torn.length

theorem tornUpto_succ (t : List Bool) (k : Nat) : tornUpto t (k + 1) = if t[k]?.getD false then tornUpto t k ++ [(k : Int)] else tornUpto t k := by
  unfold tornUpto
  rw [List.range_succ, List.filter_append, List.map_append]
  by_cases h : t[k]?.getD false = true <;> simp [h]

theorem tornUpto_len (t : List Bool) (k : Nat) : (tornUpto t k).length ≤ k := by
  unfold tornUpto
  rw [List.length_map]
  have := List.length_filter_le (fun i => t[i]?.getD false) (List.range k)
  simpa using this

theorem DS.chunks_len {S : DS} (h : S.Ok) : S.chunks.length = S.data.length := by simp [DS.chunks, h.tl]
theorem DS.chunk_get {S : DS} (_h : S.Ok) (k : Nat) (h1 : k < S.torn.length) (h2 : k < S.data.length) (h3 : k < S.chunks.length) : S.chunks[k] = shown S.torn[k] S.data[k] := by simp [DS.chunks]
theorem DS.chunk64 {S : DS} (h : S.Ok) : ∀ c ∈ S.chunks, c.length = 64 := by
  intro c hc
  obtain ⟨i, hi, rfl⟩ := List.getElem_of_mem hc
  have h2 : i < S.data.length := by rw [← DS.chunks_len h]; exact hi
  rw [DS.chunk_get h i (by rw [h.tl]; exact h2) h2 hi]
  unfold shown
  split
  · simp [zeros64]
  · exact h.dl _ (List.getElem_mem h2)

theorem flat64 {l : List (List UInt8)} (h : ∀ c ∈ l, c.length = 64) : l.flatten.length = l.length * 64 := by
  induction l with
  | nil => rfl
  | cons a l ih =>
    have := ih (fun c hc => h c (List.mem_cons_of_mem _ hc))
    have := h a (List.mem_cons_self ..)
    simp only [List.flatten_cons, List.length_append, List.length_cons]; omega

/-- The image when k blocks are through. -/
def DS.imgRow (S : DS) (k : Nat) : List UInt8 := (S.chunks.take k).flatten ++ List.replicate ((S.data.length - k) * 64) 0

theorem DS.imgRow_zero (S : DS) : S.imgRow 0 = List.replicate (S.data.length * 64) 0 := by simp [DS.imgRow]
theorem DS.imgRow_end {S : DS} (h : S.Ok) : S.imgRow S.data.length = S.img := by
  unfold DS.imgRow DS.img
  rw [List.take_of_length_le (by rw [DS.chunks_len h]; exact Nat.le_refl _)]; simp
theorem DS.imgRow_len {S : DS} (h : S.Ok) (k : Nat) (hk : k ≤ S.data.length) : (S.imgRow k).length = S.data.length * 64 := by
  unfold DS.imgRow
  rw [List.length_append, flat64 (fun c hc => DS.chunk64 h c (List.mem_of_mem_take hc))]
  simp [DS.chunks_len h]; rw [Nat.min_eq_left hk, ← Nat.add_mul, Nat.add_sub_cancel' hk]

theorem DS.imgRow_torn {S : DS} (h : S.Ok) (k : Nat) (hk : k < S.data.length) (ht : S.torn[k]?.getD false = true) : S.imgRow (k + 1) = S.imgRow k := by
  have hk1 : k < S.torn.length := by rw [h.tl]; exact hk
  have hk2 : k < S.chunks.length := by rw [DS.chunks_len h]; exact hk
  unfold DS.imgRow
  rw [List.take_succ_eq_append_getElem hk2, DS.chunk_get h k hk1 hk hk2]
  rw [List.getElem?_eq_getElem hk1] at ht
  simp only [Option.getD_some] at ht
  rw [ht]
  simp only [shown, if_true, List.flatten_append, List.flatten_cons, List.flatten_nil, List.append_nil, List.append_assoc, zeros64]
  rw [List.replicate_append_replicate]
  congr 2
  omega

theorem bvA_blit (A B C : List UInt8) (b : List UInt8) (off : Nat) (ho : A.length = off) (hb : B.length = b.length) : blit (bvA (A ++ (B ++ C))) off (bvA b) = bvA (A ++ (b ++ C)) := by
  subst ho
  apply Array.ext'
  simp only [blit, bvA, List.size_toArray, List.length_map, List.map_append, List.append_assoc]
  rw [List.take_append_of_le_length (by simp), List.take_of_length_le (by simp), List.drop_append, List.drop_of_length_le (by simp)]
  simp only [List.length_map, Nat.add_sub_cancel_left, List.nil_append]
  rw [← hb, List.drop_append, List.drop_of_length_le (by simp)]
  simp

theorem DS.imgRow_blit {S : DS} (h : S.Ok) (k : Nat) (hk : k < S.data.length) (ht : S.torn[k]?.getD false = false) : blit (bvA (S.imgRow k)) (k * 64) (bvA S.data[k]) = bvA (S.imgRow (k + 1)) := by
  have hk1 : k < S.torn.length := by rw [h.tl]; exact hk
  have hk2 : k < S.chunks.length := by rw [DS.chunks_len h]; exact hk
  unfold DS.imgRow
  rw [List.take_succ_eq_append_getElem hk2, DS.chunk_get h k hk1 hk hk2]
  rw [List.getElem?_eq_getElem hk1] at ht
  simp only [Option.getD_some] at ht
  rw [ht]
  have hz : List.replicate ((S.data.length - k) * 64) (0 : UInt8) = List.replicate 64 0 ++ List.replicate ((S.data.length - (k + 1)) * 64) 0 := by
    rw [List.replicate_append_replicate]; congr 1; omega
  rw [hz]
  simp only [shown, List.flatten_append, List.flatten_cons, List.flatten_nil, List.append_nil, List.append_assoc, Bool.false_eq_true, if_false]
  refine bvA_blit _ _ _ _ _ ?_ (by rw [List.length_replicate, h.dl _ (List.getElem_mem hk)])
  rw [flat64 (fun c hc => DS.chunk64 h c (List.mem_of_mem_take hc))]
  simp [DS.chunks_len h]; rw [Nat.min_eq_left (Nat.le_of_lt hk)]

/-- Ints as rows of one cell. -/
def iRows (l : List Int) : List (Array Value) := l.map (fun x => #[.int .i64 x])
theorem iRows_len (l : List Int) : (iRows l).length = l.length := by simp [iRows]
theorem iRows_size (l : List Int) : ∀ y ∈ iRows l, y.size = 1 := by intro y hy; simp [iRows] at hy; obtain ⟨x, _, rfl⟩ := hy; rfl

theorem OwnRows.ints {w : World} {v : Value} {l : List Int} {base : Nat} (h : OwnRows w v 1 (iRows l) base) : IntsAt w v l := by
  rcases h with ⟨rfl, h⟩ | ⟨g, cap, rfl, h1, h2, ⟨h3, h3p⟩, h4, h5, h6⟩
  · have : l = [] := by simpa [iRows] using h
    subst this
    exact ⟨_, _, rfl, by simp, .inl rfl⟩
  · rw [iRows_len] at h3 ⊢
    refine ⟨_, _, rfl, by simp only [maxLen] at h4; omega, .inr ⟨g, 0, rfl, fun i hi => ?_⟩⟩
    have := h6 i (by rw [iRows_len]; exact hi)
    have h7 := cut_get (cur := rowOf w g) (off := i * 1) (n := 1) (by omega) 0 (by omega)
    rw [this] at h7
    simp [iRows] at h7
    rw [Nat.zero_add, ← h7]

set_option maxRecDepth 20000 in
set_option maxHeartbeats 2000000 in
theorem image_any (w : World) (p : DP) (S : DS) (h : DiskRep w p S) :
    Calls Try.prog 29 #[.pointer (some ⟨p.d, 0, none⟩)] w fun e w' => ∃ vi vt, e = .returned (.tuple #[vi, vt]) ∧ OwnBytes w' vi S.img w.heap.size ∧ OwnRows w' vt 1 (iRows S.tornL) w.heap.size ∧
      (∀ k, vi.ownBlock = some k → vt.ownBlock ≠ some k) ∧ Fr (fun _ => False) w w' := by
  obtain ⟨cb, ct, hd, hcb, hct, hsb, hst⟩ := h.ex
  have H := Lib.hid h
  have HD := Lib.hid hd
  obtain ⟨r, lv⟩ := hd
  have hld := live_lt lv
  have n0 := h.ok.n0
  have n1 := h.ok.n1
  have hm1 : (0 : Int) ≤ (S.data.length : Int) * 64 := by omega
  have hm2 : (S.data.length : Int) * 64 ≤ 140737488355328 := by omega
  have HSB := Lib.hid hsb
  have HCB := Lib.hid hcb
  clear h hst hct hsb hcb
  go_enter Try.func29, Try.ntmps29
  go_wp2_with (go_at_call 64; refine (none_rep _ _ _ H.out).mono ?_; rintro e w' ⟨rfl, rfl⟩)
  go_loopw [5, 22] (fun t i wr => ∃ (k : Nat) (vt : Value), k ≤ S.data.length ∧ i = .int .i64 k ∧ vt = t ∧ OwnRows wr vt 1 (iRows (tornUpto S.torn k)) w.heap.size ∧ vt.ownBlock ≠ some w.heap.size ∧
      live wr w.heap.size = true ∧ rowOf wr w.heap.size = bvA (S.imgRow k) ∧ Fr (fun _ => False) w wr) (fun _ i _ => S.data.length - (intOf i).toNat)
  case atStart =>
    refine ⟨0, _, Nat.zero_le _, rfl, rfl, ?_, by simp [Value.ownBlock], live_alloc_at _ _ _ _ rfl, ?_, (Fr.refl _ _).alloc _⟩
    · exact OwnRows.nil _ _ _
    · rw [rowOf_alloc_at _ _ _ _ _ rfl, DS.imgRow_zero]; simp [bvA, bv]
  case round =>
    obtain ⟨k, vt, hk, rfl, rfl, ho, hne, hli, hri, hf⟩ := hrel
    have HF := Lib.hid hf
    have HO := Lib.hid ho
    have HR := Lib.hid (H.out.keep hf (fun _ _ h => h))
    have HNE := Lib.hid hne
    by_cases hlt : k < S.data.length
    · have hrep := HR.out
      have hcell := hrep.rb k hlt
      have hlb := hrep.lb
      have hlt1 : k < S.torn.length := by rw [H.out.ok.tl]; exact hlt
      have htc := hrep.rt k hlt1
      have hsz : k * 64 + 64 ≤ (rowOf wr p.gb).size := by rw [hf.row (live_lt H.out.lb) (fun h => h), HSB.out]; have := Nat.mul_le_mul_right 64 (Nat.le_trans hlt HCB.out); omega
      have b64 : S.data[k].length = 64 := H.out.ok.dl _ (List.getElem_mem hlt)
      obtain ⟨b, hb⟩ : ∃ b, S.data[k] = b := ⟨_, rfl⟩
      rw [hb] at hcell b64
      have hd2 := (HD.out.keep hf (fun h => h))
      obtain ⟨r2, lv2⟩ := hd2
      have hdw := live_lt lv2
      have hbw := live_lt hlb
      have htw := live_lt hrep.lt
      have hiw := live_lt hli
      have s64 : (bvA b).size = 64 := by rw [bvA_size, b64]
      have o64 : ones (bvA b) := bvA_ones b
      have hki : (k : Int) < (S.data.length : Int) := by omega
      have hkn : ¬ (S.data.length * 64 = k * 64) := by omega
      have hk64 : 64 ≤ S.data.length * 64 - k * 64 := by omega
      have hrs : (rowOf wr w.heap.size).size = S.data.length * 64 := by rw [hri, bvA_size, DS.imgRow_len H.out.ok k hk]
      have hk2 : k * 64 + 64 ≤ (rowOf wr w.heap.size).size := by rw [hrs]; omega
      have hk3 : k * 64 ≤ S.data.length * 64 := by omega
      have HRI := Lib.hid hri
      have HRS := Lib.hid hrs
      have HB := Lib.hid hb
      have Htk := Lib.hid (List.getElem?_eq_getElem hlt1)
      have HTS := Lib.hid (tornUpto_succ S.torn k)
      clear hb hri hf ho hrep r lv hrs
      cases ht : S.torn[k] with
      | true =>
        rw [ht] at htc
        have HT := Lib.hid ht
        clear ht
        have hlen : (iRows (tornUpto S.torn k)).length ≤ 16384 := by rw [iRows_len]; have := tornUpto_len S.torn k; omega
        have fa : Fr (fun _ => False) wr ((wr.alloc (.cells (bvA b) 110)).alloc (.cells #[.int .i64 (k : Int)] 3)) := ((Fr.refl _ _).alloc _).alloc _
        have hsz0 := HF.out.size
        have HOA := Lib.hid (HO.out.keep fa (fun _ _ h => h))
        have FA := Lib.hid fa
        have HL := Lib.hid hlen
        clear fa hlen
        go_wp2_with (at_builtin; refine wpList_append_one rfl (.tmp 34) (.tmp 36) 23 rfl 3 _ 1 8 Try.underlying23 ti3 vt _ w.heap.size rfl HOA.out (by simp; omega) (wr.heap.size + 1) 1 rfl #[.int .i64 (k : Int)] (by simp [go_sem]) (by simp [go_sem]) (by intro y hy; simp at hy; subst hy; rfl) (iRows_size _) (by have := HL.out; simp only [maxLen]; omega) (fitsN (by have := HL.out; omega) (by omega)) ?_; intro g' cap' w3 ho3 f3 hn3; have HO3 := Lib.hid ho3; have F3 := Lib.hid f3; have N3 := Lib.hid hn3; clear ho3 f3 hn3)
        go_roundw
        case rel =>
          have F4 : Fr (fun i => vt.ownBlock = some i) wr w3 := (FA.out.mono (fun _ _ h => h.elim)).trans F3.out (fun _ _ h => h)
          have hng : g' ≠ w.heap.size := by
            rcases N3.out with e | e
            · exact fun e2 => HNE.out (e2 ▸ e)
            · have : wr.heap.size + 1 + 1 ≤ g' := by simpa using e
              omega
          refine ⟨k + 1, _, by omega, by go_num, rfl, ?_, by simpa [Value.ownBlock] using hng, ?_, ?_, ?_⟩
          · have e : iRows (tornUpto S.torn (k + 1)) = iRows (tornUpto S.torn k) ++ [#[.int .i64 (k : Int)]] := by
              rw [HTS.out, Htk.out, HT.out]; simp [iRows]
            rw [e]; exact HO3.out
          · rw [F4.liv hiw HNE.out]; exact hli
          · rw [F4.row hiw HNE.out, HRI.out, DS.imgRow_torn H.out.ok k hlt (by rw [Htk.out, HT.out]; rfl)]
          · exact HF.out.trans F4 (fun i hi e => by have := (HO.out.lt e).1; omega)
        case measure => simp [intOf]; omega
      | false =>
        rw [ht] at htc
        have HT := Lib.hid ht
        clear ht
        go_wp2
        go_region
        go_wp2
        go_roundw
        case rel =>
          have fr1 : Fr (fun i => i = w.heap.size) wr (((wr.alloc (.cells (bvA b) 110)).setRow w.heap.size (blit (rowOf wr w.heap.size) (k * 64) (bvA b))).drew) := (((Fr.refl (fun i => i = w.heap.size) wr).alloc _).setRow _ _ (fun _ => rfl)).drew
          have la : live (wr.alloc (.cells (bvA b) 110)) w.heap.size = true := by rw [live_alloc_lt _ _ _ hiw]; exact hli
          refine ⟨k + 1, vt, by omega, by go_num, rfl, ?_, HNE.out, ?_, ?_, HF.out.trans fr1 (fun i hi e => by omega)⟩
          · have e : tornUpto S.torn (k + 1) = tornUpto S.torn k := by rw [HTS.out, Htk.out, HT.out]; rfl
            rw [e]; exact HO.out.keep fr1 (fun j hj e => HNE.out (by rw [hj, e]))
          · rw [live_drew, live_setRow]; exact la
          · rw [rowOf_drew, rowOf_setRow_same _ _ _ la, HRI.out, ← HB.out, DS.imgRow_blit H.out.ok k hlt (by rw [Htk.out, HT.out]; rfl)]
        case measure => simp [intOf]; omega
    · obtain rfl : k = S.data.length := by omega
      have HRI := Lib.hid hri
      clear hri ho hf r lv
      go_wp2
      go_ret2
      have eT : tornUpto S.torn S.data.length = S.tornL := by rw [← H.out.ok.tl]; rfl
      refine ⟨_, vt, rfl, ⟨w.heap.size, [], ?_, Nat.le_refl _, hli, ?_, ?_⟩, by rw [← eT]; exact HO.out, ?_, HF.out⟩
      · rw [← DS.imgRow_end H.out.ok, DS.imgRow_len H.out.ok _ (Nat.le_refl _)]; rfl
      · rw [← DS.imgRow_end H.out.ok, DS.imgRow_len H.out.ok _ (Nat.le_refl _)]; simp only [maxLen, List.length_nil]; omega
      · rw [List.append_nil, HRI.out, DS.imgRow_end H.out.ok]
      · intro j hj
        have hj2 : some w.heap.size = some j := hj
        cases hj2
        exact HNE.out

end Go.Proofs.Ytflnlpbcmcfblaa
