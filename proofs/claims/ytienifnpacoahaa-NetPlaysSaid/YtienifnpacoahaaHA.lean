/- The net: what its types are, and the first of its functions. -/
import Derived.Test.YtienifnpacoahaaShNet
import Derived.Test.YtienifnpacoahaaShWalk
namespace Go.Proofs.Ytienifnpacoahaa
open Go.Sh

theorem elem_bytes : ElemTy Try.prog 22 5 1 1 := elemTy_of (by kernel_rfl) (by kernel_rfl)
theorem elem_rows : ElemTy Try.prog 53 22 1 24 := elemTy_of (by kernel_rfl) (by kernel_rfl)

theorem Clone_spec {w : World} {v : Option Addr} {n c : Nat} {bs : List UInt8} (hv : Reads w 1 (.slice v n c) (bvals bs)) (hn : bs.length ≤ 1000000) :
    CallS Try.prog fn_slices_Clone_s_byte_byte #[.slice v n c] w [] fun r _ A => A = [sliceO 5 1 r (bvals bs)] ∧ ∃ a m c', r = .slice a m c' := by
  refine CallS_intro (.nil w) fun H => slices_Clone_s_byte_byte_sound _ _ _ _ _ ?_
  refine br (fun h => ?_) (fun h => ?_)
  · have hb : bs = [] := by
      obtain ⟨a, len, cap, he, h1, h2, h3⟩ := hv
      cases he
      rcases h3 with rfl | ⟨ad, rfl, _⟩
      · simp at h1; exact List.eq_nil_of_length_eq_zero h1.symm
      · cases h
    subst hb
    exact ⟨_, ⟨rfl, _, _, _, rfl⟩, H.nothing 5 1 none⟩
  · refine wAL H fun b w1 H => ?_
    have hv1 : Reads w1 1 (.slice v n c) (bvals bs) := hv.of fun b hb => H.fr.block b (hv.lt (by decide) b hb) (by simp)
    obtain ⟨m, hm, hs⟩ := hv1.src (P := Try.prog) (tx := 22) elem_bytes.under (bvals_one bs)
    have H := (H.tail).nothing 5 1 (some ⟨b, 0, none⟩)
    refine append_own (t := 22) (n := m) elem_bytes (i := 0) H rfl hs (by simp; omega) (by decide) fun v' w' H hf hp => ?_
    obtain ⟨a, len, cap, rfl, _⟩ := (H.get (i := 0) rfl : SliceAt _ _ _ _ _)
    exact ⟨_, ⟨by simp, _, _, _, rfl⟩, H⟩

theorem zero_row : (Try.prog.info? 22).bind (·.zero) = some (.slice none 0 0) := by kernel_rfl
theorem Delete_spec {w : World} {v : Option Addr} {n c i : Nat} {cs : List Value} (hi : i < cs.length) (hn : cs.length ≤ 1000000) (hA : Has w [sliceO 22 1 (.slice v n c) cs]) (h1 : ∀ u ∈ cs, u.oneCell' = true) :
    CallS Try.prog fn_slices_Delete_s_s_byte_s_byte #[.slice v n c, .int .i64 i, .int .i64 (i + 1)] w [sliceO 22 1 (.slice v n c) cs] fun r _ A =>
      A = [sliceO 22 1 r (cs.eraseIdx i)] ∧ ∃ a m c', r = .slice a m c' := by
  refine CallS_intro hA fun H => slices_Delete_s_s_byte_s_byte_sound _ _ _ _ _ _ _ ?_
  obtain ⟨_, _, _, he, hlen, hcap, h3⟩ := (H.get (i := 0) rfl : SliceAt w 22 1 (.slice v n c) cs)
  cases he
  rcases h3 with h3 | ⟨b, cc, fz, rfl, hblk, hcs, hcells, hfz⟩
  · omega
  refine rRun_intro (sliceAt_run elem_rows (m := n) (h := i + 1) (l := i) ⟨rfl, hcap⟩ ⟨rfl, by omega⟩ (fun _ => rfl) ⟨rfl, by omega⟩) ?_
  refine mSlice_mk ?_
  refine br (fun h => ?_) (fun _ => ?_)
  · simp at h; omega
  refine wLW H fun w1 H => ?_
  refine rRun_intro (sliceAt_run elem_rows (m := c) (h := i) (l := 0) rfl ⟨rfl, by omega⟩ (fun h => by cases h) rfl) ?_
  refine mSlice_mk ⟨rfl, ?_⟩
  refine rRun_intro (sliceAt_run elem_rows (m := c) (h := n) (l := i + 1) rfl rfl (fun h => by cases h) ⟨rfl, by omega⟩) ?_
  refine mSlice_mk ⟨rfl, ?_⟩
  have hr : Reads w1 1 (.slice (some ⟨b, 0, none⟩) n c) cs := (H.get (i := 0) rfl : SliceAt w1 22 1 (.slice (some ⟨b, 0, none⟩) n c) cs).reads
  have hr2 := hr.sub (l := i + 1) (h := n) (m := c) (by omega) (Nat.le_refl _) hcap
  have hd : (cs.drop ((i + 1) * 1)).take ((n - (i + 1)) * 1) = cs.drop (i + 1) := by
    rw [Nat.mul_one, Nat.mul_one, List.take_of_length_le (by rw [List.length_drop]; omega)]
  rw [hd] at hr2
  obtain ⟨m, hm, hs⟩ := hr2.src (P := Try.prog) (tx := 53) elem_rows.under (fun u hu => h1 u (List.mem_of_mem_drop hu))
  have H := H.head (i := 0) (m := i) rfl (by omega)
  have hv1 : (if c = 0 then (some ⟨b, 0, none⟩ : Option Addr) else (some ⟨b, 0, none⟩ : Option Addr).map (·.add (0 * 1))) = some ⟨b, 0, none⟩ := by split <;> rfl
  rw [hv1]
  rw [List.length_drop] at hm
  refine append_own (t := 53) (n := m) elem_rows (i := 0) H rfl hs (by simp; omega) (by decide) fun v' w2 H hf hp => ?_
  obtain rfl := hp _ _ _ rfl (by omega)
  refine mSlice_mk ?_
  refine rRun_intro (sliceAt_run elem_rows (m := c) (h := n) (l := i + m) rfl ⟨rfl, hcap⟩ (fun h => by cases h) ⟨rfl, by omega⟩) ?_
  refine mSlice_mk ?_
  refine clear_own (i := 0) elem_rows.under zero_row rfl rfl H rfl (by omega) ?_ fun w3 H hf => ?_
  · by_cases hc : c = i + m
    · exact .inl (by omega)
    · exact .inr (by rw [if_neg hc, Nat.mul_one]; rfl)
  · refine mTup_mk (mNil_mk ⟨_, ⟨?_, _, _, _, rfl⟩, H⟩)
    rw [List.eraseIdx_eq_take_drop_succ, Nat.mul_one]
    rfl
end Go.Proofs.Ytienifnpacoahaa
