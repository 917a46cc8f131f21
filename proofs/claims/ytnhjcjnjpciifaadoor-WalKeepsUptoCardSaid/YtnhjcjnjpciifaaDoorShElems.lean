/- Stores into elements of several cells; some parts of many. -/
import Derived.Test.YtnhjcjnjpciifaaDoorShMapsR
namespace Go.Sh
variable {P : Program}
section
variable {w0 w : World} {F : List Nat} {L : List Own}
/-- A store into a cell of a slice that is owned. -/
theorem wSTc {E sz n m p b : Nat} {v : Value} {cs : List Value} {K : World → Prop} {M : List Own} (H : St w0 F w L)
    (hu : Upd (sliceO E sz (.slice (some ⟨b, 0, none⟩) n m) cs) (sliceO E sz (.slice (some ⟨b, 0, none⟩) n m) (cs.set p v)) L M := by repeat (first | exact .here _ | apply Upd.there))
    (hi : p < cs.length) (hK : ∀ w', St w0 F w' M → K w') : ST w ⟨b, p, none⟩ v K := by
  obtain ⟨q, hq, rfl⟩ := hu.idx
  obtain ⟨_, _, _, he, h1, h2, h3⟩ := (H.get hq : SliceAt w E sz (.slice (some ⟨b, 0, none⟩) n m) cs)
  cases he
  have hle : n * sz ≤ m * sz := Nat.mul_le_mul_right _ h2
  rcases h3 with h3 | ⟨b', cc, fz', he2, hblk, hcs, hcells, hfz⟩
  · subst h3
    have : n = 0 := by omega
    subst this
    simp at h1
    omega
  have hbb : b' = b := by
    have := Option.some.inj he2
    exact (Addr.mk.inj this).1.symm
  subst hbb
  have hic : p < cc.size := by omega
  refine ⟨⟨cc[p], by rw [cell_blk hblk]; simp [hic]⟩, by rw [frozen_blk hblk]; exact fzok_get hfz (by omega), ?_⟩
  rw [setCell_blk hblk]
  refine hK _ (St.perm ?_ (perm_set _ hq))
  have hm : m ≠ 0 := fun h => by subst h; simp at hle; omega
  obtain ⟨k, rfl⟩ : ∃ k, m = k + 1 := ⟨m - 1, by omega⟩
  refine St.step (A := [sliceO E sz (.slice (some ⟨b', 0, none⟩) n (k + 1)) cs]) (A' := [sliceO E sz (.slice (some ⟨b', 0, none⟩) n (k + 1)) (cs.set p v)]) (H.perm (perm_front hq)) (by simpa [sliceO, sfp] using Fr.setBlk w b' _) ?_ (fun b hb => .inl hb)
  have hat : SliceAt (Sh.setBlk w b' (.cells (cc.setIfInBounds p v) E fz')) E sz (.slice (some ⟨b', 0, none⟩) n (k + 1)) (cs.set p v) := by
    refine ⟨_, _, _, rfl, by simpa using h1, h2, .inr ⟨b', _, fz', rfl, heap_setBlk_same (blk_lt hblk), by simpa using hcs, fun j hj => ?_, hfz⟩⟩
    rw [List.length_set] at hj
    rw [Array.getElem?_setIfInBounds, List.getElem?_set]
    by_cases hij : p = j
    · subst hij; simp [hic, hi]
    · rw [if_neg hij, if_neg hij]; exact hcells j hj
  exact Has.cons (o := sliceO E sz (.slice (some ⟨b', 0, none⟩) n (k + 1)) (cs.set p v)) hat (sfp_nodup (.slice (some ⟨b', 0, none⟩) n (k + 1))) hat.lt (by simp) (.nil _)
/-- Only some of many parts. -/
theorem St.some' {M N N' : List Own} (H : St w0 F w (starO M :: L)) (h : M.Perm (N ++ N')) : St w0 F w (starO N :: L) := by
  have h1 : St w0 F w (N ++ N' ++ L) := H.open.perm (h.append_right L)
  have h2 : St w0 F w (N' ++ (N ++ L)) := by
    rw [List.append_assoc] at h1
    refine h1.perm ?_
    rw [← List.append_assoc, ← List.append_assoc]
    exact List.perm_append_comm.append_right L
  exact (h2.right).close
end
theorem flat_set3 {α : Type} {f : α → List Value} {x : α} {c0 c1 c2 : Value} (hk : ∀ x, (f x).length = 3) (hx : f x = [c0, c1, c2]) : ∀ (l : List α) (i : Nat), i < l.length →
    (((l.flatMap f).set (i * 3) c0).set (i * 3 + 1) c1).set (i * 3 + 2) c2 = (l.set i x).flatMap f
  | [], i, h => by simp at h
  | a :: t, 0, _ => by
    have h3 := hk a
    match ha : f a, h3 with
    | [a0, a1, a2], _ => simp [ha, hx]
  | a :: t, i + 1, h => by
    have h3 := hk a
    have ih := flat_set3 hk hx t i (by simpa using h)
    match ha : f a, h3 with
    | [a0, a1, a2], _ =>
      have e0 : (i + 1) * 3 = i * 3 + 1 + 1 + 1 := by omega
      rw [List.flatMap_cons, ha, e0, List.set_cons_succ, List.flatMap_cons, ha, ← ih]
      rfl
end Go.Sh
