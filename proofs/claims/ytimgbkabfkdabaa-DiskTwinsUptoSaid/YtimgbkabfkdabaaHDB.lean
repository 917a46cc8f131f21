/- What each act makes of the files, in memory and as a list. -/
import Derived.Test.YtimgbkabfkdabaaHDA
namespace Go.Proofs.Ytimgbkabfkdabaa
open Go.Sh

theorem look_del {l : Files} {k s : ByteArray} (h : (keysOf l).Nodup) : look (adel l k) s = if s = k then none else look l s := by
  split
  · rename_i e; subst e
    unfold look
    rw [aget_adel_self h]; rfl
  · rename_i e
    unfold look
    rw [aget_adel_ne e]
def WhA (A : List AF) : Prop := ∀ x ∈ A, x.2.2 ≤ x.2.1.length
theorem WhA.get {A : List AF} (h : WhA A) (hs : Srt A) {s : ByteArray} {x : List UInt8 × Nat} (hx : aget A s = some x) : x.2 ≤ x.1.length := h (s, x) ((mem_iff_aget hs.nodup (s, x)).2 hx)
theorem Rep.whole {l : Files} {A : List AF} (h : Rep l A) (hw : WhA A) : Proofs.Ytimgbkabfkdabaa.whole l := whole_of fun s x hx => by
  rw [h.look] at hx
  exact hw.get h.srt hx
theorem WhA.ins {A : List AF} (h : WhA A) {s : ByteArray} {x : List UInt8 × Nat} (hx : x.2 ≤ x.1.length) : WhA (insA s x A) := fun y hy => by
  rcases insA_mem hy with rfl | hy
  · exact hx
  · exact h y hy
theorem WhA.del {A : List AF} (h : WhA A) (s : ByteArray) : WhA (adel A s) := fun y hy => h y ((adel_sublist A s).subset hy)
theorem WhA.dels {ns : List ByteArray} : ∀ {A : List AF}, WhA A → WhA (ns.foldl adel A) := by
  induction ns with
  | nil => exact id
  | cons s t ih => exact fun h => ih (h.del s)
theorem WhA.sync {A : List AF} (h : WhA A) (s : ByteArray) : WhA (syncA A s) := by
  unfold syncA
  split
  · exact h.ins (Nat.le_refl _)
  · exact h
theorem WhA.syncs {ns : List ByteArray} : ∀ {A : List AF}, WhA A → WhA (ns.foldl syncA A) := by
  induction ns with
  | nil => exact id
  | cons s t ih => exact fun h => ih (h.sync s)
theorem crashF_len (p : Option Int) (x : List UInt8 × Nat) (h : x.2 ≤ x.1.length) : (crashF p x).1.length = (crashF p x).2 ∧ (crashF p x).2 ≤ x.1.length ∧ x.2 ≤ (crashF p x).2 := by
  have h1 := pickK_le p (x.1.length - x.2)
  unfold crashF
  simp only [List.length_take]
  omega
theorem WhA.crash {A : List AF} (h : WhA A) (picks : List Int) : WhA (crashA picks A) := fun y hy => by
  obtain ⟨i, hi⟩ := List.getElem?_of_mem hy
  rw [crash_get] at hi
  obtain ⟨x, hx, rfl⟩ := Option.map_eq_some_iff.1 hi
  have := (crashF_len picks[i]? x.2 (h x (List.mem_of_getElem? hx))).1
  show (crashF picks[i]? x.2).2 ≤ (crashF picks[i]? x.2).1.length
  omega

theorem Rep.nil : Rep [] [] := ⟨fun _ => rfl, .nil⟩
theorem Rep.append {l : Files} {A : List AF} (h : Rep l A) {s : ByteArray} {f : FileR} {more : List UInt8} (h1 : f.bs = bsOf l s ++ more) (h2 : f.syn = synOf l s) :
    Rep (aput l s f) (insA s ((usedOf A s).1 ++ more, (usedOf A s).2) A) := by
  have hb : bsOf l s = (usedOf A s).1 := by
    rw [bsOf_look, h.look]
    unfold usedOf
    cases aget A s <;> rfl
  have hy : synOf l s = (usedOf A s).2 := by
    rw [synOf_look, h.look]
    unfold usedOf
    cases aget A s <;> rfl
  refine ⟨fun t => ?_, h.srt.ins⟩
  rw [aget_ins h.srt]
  split
  · rename_i he
    subst he
    rw [look_aput, h1, h2, hb, hy]
  · rename_i he
    rw [look_aput_ne _ _ he, h.look]
theorem Rep.sync {l : Files} {A : List AF} (h : Rep l A) (s : ByteArray) : Rep (syncOne l s) (syncA A s) := by
  refine ⟨fun t => ?_, h.srt.sync s⟩
  rw [look_sync, h.look, h.look]
  unfold syncA
  cases hg : aget A s with
  | none =>
    simp only [Option.map_none]
    split
    · rename_i he; rw [he, hg]
    · rfl
  | some x =>
    simp only [Option.map_some]
    rw [aget_ins h.srt]
theorem Rep.syncs {ns : List ByteArray} : ∀ {l : Files} {A : List AF}, Rep l A → Rep (ns.foldl syncOne l) (ns.foldl syncA A) := by
  induction ns with
  | nil => exact id
  | cons s t ih => exact fun h => ih (h.sync s)
theorem total_syncs {ns : List ByteArray} : ∀ {l : Files}, total (ns.foldl syncOne l) = total l := by
  induction ns with
  | nil => intro l; rfl
  | cons s t ih => intro l; rw [List.foldl_cons, ih, total_sync]
theorem keys_adel (l : Files) (s : ByteArray) (hn : (keysOf l).Nodup) : (keysOf (adel l s)).Nodup := adel_keys_nodup s hn
theorem Rep.del {l : Files} {A : List AF} (h : Rep l A) (hn : (keysOf l).Nodup) (s : ByteArray) : Rep (adel l s) (adel A s) := by
  refine ⟨fun t => ?_, h.srt.del s⟩
  rw [look_del hn, aget_del h.srt, h.look]
theorem Rep.delOne {l : Files} {A : List AF} (h : Rep l A) (hn : (keysOf l).Nodup) (s : ByteArray) :
    Rep (Proofs.Ytimgbkabfkdabaa.delOne ((total l : Int), l) s).2 (adel A s) ∧ (Proofs.Ytimgbkabfkdabaa.delOne ((total l : Int), l) s).1 = (total (Proofs.Ytimgbkabfkdabaa.delOne ((total l : Int), l) s).2 : Int) ∧ (keysOf (Proofs.Ytimgbkabfkdabaa.delOne ((total l : Int), l) s).2).Nodup ∧
    total (Proofs.Ytimgbkabfkdabaa.delOne ((total l : Int), l) s).2 ≤ total l := by
  unfold Proofs.Ytimgbkabfkdabaa.delOne
  cases hg : aget l s with
  | none =>
    have hgA : aget A s = none := by rw [← h.look]; exact look_none.2 hg
    rw [adel_none hgA]
    exact ⟨h, rfl, hn, Nat.le_refl _⟩
  | some f =>
    simp only
    have := total_adel hg
    exact ⟨h.del hn s, by omega, keys_adel l s hn, by omega⟩
theorem Rep.dels {ns : List ByteArray} : ∀ {l : Files} {A : List AF}, Rep l A → (keysOf l).Nodup →
    Rep (ns.foldl Proofs.Ytimgbkabfkdabaa.delOne ((total l : Int), l)).2 (ns.foldl adel A) ∧ (ns.foldl Proofs.Ytimgbkabfkdabaa.delOne ((total l : Int), l)).1 = (total (ns.foldl Proofs.Ytimgbkabfkdabaa.delOne ((total l : Int), l)).2 : Int) ∧
    (keysOf (ns.foldl Proofs.Ytimgbkabfkdabaa.delOne ((total l : Int), l)).2).Nodup ∧ total (ns.foldl Proofs.Ytimgbkabfkdabaa.delOne ((total l : Int), l)).2 ≤ total l := by
  induction ns with
  | nil => exact fun h hn => ⟨h, rfl, hn, Nat.le_refl _⟩
  | cons s t ih =>
    intro l A h hn
    obtain ⟨h1, h2, h3, h4⟩ := h.delOne hn s
    rw [List.foldl_cons, List.foldl_cons]
    generalize hd : Proofs.Ytimgbkabfkdabaa.delOne ((total l : Int), l) s = d at h1 h2 h3 h4 ⊢
    obtain ⟨u, l'⟩ := d
    simp only at h1 h2 h3 h4
    subst h2
    obtain ⟨h5, h6, h7, h8⟩ := ih h1 h3
    exact ⟨h5, h6, h7, by omega⟩
theorem Rep.rename {l : Files} {A : List AF} (h : Rep l A) (hn : (keysOf l).Nodup) {s t : ByteArray} {f : FileR} (hf : aget l s = some f) :
    Rep (aput (adel l s) t f) (insA t (usedOf A s) (adel A s)) := by
  have hu : usedOf A s = (f.bs, f.syn) := by
    have h1 := h.look s
    unfold usedOf
    rw [← h1]
    unfold Proofs.Ytimgbkabfkdabaa.look
    rw [hf]; rfl
  have hd := h.del hn s
  refine ⟨fun r => ?_, hd.srt.ins⟩
  rw [aget_ins hd.srt]
  split
  · rename_i he; subst he; rw [look_aput, hu]
  · rename_i he; rw [look_aput_ne _ _ he, hd.look]
theorem total_rename {l : Files} {s t : ByteArray} {f : FileR} (hf : aget l s = some f) (hst : t ≠ s) : (total l : Int) - (bsOf l t).length = (total (aput (adel l s) t f) : Int) := by
  have h1 := total_adel hf
  have h2 := total_aput (l := adel l s) (s := t) f
  unfold bsOf
  cases hg : aget l t with
  | none =>
    have : aget (adel l s) t = none := by rw [aget_adel_ne hst, hg]
    rw [adel_none this] at h2
    simp
    omega
  | some g =>
    have h3 := total_adel (l := adel l s) (s := t) (f := g) (by rw [aget_adel_ne hst, hg])
    simp only [Option.map_some, Option.getD_some]
    omega
theorem Rep.crash {l l' : Files} {A : List AF} {picks : List Int} (h : Rep l A) (hn : (keysOf l).Nodup) (hc : Crashed picks (sortB (keysOf l)) (sortB (keysOf l)).length l l') : Rep l' (crashA picks A) := by
  rw [h.sorted hn] at hc
  refine ⟨fun s => ?_, h.srt.crash picks⟩
  by_cases hs : ∃ j, j < (namesA A).length ∧ (namesA A)[j]? = some s
  · obtain ⟨j, hj, hjs⟩ := hs
    rw [hc.done j s hj hjs, h.look]
    unfold namesA at hjs
    rw [List.getElem?_map] at hjs
    obtain ⟨x, hx, rfl⟩ := Option.map_eq_some_iff.1 hjs
    rw [aget_of_get h.srt.nodup hx]
    have h2 : (crashA picks A)[j]? = some (x.1, crashF picks[j]? x.2) := by rw [crash_get, hx]; rfl
    exact (aget_of_get (h.srt.crash picks).nodup h2).symm
  · have hno : ∀ j, j < (namesA A).length → (namesA A)[j]? ≠ some s := fun j hj hc => hs ⟨j, hj, hc⟩
    rw [hc.rest s hno, h.look]
    have h1 : ∀ B : List AF, namesA B = namesA A → aget B s = none := fun B hB => by
      rw [aget_none]
      intro e he hce
      have : s ∈ namesA A := by rw [← hB, ← hce]; exact List.mem_map.2 ⟨e, he, rfl⟩
      obtain ⟨j, hj⟩ := List.getElem?_of_mem this
      exact hno j (List.getElem?_eq_some_iff.1 hj).1 hj
    rw [h1 A rfl, h1 _ (crash_names picks A)]
theorem totA_ins {A : List AF} (h : Srt A) (s : ByteArray) (x : List UInt8 × Nat) : totA (insA s x A) + (usedOf A s).1.length = totA A + x.1.length := by
  induction A with
  | nil => simp [insA, totA, usedOf, aget]
  | cons y t ih =>
    have ih := ih h.tail
    unfold totA at ih ⊢
    unfold usedOf at ih ⊢
    simp only [insA, aget]
    by_cases hl : ltB y.1 s
    · have hne : s ≠ y.1 := fun hc => by rw [hc] at hl; exact ltB_irrefl _ hl
      simp only [hl, if_true, hne, if_false, List.map_cons, List.sum_cons]
      omega
    · simp only [hl, if_false]
      by_cases he : y.1 = s
      · simp only [he, if_true, List.map_cons, List.sum_cons, Option.getD_some]
        omega
      · simp only [he, Ne.symm he, if_false, List.map_cons, List.sum_cons]
        have hlt : ltB s y.1 := ltB_total hl he
        have hn : aget t s = none := aget_lt fun z hz => ltB_trans hlt (h.head z hz)
        rw [hn]
        simp
        omega
end Go.Proofs.Ytimgbkabfkdabaa
