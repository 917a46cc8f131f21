/- More words: what the caller's memory shows. -/
import Derived.Test.YtimgbkabfkdabaaShLift
namespace Go.Sh
/-- What the caller showed, beside what a call within hands over. -/
theorem St.extC {w w' : World} {A B : List Own} {sz : Nat} {v : Value} {cs : List Value} (H : St w [] w' (A ++ B)) (hsz : 0 < sz) (hr : Reads w sz v cs) : Ext w' A sz v cs :=
  ⟨hr.of fun b hb => H.fr.block b (hr.lt hsz b hb) (by simp), fun b hb ha => by
    rcases H.own b (by rw [fps_append]; exact List.mem_append_left _ ha) with h | h
    · cases h
    · have := hr.lt hsz b hb
      omega⟩
theorem St.readC {w w' : World} {L : List Own} {sz : Nat} {v : Value} {cs : List Value} (H : St w [] w' L) (hsz : 0 < sz) (hr : Reads w sz v cs) : Reads w' sz v cs :=
  hr.of fun b hb => H.fr.block b (hr.lt hsz b hb) (by simp)
theorem Reads.len {w : World} {a : Option Addr} {n c : Nat} {cs : List Value} (h : Reads w 1 (.slice a n c) cs) : n = cs.length := by
  obtain ⟨_, _, _, he, h1, _⟩ := h
  cases he
  simpa using h1
theorem SliceAt.len {w : World} {E n c : Nat} {a : Option Addr} {cs : List Value} (h : SliceAt w E 1 (.slice a n c) cs) : n = cs.length := h.reads.len
theorem aget_adel_self {κ β : Type} [DecidableEq κ] {l : List (κ × β)} {k : κ} (h : (l.map (·.1)).Nodup) : aget (adel l k) k = none := by
  induction l with
  | nil => rfl
  | cons e t ih =>
    obtain ⟨a, u⟩ := e
    rw [List.map_cons, List.nodup_cons] at h
    simp only [adel]
    split
    · rename_i hk
      subst hk
      rw [aget_none]
      intro x hx he
      exact h.1 (List.mem_map.2 ⟨x, hx, he⟩)
    · rename_i hk
      simp only [aget, hk, if_false]
      exact ih h.2
end Go.Sh
