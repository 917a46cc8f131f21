/- apply: what an edit makes of a version. -/
import Derived.Test.YtnhjcjnjpciifaaDoorHD
namespace Go.Proofs.YtnhjcjnjpciifaaDoor
open Go.Sh
attribute [local irreducible] rRun LDI LDB LDS LDP LDSl LDM LD Go.Sh.ST AL ALM LetW CallR CallV CallI NN IX SIX Br Req mInt mBool mStr mPtr mSlice mMap mAgg mTup mCons mNil mNth mPA LoopS
attribute [local irreducible] manifest_apply_b2 manifest_apply_b3
section
variable {w0 w : World} {F : List Nat} {L M : List Own}
abbrev verO (p : Nat) (x : Value) (v : Ver) : Own := pt p (.cells #[x, .int .u64 v.seq, .int .i64 v.nxt, .int .i64 v.wal] 27)
abbrev edO (q : Nat) (x y : Value) (e : EditP) : Own := pt q (.cells #[x, y, .int .u64 e.seq, .int .i64 e.nxt, .int .i64 e.wal] 31)
abbrev errV (code : Int) : Value := .tuple #[.agg #[.slice none 0 0, .int .u64 0, .int .i64 0, .int .i64 0], .int .i64 code]
theorem orL2 (x y : Int) : orL [x, y] = or2 x y := by
  unfold orL or2
  split
  · rfl
  · by_cases h : y = 0
    · subst h; rfl
    · unfold orL; rw [if_pos h]
theorem orI {x y : Int} {b : Nat} {fz : Nat × Nat} {K : Value → World → Prop} (H : St w0 F w L) (hu : List.Mem (pt b (.cells #[.int .i64 x, .int .i64 y] 3 fz)) L := by repeat (first | exact .head _ | apply List.Mem.tail))
    (hK : K (.int .i64 (or2 x y)) w) : CallR Tryd.prog fn_cmp_Or_int #[.slice (some ⟨b, 0, none⟩) 2 2] w K := by
  have hb : w.heap[b]? = some (.cells #[.int .i64 x, .int .i64 y] 3 fz) := H.has.all (pt b (.cells #[.int .i64 x, .int .i64 y] 3 fz)) hu
  refine OrI_walk (l := [x, y]) (by simp) hb ?_
  rw [orL2]; exact hK
theorem orU {x y : Int} {b : Nat} {fz : Nat × Nat} {K : Value → World → Prop} (H : St w0 F w L) (hu : List.Mem (pt b (.cells #[.int .u64 x, .int .u64 y] 25 fz)) L := by repeat (first | exact .head _ | apply List.Mem.tail))
    (hK : K (.int .u64 (or2 x y)) w) : CallR Tryd.prog fn_cmp_Or_uint64 #[.slice (some ⟨b, 0, none⟩) 2 2] w K := by
  have hb : w.heap[b]? = some (.cells #[.int .u64 x, .int .u64 y] 25 fz) := H.has.all (pt b (.cells #[.int .u64 x, .int .u64 y] 25 fz)) hu
  refine OrU_walk (l := [x, y]) (by simp) hb ?_
  rw [orL2]; exact hK

variable {p q z : Nat} {v : Ver} {e : EditP} {x xa xd : Value} {K : Value → World → Prop}
theorem apply_b4 (H : St w0 F w (verO p x v :: edO q xa xd e :: L)) (h3 : ∀ b : Bool, b = numsBad v e → manifest_apply_b3 ⟨p, 0, none⟩ ⟨q, 0, none⟩ ⟨z, 0, none⟩ b K w) : manifest_apply_b4 ⟨p, 0, none⟩ ⟨q, 0, none⟩ ⟨z, 0, none⟩ K w := by
  unfold manifest_apply_b4
  repeat' (first | refine wI H (hK := ?_) | refine br (fun _ => ?_) (fun _ => ?_))
  all_goals (refine h3 _ ?_; clear h3 H; unfold numsBad; simp only [*, Bool.true_and, Bool.false_and, Bool.true_or, Bool.or_true, Bool.false_or, Bool.or_false])

attribute [local semireducible] manifest_apply_b2 manifest_apply_b3
abbrev okV (y : Value) (s n k : Int) : Value := .tuple #[.agg #[y, .int .u64 s, .int .i64 n, .int .i64 k], .int .i64 0]
set_option maxHeartbeats 16000000 in
theorem apply_b2 {ta : Option Addr} {tn tc : Nat} {l : List Tab} (H : St w0 F w (verO p (.slice ta tn tc) v :: edO q xa xd e :: verO z (.slice none 0 0) zeroV :: tabsO (.slice ta tn tc) l :: L))
    (hK : ∀ w', St w0 F w' (tabsO (.slice ta tn tc) l :: L) → K (okV (.slice ta tn tc) (or2 e.seq v.seq) (or2 e.nxt v.nxt) (or2 e.wal v.wal)) w') : manifest_apply_b2 ⟨p, 0, none⟩ ⟨q, 0, none⟩ ⟨z, 0, none⟩ K w := by
  unfold manifest_apply_b2
  refine wLW H ?_
  intro w1 H
  repeat' (first | refine wC H (hK := ?_) | refine wI H (hK := ?_) | refine wSl H (hK := ?_) | (refine wST H (hK := ?_); intro w1 H _) | (refine wAL H ?_; intro bq w1 H) | refine mInt_mk ?_ | refine orI H (hK := ?_) | refine orU H (hK := ?_) | refine And.intro ?_ ?_)
  all_goals exact hK _ H.tail.tail.tail.tail.tail.tail
end
end Go.Proofs.YtnhjcjnjpciifaaDoor
