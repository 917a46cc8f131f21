/- The chapter's example, walked, whatever order: its text in small parts (printed by tools/split.py), a lemma for each (printed by tools/knownparts.py). -/
import Derived.Test.YtnhjcjnjpciifaaDoorHM
namespace Go.Proofs.YtnhjcjnjpciifaaDoor
open Go.Sh
def known_s1 (res7 : Value) (w_37 : World) (R : Value → World → Prop) : Prop :=
  mStr res7 fun v14 =>
  R (.bool (ByteArray.toList v14 == ByteArray.toList (ByteArray.mk #[116, 45, 48, 48, 48, 48, 48, 51]))) w_37

def known_s2 (v2 : Int) (p : Addr) (v5 : Int) (v8 : Int) (res6 : Value) (w_31 : World) (R : Value → World → Prop) : Prop :=
  mTup res6 fun l36 =>
  mCons l36 fun v9 l37 =>
  mAgg v9 fun v_l6 =>
  mCons v_l6 fun v_Tables6 l38 =>
  mSlice v_Tables6 fun v_Tables7 v_Tables_n3 v_Tables_c3 =>
  mCons l38 fun v_Seq6 l39 =>
  mInt .u64 v_Seq6 fun v_Seq7 =>
  mCons l39 fun v_Next6 l40 =>
  mInt .i64 v_Next6 fun v_Next7 =>
  mCons l40 fun v_Wal6 l41 =>
  mInt .i64 v_Wal6 fun v_Wal7 =>
  mNil l41 (
  mCons l37 fun v10 l42 =>
  mInt .i64 v10 fun v11 =>
  mNil l42 (
  AL w_31 (.cells #[(.slice none 0 0), (.int .u64 0), (.int .i64 0), (.int .i64 0)] 27) fun p3 w_32 =>
  ST w_32 p3 (.slice v_Tables7 v_Tables_n3 v_Tables_c3) fun w_33 =>
  ST w_33 (Addr.add p3 1) (.int .u64 v_Seq7) fun w_34 =>
  ST w_34 (Addr.add p3 2) (.int .i64 v_Next7) fun w_35 =>
  ST w_35 (Addr.add p3 3) (.int .i64 v_Wal7) fun w_36 =>
  Br (v2 == 0) (
  LDSl w_36 p fun _ v_n _ =>
  Br ((v_n : Int) == 1) (
  LDI .i64 w_36 (Addr.add p 2) fun v13 =>
  Br (v13 == 2) (
  Br (v5 == 15) (
  Br (v8 == 0) (
  Br (v11 == 4) (
  CallR Tryd.prog fn_manifest_File #[(.int .i64 3)] w_36 fun res7 w_37 =>
  known_s1 res7 w_37 R) (
  R (.bool false) w_36)) (
  R (.bool false) w_36)) (
  R (.bool false) w_36)) (
  R (.bool false) w_36)) (
  R (.bool false) w_36)) (
  R (.bool false) w_36)))

def known_s3 (v2 : Int) (p : Addr) (v5 : Int) (res5 : Value) (w_23 : World) (R : Value → World → Prop) : Prop :=
  mTup res5 fun l29 =>
  mCons l29 fun v6 l30 =>
  mAgg v6 fun v_l5 =>
  mCons v_l5 fun v_Tables4 l31 =>
  mSlice v_Tables4 fun v_Tables5 v_Tables_n2 v_Tables_c2 =>
  mCons l31 fun v_Seq4 l32 =>
  mInt .u64 v_Seq4 fun v_Seq5 =>
  mCons l32 fun v_Next4 l33 =>
  mInt .i64 v_Next4 fun v_Next5 =>
  mCons l33 fun v_Wal4 l34 =>
  mInt .i64 v_Wal4 fun v_Wal5 =>
  mNil l34 (
  mCons l30 fun v7 l35 =>
  mInt .i64 v7 fun v8 =>
  mNil l35 (
  AL w_23 (.cells #[(.slice none 0 0), (.int .u64 0), (.int .i64 0), (.int .i64 0)] 27) fun p2 w_24 =>
  ST w_24 p2 (.slice v_Tables5 v_Tables_n2 v_Tables_c2) fun w_25 =>
  ST w_25 (Addr.add p2 1) (.int .u64 v_Seq5) fun w_26 =>
  ST w_26 (Addr.add p2 2) (.int .i64 v_Next5) fun w_27 =>
  ST w_27 (Addr.add p2 3) (.int .i64 v_Wal5) fun w_28 =>
  LDSl w_28 p fun Tables2 Tables_n2 Tables_c2 =>
  LDI .u64 w_28 (Addr.add p 1) fun Seq2 =>
  LDI .i64 w_28 (Addr.add p 2) fun Next2 =>
  LDI .i64 w_28 (Addr.add p 3) fun Wal2 =>
  AL w_28 (.cells #[(.int .i64 7)] 3) fun b6 w_29 =>
  AL w_29 (.cells #[(.slice none 0 0), (.slice (some b6) 1 1), (.int .u64 0), (.int .i64 0), (.int .i64 0)] 31) fun b7 w_30 =>
  CallR Tryd.prog fn_manifest_Apply #[(.agg #[(.slice Tables2 Tables_n2 Tables_c2), (.int .u64 Seq2), (.int .i64 Next2), (.int .i64 Wal2)]), (.slice (some b7) 1 1)] w_30 fun res6 w_31 =>
  known_s2 v2 p v5 v8 res6 w_31 R))

def known_s4 (res10 : Value) (w_52 : World) (R : Value → World → Prop) : Prop :=
  mStr res10 fun v23 =>
  R (.bool (ByteArray.toList v23 == ByteArray.toList (ByteArray.mk #[116, 45, 48, 48, 48, 48, 48, 51]))) w_52

def known_s5 (v2 : Int) (p : Addr) (v5 : Int) (v17 : Int) (res9 : Value) (w_46 : World) (R : Value → World → Prop) : Prop :=
  mTup res9 fun l50 =>
  mCons l50 fun v18 l51 =>
  mAgg v18 fun v_l8 =>
  mCons v_l8 fun v_Tables10 l52 =>
  mSlice v_Tables10 fun v_Tables11 v_Tables_n5 v_Tables_c5 =>
  mCons l52 fun v_Seq10 l53 =>
  mInt .u64 v_Seq10 fun v_Seq11 =>
  mCons l53 fun v_Next10 l54 =>
  mInt .i64 v_Next10 fun v_Next11 =>
  mCons l54 fun v_Wal10 l55 =>
  mInt .i64 v_Wal10 fun v_Wal11 =>
  mNil l55 (
  mCons l51 fun v19 l56 =>
  mInt .i64 v19 fun v20 =>
  mNil l56 (
  AL w_46 (.cells #[(.slice none 0 0), (.int .u64 0), (.int .i64 0), (.int .i64 0)] 27) fun p5 w_47 =>
  ST w_47 p5 (.slice v_Tables11 v_Tables_n5 v_Tables_c5) fun w_48 =>
  ST w_48 (Addr.add p5 1) (.int .u64 v_Seq11) fun w_49 =>
  ST w_49 (Addr.add p5 2) (.int .i64 v_Next11) fun w_50 =>
  ST w_50 (Addr.add p5 3) (.int .i64 v_Wal11) fun w_51 =>
  Br (v2 == 0) (
  LDSl w_51 p fun _ v_n1 _ =>
  Br ((v_n1 : Int) == 1) (
  LDI .i64 w_51 (Addr.add p 2) fun v22 =>
  Br (v22 == 2) (
  Br (v5 == 15) (
  Br (v17 == 0) (
  Br (v20 == 4) (
  CallR Tryd.prog fn_manifest_File #[(.int .i64 3)] w_51 fun res10 w_52 =>
  known_s4 res10 w_52 R) (
  R (.bool false) w_51)) (
  R (.bool false) w_51)) (
  R (.bool false) w_51)) (
  R (.bool false) w_51)) (
  R (.bool false) w_51)) (
  R (.bool false) w_51)))

def known_s6 (v2 : Int) (p : Addr) (v5 : Int) (p4 : Addr) (res8 : Value) (w_39 : World) (R : Value → World → Prop) : Prop :=
  mTup res8 fun l43 =>
  mCons l43 fun v15 l44 =>
  mAgg v15 fun v_l7 =>
  mCons v_l7 fun v_Tables8 l45 =>
  mSlice v_Tables8 fun v_Tables9 v_Tables_n4 v_Tables_c4 =>
  mCons l45 fun v_Seq8 l46 =>
  mInt .u64 v_Seq8 fun v_Seq9 =>
  mCons l46 fun v_Next8 l47 =>
  mInt .i64 v_Next8 fun v_Next9 =>
  mCons l47 fun v_Wal8 l48 =>
  mInt .i64 v_Wal8 fun v_Wal9 =>
  mNil l48 (
  mCons l44 fun v16 l49 =>
  mInt .i64 v16 fun v17 =>
  mNil l49 (
  ST w_39 p4 (.slice v_Tables9 v_Tables_n4 v_Tables_c4) fun w_40 =>
  ST w_40 (Addr.add p4 1) (.int .u64 v_Seq9) fun w_41 =>
  ST w_41 (Addr.add p4 2) (.int .i64 v_Next9) fun w_42 =>
  ST w_42 (Addr.add p4 3) (.int .i64 v_Wal9) fun w_43 =>
  LDSl w_43 p fun Tables3 Tables_n3 Tables_c3 =>
  LDI .u64 w_43 (Addr.add p 1) fun Seq3 =>
  LDI .i64 w_43 (Addr.add p 2) fun Next3 =>
  LDI .i64 w_43 (Addr.add p 3) fun Wal3 =>
  AL w_43 (.cells #[(.int .i64 7)] 3) fun b8 w_44 =>
  AL w_44 (.cells #[(.slice none 0 0), (.slice (some b8) 1 1), (.int .u64 0), (.int .i64 0), (.int .i64 0)] 31) fun b9 w_45 =>
  CallR Tryd.prog fn_manifest_Apply #[(.agg #[(.slice Tables3 Tables_n3 Tables_c3), (.int .u64 Seq3), (.int .i64 Next3), (.int .i64 Wal3)]), (.slice (some b9) 1 1)] w_45 fun res9 w_46 =>
  known_s5 v2 p v5 v17 res9 w_46 R))

def known_s7 (res13 : Value) (w_68 : World) (R : Value → World → Prop) : Prop :=
  mStr res13 fun v32 =>
  R (.bool (ByteArray.toList v32 == ByteArray.toList (ByteArray.mk #[116, 45, 48, 48, 48, 48, 48, 51]))) w_68

def known_s8 (v2 : Int) (p : Addr) (v5 : Int) (v26 : Int) (res12 : Value) (w_62 : World) (R : Value → World → Prop) : Prop :=
  mTup res12 fun l64 =>
  mCons l64 fun v27 l65 =>
  mAgg v27 fun v_l10 =>
  mCons v_l10 fun v_Tables14 l66 =>
  mSlice v_Tables14 fun v_Tables15 v_Tables_n7 v_Tables_c7 =>
  mCons l66 fun v_Seq14 l67 =>
  mInt .u64 v_Seq14 fun v_Seq15 =>
  mCons l67 fun v_Next14 l68 =>
  mInt .i64 v_Next14 fun v_Next15 =>
  mCons l68 fun v_Wal14 l69 =>
  mInt .i64 v_Wal14 fun v_Wal15 =>
  mNil l69 (
  mCons l65 fun v28 l70 =>
  mInt .i64 v28 fun v29 =>
  mNil l70 (
  AL w_62 (.cells #[(.slice none 0 0), (.int .u64 0), (.int .i64 0), (.int .i64 0)] 27) fun p7 w_63 =>
  ST w_63 p7 (.slice v_Tables15 v_Tables_n7 v_Tables_c7) fun w_64 =>
  ST w_64 (Addr.add p7 1) (.int .u64 v_Seq15) fun w_65 =>
  ST w_65 (Addr.add p7 2) (.int .i64 v_Next15) fun w_66 =>
  ST w_66 (Addr.add p7 3) (.int .i64 v_Wal15) fun w_67 =>
  Br (v2 == 0) (
  LDSl w_67 p fun _ v_n2 _ =>
  Br ((v_n2 : Int) == 1) (
  LDI .i64 w_67 (Addr.add p 2) fun v31 =>
  Br (v31 == 2) (
  Br (v5 == 15) (
  Br (v26 == 0) (
  Br (v29 == 4) (
  CallR Tryd.prog fn_manifest_File #[(.int .i64 3)] w_67 fun res13 w_68 =>
  known_s7 res13 w_68 R) (
  R (.bool false) w_67)) (
  R (.bool false) w_67)) (
  R (.bool false) w_67)) (
  R (.bool false) w_67)) (
  R (.bool false) w_67)) (
  R (.bool false) w_67)))

def known_s9 (v2 : Int) (p : Addr) (v5 : Int) (p6 : Addr) (res11 : Value) (w_55 : World) (R : Value → World → Prop) : Prop :=
  mTup res11 fun l57 =>
  mCons l57 fun v24 l58 =>
  mAgg v24 fun v_l9 =>
  mCons v_l9 fun v_Tables12 l59 =>
  mSlice v_Tables12 fun v_Tables13 v_Tables_n6 v_Tables_c6 =>
  mCons l59 fun v_Seq12 l60 =>
  mInt .u64 v_Seq12 fun v_Seq13 =>
  mCons l60 fun v_Next12 l61 =>
  mInt .i64 v_Next12 fun v_Next13 =>
  mCons l61 fun v_Wal12 l62 =>
  mInt .i64 v_Wal12 fun v_Wal13 =>
  mNil l62 (
  mCons l58 fun v25 l63 =>
  mInt .i64 v25 fun v26 =>
  mNil l63 (
  ST w_55 p6 (.slice v_Tables13 v_Tables_n6 v_Tables_c6) fun w_56 =>
  ST w_56 (Addr.add p6 1) (.int .u64 v_Seq13) fun w_57 =>
  ST w_57 (Addr.add p6 2) (.int .i64 v_Next13) fun w_58 =>
  ST w_58 (Addr.add p6 3) (.int .i64 v_Wal13) fun w_59 =>
  LDSl w_59 p fun Tables4 Tables_n4 Tables_c4 =>
  LDI .u64 w_59 (Addr.add p 1) fun Seq4 =>
  LDI .i64 w_59 (Addr.add p 2) fun Next4 =>
  LDI .i64 w_59 (Addr.add p 3) fun Wal4 =>
  AL w_59 (.cells #[(.int .i64 7)] 3) fun b11 w_60 =>
  AL w_60 (.cells #[(.slice none 0 0), (.slice (some b11) 1 1), (.int .u64 0), (.int .i64 0), (.int .i64 0)] 31) fun b12 w_61 =>
  CallR Tryd.prog fn_manifest_Apply #[(.agg #[(.slice Tables4 Tables_n4 Tables_c4), (.int .u64 Seq4), (.int .i64 Next4), (.int .i64 Wal4)]), (.slice (some b12) 1 1)] w_61 fun res12 w_62 =>
  known_s8 v2 p v5 v26 res12 w_62 R))

def known_s10 (res16 : Value) (w_85 : World) (R : Value → World → Prop) : Prop :=
  mStr res16 fun v41 =>
  R (.bool (ByteArray.toList v41 == ByteArray.toList (ByteArray.mk #[116, 45, 48, 48, 48, 48, 48, 51]))) w_85

def known_s11 (v2 : Int) (p : Addr) (v5 : Int) (v35 : Int) (res15 : Value) (w_79 : World) (R : Value → World → Prop) : Prop :=
  mTup res15 fun l78 =>
  mCons l78 fun v36 l79 =>
  mAgg v36 fun v_l12 =>
  mCons v_l12 fun v_Tables18 l80 =>
  mSlice v_Tables18 fun v_Tables19 v_Tables_n9 v_Tables_c9 =>
  mCons l80 fun v_Seq18 l81 =>
  mInt .u64 v_Seq18 fun v_Seq19 =>
  mCons l81 fun v_Next18 l82 =>
  mInt .i64 v_Next18 fun v_Next19 =>
  mCons l82 fun v_Wal18 l83 =>
  mInt .i64 v_Wal18 fun v_Wal19 =>
  mNil l83 (
  mCons l79 fun v37 l84 =>
  mInt .i64 v37 fun v38 =>
  mNil l84 (
  AL w_79 (.cells #[(.slice none 0 0), (.int .u64 0), (.int .i64 0), (.int .i64 0)] 27) fun p9 w_80 =>
  ST w_80 p9 (.slice v_Tables19 v_Tables_n9 v_Tables_c9) fun w_81 =>
  ST w_81 (Addr.add p9 1) (.int .u64 v_Seq19) fun w_82 =>
  ST w_82 (Addr.add p9 2) (.int .i64 v_Next19) fun w_83 =>
  ST w_83 (Addr.add p9 3) (.int .i64 v_Wal19) fun w_84 =>
  Br (v2 == 0) (
  LDSl w_84 p fun _ v_n3 _ =>
  Br ((v_n3 : Int) == 1) (
  LDI .i64 w_84 (Addr.add p 2) fun v40 =>
  Br (v40 == 2) (
  Br (v5 == 15) (
  Br (v35 == 0) (
  Br (v38 == 4) (
  CallR Tryd.prog fn_manifest_File #[(.int .i64 3)] w_84 fun res16 w_85 =>
  known_s10 res16 w_85 R) (
  R (.bool false) w_84)) (
  R (.bool false) w_84)) (
  R (.bool false) w_84)) (
  R (.bool false) w_84)) (
  R (.bool false) w_84)) (
  R (.bool false) w_84)))

def known_s12 (v2 : Int) (p : Addr) (v5 : Int) (p8 : Addr) (res14 : Value) (w_72 : World) (R : Value → World → Prop) : Prop :=
  mTup res14 fun l71 =>
  mCons l71 fun v33 l72 =>
  mAgg v33 fun v_l11 =>
  mCons v_l11 fun v_Tables16 l73 =>
  mSlice v_Tables16 fun v_Tables17 v_Tables_n8 v_Tables_c8 =>
  mCons l73 fun v_Seq16 l74 =>
  mInt .u64 v_Seq16 fun v_Seq17 =>
  mCons l74 fun v_Next16 l75 =>
  mInt .i64 v_Next16 fun v_Next17 =>
  mCons l75 fun v_Wal16 l76 =>
  mInt .i64 v_Wal16 fun v_Wal17 =>
  mNil l76 (
  mCons l72 fun v34 l77 =>
  mInt .i64 v34 fun v35 =>
  mNil l77 (
  ST w_72 p8 (.slice v_Tables17 v_Tables_n8 v_Tables_c8) fun w_73 =>
  ST w_73 (Addr.add p8 1) (.int .u64 v_Seq17) fun w_74 =>
  ST w_74 (Addr.add p8 2) (.int .i64 v_Next17) fun w_75 =>
  ST w_75 (Addr.add p8 3) (.int .i64 v_Wal17) fun w_76 =>
  LDSl w_76 p fun Tables5 Tables_n5 Tables_c5 =>
  LDI .u64 w_76 (Addr.add p 1) fun Seq5 =>
  LDI .i64 w_76 (Addr.add p 2) fun Next5 =>
  LDI .i64 w_76 (Addr.add p 3) fun Wal5 =>
  AL w_76 (.cells #[(.int .i64 7)] 3) fun b15 w_77 =>
  AL w_77 (.cells #[(.slice none 0 0), (.slice (some b15) 1 1), (.int .u64 0), (.int .i64 0), (.int .i64 0)] 31) fun b16 w_78 =>
  CallR Tryd.prog fn_manifest_Apply #[(.agg #[(.slice Tables5 Tables_n5 Tables_c5), (.int .u64 Seq5), (.int .i64 Next5), (.int .i64 Wal5)]), (.slice (some b16) 1 1)] w_78 fun res15 w_79 =>
  known_s11 v2 p v5 v35 res15 w_79 R))

def known_s13 (v2 : Int) (p : Addr) (v5 : Int) (Tables1 : Option Addr) (Tables_n1 : Nat) (Tables_c1 : Nat) (Seq1 : Int) (Next1 : Int) (Wal1 : Int) (res4 : Value) (w_20 : World) (R : Value → World → Prop) : Prop :=
  mAgg res4 fun v_l4 =>
  mCons v_l4 fun v_File4 l24 =>
  mInt .i64 v_File4 fun v_File5 =>
  mCons l24 fun v_Level4 l25 =>
  mInt .i64 v_Level4 fun v_Level5 =>
  mCons l25 fun v_First4 l26 =>
  mStr v_First4 fun v_First5 =>
  mCons l26 fun v_Last4 l27 =>
  mStr v_Last4 fun v_Last5 =>
  mCons l27 fun v_Size4 l28 =>
  mInt .i64 v_Size4 fun v_Size5 =>
  mNil l28 (
  (World.cell? w_20 p = some (.slice Tables1 Tables_n1 Tables_c1) ∧ 
  (World.cell? w_20 (Addr.add p 1) = some (.int .u64 Seq1) ∧ 
  (World.cell? w_20 (Addr.add p 2) = some (.int .i64 Next1) ∧ 
  (World.cell? w_20 (Addr.add p 3) = some (.int .i64 Wal1) ∧ 
  (
  AL w_20 (.cells #[(.int .i64 v_File5), (.int .i64 v_Level5), (.string v_First5), (.string v_Last5), (.int .i64 v_Size5)] 38) fun b4 w_21 =>
  (World.cell? w_21 p = some (.slice Tables1 Tables_n1 Tables_c1) ∧ 
  (World.cell? w_21 (Addr.add p 1) = some (.int .u64 Seq1) ∧ 
  (World.cell? w_21 (Addr.add p 2) = some (.int .i64 Next1) ∧ 
  (World.cell? w_21 (Addr.add p 3) = some (.int .i64 Wal1) ∧ 
  (w_21 = w_21 ∧ 
  (
  AL w_21 (.cells #[(.slice (some b4) 1 1), (.slice none 0 0), (.int .u64 0), (.int .i64 0), (.int .i64 0)] 31) fun b5 w_22 =>
  (World.cell? w_22 p = some (.slice Tables1 Tables_n1 Tables_c1) ∧ 
  (World.cell? w_22 (Addr.add p 1) = some (.int .u64 Seq1) ∧ 
  (World.cell? w_22 (Addr.add p 2) = some (.int .i64 Next1) ∧ 
  (World.cell? w_22 (Addr.add p 3) = some (.int .i64 Wal1) ∧ 
  (
  CallR Tryd.prog fn_manifest_Apply #[(.agg #[(.slice Tables1 Tables_n1 Tables_c1), (.int .u64 Seq1), (.int .i64 Next1), (.int .i64 Wal1)]), (.slice (some b5) 1 1)] w_22 fun res5 w_23 =>
  known_s3 v2 p v5 res5 w_23 R) ∧ (
  AL w_22 (.cells #[(.slice none 0 0), (.int .u64 0), (.int .i64 0), (.int .i64 0)] 27) fun p4 w_38 =>
  (World.cell? w_38 p = some (.slice Tables1 Tables_n1 Tables_c1) ∧ 
  (World.cell? w_38 (Addr.add p 1) = some (.int .u64 Seq1) ∧ 
  (World.cell? w_38 (Addr.add p 2) = some (.int .i64 Next1) ∧ 
  (World.cell? w_38 (Addr.add p 3) = some (.int .i64 Wal1) ∧ 
  CallR Tryd.prog fn_manifest_Apply #[(.agg #[(.slice Tables1 Tables_n1 Tables_c1), (.int .u64 Seq1), (.int .i64 Next1), (.int .i64 Wal1)]), (.slice (some b5) 1 1)] w_38 fun res8 w_39 =>
  known_s6 v2 p v5 p4 res8 w_39 R)))))))))) ∧ (
  AL w_21 (.cells #[(.slice none 0 0), (.int .u64 0), (.int .i64 0), (.int .i64 0)] 27) fun p6 w_53 =>
  (((w_53 = w_53 ∧ ((.agg #[(.slice (some b4) 1 1), (.slice none 0 0), (.int .u64 0), (.int .i64 0), (.int .i64 0)]) : Value) = (.agg #[(.slice (some b4) 1 1), (.slice none 0 0), (.int .u64 0), (.int .i64 0), (.int .i64 0)]))) ∧ 
  (World.cell? w_53 p = some (.slice Tables1 Tables_n1 Tables_c1) ∧ 
  (World.cell? w_53 (Addr.add p 1) = some (.int .u64 Seq1) ∧ 
  (World.cell? w_53 (Addr.add p 2) = some (.int .i64 Next1) ∧ 
  (World.cell? w_53 (Addr.add p 3) = some (.int .i64 Wal1) ∧ 
  AL w_53 (.cells #[(.slice (some b4) 1 1), (.slice none 0 0), (.int .u64 0), (.int .i64 0), (.int .i64 0)] 31) fun b10 w_54 =>
  (World.cell? w_54 p = some (.slice Tables1 Tables_n1 Tables_c1) ∧ 
  (World.cell? w_54 (Addr.add p 1) = some (.int .u64 Seq1) ∧ 
  (World.cell? w_54 (Addr.add p 2) = some (.int .i64 Next1) ∧ 
  (World.cell? w_54 (Addr.add p 3) = some (.int .i64 Wal1) ∧ 
  CallR Tryd.prog fn_manifest_Apply #[(.agg #[(.slice Tables1 Tables_n1 Tables_c1), (.int .u64 Seq1), (.int .i64 Next1), (.int .i64 Wal1)]), (.slice (some b10) 1 1)] w_54 fun res11 w_55 =>
  known_s9 v2 p v5 p6 res11 w_55 R)))))))))))))))) ∧ (
  AL w_20 (.cells #[(.slice none 0 0), (.int .u64 0), (.int .i64 0), (.int .i64 0)] 27) fun p8 w_69 =>
  (World.cell? w_69 p = some (.slice Tables1 Tables_n1 Tables_c1) ∧ 
  (World.cell? w_69 (Addr.add p 1) = some (.int .u64 Seq1) ∧ 
  (World.cell? w_69 (Addr.add p 2) = some (.int .i64 Next1) ∧ 
  (World.cell? w_69 (Addr.add p 3) = some (.int .i64 Wal1) ∧ 
  AL w_69 (.cells #[(.int .i64 v_File5), (.int .i64 v_Level5), (.string v_First5), (.string v_Last5), (.int .i64 v_Size5)] 38) fun b13 w_70 =>
  (World.cell? w_70 p = some (.slice Tables1 Tables_n1 Tables_c1) ∧ 
  (World.cell? w_70 (Addr.add p 1) = some (.int .u64 Seq1) ∧ 
  (World.cell? w_70 (Addr.add p 2) = some (.int .i64 Next1) ∧ 
  (World.cell? w_70 (Addr.add p 3) = some (.int .i64 Wal1) ∧ 
  (w_70 = w_70 ∧ 
  AL w_70 (.cells #[(.slice (some b13) 1 1), (.slice none 0 0), (.int .u64 0), (.int .i64 0), (.int .i64 0)] 31) fun b14 w_71 =>
  (World.cell? w_71 p = some (.slice Tables1 Tables_n1 Tables_c1) ∧ 
  (World.cell? w_71 (Addr.add p 1) = some (.int .u64 Seq1) ∧ 
  (World.cell? w_71 (Addr.add p 2) = some (.int .i64 Next1) ∧ 
  (World.cell? w_71 (Addr.add p 3) = some (.int .i64 Wal1) ∧ 
  CallR Tryd.prog fn_manifest_Apply #[(.agg #[(.slice Tables1 Tables_n1 Tables_c1), (.int .u64 Seq1), (.int .i64 Next1), (.int .i64 Wal1)]), (.slice (some b14) 1 1)] w_71 fun res14 w_72 =>
  known_s12 v2 p v5 p8 res14 w_72 R)))))))))))))))))))

def known_s14 (res20 : Value) (w_103 : World) (R : Value → World → Prop) : Prop :=
  mStr res20 fun v50 =>
  R (.bool (ByteArray.toList v50 == ByteArray.toList (ByteArray.mk #[116, 45, 48, 48, 48, 48, 48, 51]))) w_103

def known_s15 (v2 : Int) (p : Addr) (v5 : Int) (v44 : Int) (res19 : Value) (w_97 : World) (R : Value → World → Prop) : Prop :=
  mTup res19 fun l97 =>
  mCons l97 fun v45 l98 =>
  mAgg v45 fun v_l15 =>
  mCons v_l15 fun v_Tables22 l99 =>
  mSlice v_Tables22 fun v_Tables23 v_Tables_n11 v_Tables_c11 =>
  mCons l99 fun v_Seq22 l100 =>
  mInt .u64 v_Seq22 fun v_Seq23 =>
  mCons l100 fun v_Next22 l101 =>
  mInt .i64 v_Next22 fun v_Next23 =>
  mCons l101 fun v_Wal22 l102 =>
  mInt .i64 v_Wal22 fun v_Wal23 =>
  mNil l102 (
  mCons l98 fun v46 l103 =>
  mInt .i64 v46 fun v47 =>
  mNil l103 (
  AL w_97 (.cells #[(.slice none 0 0), (.int .u64 0), (.int .i64 0), (.int .i64 0)] 27) fun p11 w_98 =>
  ST w_98 p11 (.slice v_Tables23 v_Tables_n11 v_Tables_c11) fun w_99 =>
  ST w_99 (Addr.add p11 1) (.int .u64 v_Seq23) fun w_100 =>
  ST w_100 (Addr.add p11 2) (.int .i64 v_Next23) fun w_101 =>
  ST w_101 (Addr.add p11 3) (.int .i64 v_Wal23) fun w_102 =>
  Br (v2 == 0) (
  LDSl w_102 p fun _ v_n4 _ =>
  Br ((v_n4 : Int) == 1) (
  LDI .i64 w_102 (Addr.add p 2) fun v49 =>
  Br (v49 == 2) (
  Br (v5 == 15) (
  Br (v44 == 0) (
  Br (v47 == 4) (
  CallR Tryd.prog fn_manifest_File #[(.int .i64 3)] w_102 fun res20 w_103 =>
  known_s14 res20 w_103 R) (
  R (.bool false) w_102)) (
  R (.bool false) w_102)) (
  R (.bool false) w_102)) (
  R (.bool false) w_102)) (
  R (.bool false) w_102)) (
  R (.bool false) w_102)))

def known_s16 (v2 : Int) (p : Addr) (v5 : Int) (p10 : Addr) (res18 : Value) (w_90 : World) (R : Value → World → Prop) : Prop :=
  mTup res18 fun l90 =>
  mCons l90 fun v42 l91 =>
  mAgg v42 fun v_l14 =>
  mCons v_l14 fun v_Tables20 l92 =>
  mSlice v_Tables20 fun v_Tables21 v_Tables_n10 v_Tables_c10 =>
  mCons l92 fun v_Seq20 l93 =>
  mInt .u64 v_Seq20 fun v_Seq21 =>
  mCons l93 fun v_Next20 l94 =>
  mInt .i64 v_Next20 fun v_Next21 =>
  mCons l94 fun v_Wal20 l95 =>
  mInt .i64 v_Wal20 fun v_Wal21 =>
  mNil l95 (
  mCons l91 fun v43 l96 =>
  mInt .i64 v43 fun v44 =>
  mNil l96 (
  ST w_90 p10 (.slice v_Tables21 v_Tables_n10 v_Tables_c10) fun w_91 =>
  ST w_91 (Addr.add p10 1) (.int .u64 v_Seq21) fun w_92 =>
  ST w_92 (Addr.add p10 2) (.int .i64 v_Next21) fun w_93 =>
  ST w_93 (Addr.add p10 3) (.int .i64 v_Wal21) fun w_94 =>
  LDSl w_94 p fun Tables6 Tables_n6 Tables_c6 =>
  LDI .u64 w_94 (Addr.add p 1) fun Seq6 =>
  LDI .i64 w_94 (Addr.add p 2) fun Next6 =>
  LDI .i64 w_94 (Addr.add p 3) fun Wal6 =>
  AL w_94 (.cells #[(.int .i64 7)] 3) fun b19 w_95 =>
  AL w_95 (.cells #[(.slice none 0 0), (.slice (some b19) 1 1), (.int .u64 0), (.int .i64 0), (.int .i64 0)] 31) fun b20 w_96 =>
  CallR Tryd.prog fn_manifest_Apply #[(.agg #[(.slice Tables6 Tables_n6 Tables_c6), (.int .u64 Seq6), (.int .i64 Next6), (.int .i64 Wal6)]), (.slice (some b20) 1 1)] w_96 fun res19 w_97 =>
  known_s15 v2 p v5 v44 res19 w_97 R))

def known_s17 (v2 : Int) (p : Addr) (v5 : Int) (Tables1 : Option Addr) (Tables_n1 : Nat) (Tables_c1 : Nat) (Seq1 : Int) (Next1 : Int) (Wal1 : Int) (p10 : Addr) (res17 : Value) (w_87 : World) (R : Value → World → Prop) : Prop :=
  mAgg res17 fun v_l13 =>
  mCons v_l13 fun v_File6 l85 =>
  mInt .i64 v_File6 fun v_File7 =>
  mCons l85 fun v_Level6 l86 =>
  mInt .i64 v_Level6 fun v_Level7 =>
  mCons l86 fun v_First6 l87 =>
  mStr v_First6 fun v_First7 =>
  mCons l87 fun v_Last6 l88 =>
  mStr v_Last6 fun v_Last7 =>
  mCons l88 fun v_Size6 l89 =>
  mInt .i64 v_Size6 fun v_Size7 =>
  mNil l89 (
  (World.cell? w_87 p = some (.slice Tables1 Tables_n1 Tables_c1) ∧ 
  (World.cell? w_87 (Addr.add p 1) = some (.int .u64 Seq1) ∧ 
  (World.cell? w_87 (Addr.add p 2) = some (.int .i64 Next1) ∧ 
  (World.cell? w_87 (Addr.add p 3) = some (.int .i64 Wal1) ∧ 
  AL w_87 (.cells #[(.int .i64 v_File7), (.int .i64 v_Level7), (.string v_First7), (.string v_Last7), (.int .i64 v_Size7)] 38) fun b17 w_88 =>
  (World.cell? w_88 p = some (.slice Tables1 Tables_n1 Tables_c1) ∧ 
  (World.cell? w_88 (Addr.add p 1) = some (.int .u64 Seq1) ∧ 
  (World.cell? w_88 (Addr.add p 2) = some (.int .i64 Next1) ∧ 
  (World.cell? w_88 (Addr.add p 3) = some (.int .i64 Wal1) ∧ 
  (w_88 = w_88 ∧ 
  AL w_88 (.cells #[(.slice (some b17) 1 1), (.slice none 0 0), (.int .u64 0), (.int .i64 0), (.int .i64 0)] 31) fun b18 w_89 =>
  (World.cell? w_89 p = some (.slice Tables1 Tables_n1 Tables_c1) ∧ 
  (World.cell? w_89 (Addr.add p 1) = some (.int .u64 Seq1) ∧ 
  (World.cell? w_89 (Addr.add p 2) = some (.int .i64 Next1) ∧ 
  (World.cell? w_89 (Addr.add p 3) = some (.int .i64 Wal1) ∧ 
  CallR Tryd.prog fn_manifest_Apply #[(.agg #[(.slice Tables1 Tables_n1 Tables_c1), (.int .u64 Seq1), (.int .i64 Next1), (.int .i64 Wal1)]), (.slice (some b18) 1 1)] w_89 fun res18 w_90 =>
  known_s16 v2 p v5 p10 res18 w_90 R))))))))))))))

def known_s18 (v2 : Int) (p : Addr) (res3 : Value) (w_13 : World) (R : Value → World → Prop) : Prop :=
  mTup res3 fun l17 =>
  mCons l17 fun v3 l18 =>
  mAgg v3 fun v_l3 =>
  mCons v_l3 fun v_Tables2 l19 =>
  mSlice v_Tables2 fun v_Tables3 v_Tables_n1 v_Tables_c1 =>
  mCons l19 fun v_Seq2 l20 =>
  mInt .u64 v_Seq2 fun v_Seq3 =>
  mCons l20 fun v_Next2 l21 =>
  mInt .i64 v_Next2 fun v_Next3 =>
  mCons l21 fun v_Wal2 l22 =>
  mInt .i64 v_Wal2 fun v_Wal3 =>
  mNil l22 (
  mCons l18 fun v4 l23 =>
  mInt .i64 v4 fun v5 =>
  mNil l23 (
  AL w_13 (.cells #[(.slice none 0 0), (.int .u64 0), (.int .i64 0), (.int .i64 0)] 27) fun p1 w_14 =>
  ST w_14 p1 (.slice v_Tables3 v_Tables_n1 v_Tables_c1) fun w_15 =>
  ST w_15 (Addr.add p1 1) (.int .u64 v_Seq3) fun w_16 =>
  ST w_16 (Addr.add p1 2) (.int .i64 v_Next3) fun w_17 =>
  ST w_17 (Addr.add p1 3) (.int .i64 v_Wal3) fun w_18 =>
  LetW (World.drew w_18) fun w_19 =>
  LDSl w_19 p fun Tables1 Tables_n1 Tables_c1 =>
  LDI .u64 w_19 (Addr.add p 1) fun Seq1 =>
  LDI .i64 w_19 (Addr.add p 2) fun Next1 =>
  LDI .i64 w_19 (Addr.add p 3) fun Wal1 =>
  (
  CallR Tryd.prog fn_glacierlaw8_table #[(.int .i64 2), (.int .i64 0), (.string (ByteArray.mk #[99])), (.string (ByteArray.mk #[100]))] w_19 fun res4 w_20 =>
  known_s13 v2 p v5 Tables1 Tables_n1 Tables_c1 Seq1 Next1 Wal1 res4 w_20 R) ∧ (
  AL w_19 (.cells #[(.slice none 0 0), (.int .u64 0), (.int .i64 0), (.int .i64 0)] 27) fun p10 w_86 =>
  (World.cell? w_86 p = some (.slice Tables1 Tables_n1 Tables_c1) ∧ 
  (World.cell? w_86 (Addr.add p 1) = some (.int .u64 Seq1) ∧ 
  (World.cell? w_86 (Addr.add p 2) = some (.int .i64 Next1) ∧ 
  (World.cell? w_86 (Addr.add p 3) = some (.int .i64 Wal1) ∧ 
  CallR Tryd.prog fn_glacierlaw8_table #[(.int .i64 2), (.int .i64 0), (.string (ByteArray.mk #[99])), (.string (ByteArray.mk #[100]))] w_86 fun res17 w_87 =>
  known_s17 v2 p v5 Tables1 Tables_n1 Tables_c1 Seq1 Next1 Wal1 p10 res17 w_87 R)))))))

def known_s19 (res25 : Value) (w_128 : World) (R : Value → World → Prop) : Prop :=
  mStr res25 fun v62 =>
  R (.bool (ByteArray.toList v62 == ByteArray.toList (ByteArray.mk #[116, 45, 48, 48, 48, 48, 48, 51]))) w_128

def known_s20 (v2 : Int) (p : Addr) (v53 : Int) (v56 : Int) (res24 : Value) (w_122 : World) (R : Value → World → Prop) : Prop :=
  mTup res24 fun l123 =>
  mCons l123 fun v57 l124 =>
  mAgg v57 fun v_l19 =>
  mCons v_l19 fun v_Tables28 l125 =>
  mSlice v_Tables28 fun v_Tables29 v_Tables_n14 v_Tables_c14 =>
  mCons l125 fun v_Seq28 l126 =>
  mInt .u64 v_Seq28 fun v_Seq29 =>
  mCons l126 fun v_Next28 l127 =>
  mInt .i64 v_Next28 fun v_Next29 =>
  mCons l127 fun v_Wal28 l128 =>
  mInt .i64 v_Wal28 fun v_Wal29 =>
  mNil l128 (
  mCons l124 fun v58 l129 =>
  mInt .i64 v58 fun v59 =>
  mNil l129 (
  AL w_122 (.cells #[(.slice none 0 0), (.int .u64 0), (.int .i64 0), (.int .i64 0)] 27) fun p14 w_123 =>
  ST w_123 p14 (.slice v_Tables29 v_Tables_n14 v_Tables_c14) fun w_124 =>
  ST w_124 (Addr.add p14 1) (.int .u64 v_Seq29) fun w_125 =>
  ST w_125 (Addr.add p14 2) (.int .i64 v_Next29) fun w_126 =>
  ST w_126 (Addr.add p14 3) (.int .i64 v_Wal29) fun w_127 =>
  Br (v2 == 0) (
  LDSl w_127 p fun _ v_n5 _ =>
  Br ((v_n5 : Int) == 1) (
  LDI .i64 w_127 (Addr.add p 2) fun v61 =>
  Br (v61 == 2) (
  Br (v53 == 15) (
  Br (v56 == 0) (
  Br (v59 == 4) (
  CallR Tryd.prog fn_manifest_File #[(.int .i64 3)] w_127 fun res25 w_128 =>
  known_s19 res25 w_128 R) (
  R (.bool false) w_127)) (
  R (.bool false) w_127)) (
  R (.bool false) w_127)) (
  R (.bool false) w_127)) (
  R (.bool false) w_127)) (
  R (.bool false) w_127)))

def known_s21 (v2 : Int) (p : Addr) (v53 : Int) (res23 : Value) (w_114 : World) (R : Value → World → Prop) : Prop :=
  mTup res23 fun l116 =>
  mCons l116 fun v54 l117 =>
  mAgg v54 fun v_l18 =>
  mCons v_l18 fun v_Tables26 l118 =>
  mSlice v_Tables26 fun v_Tables27 v_Tables_n13 v_Tables_c13 =>
  mCons l118 fun v_Seq26 l119 =>
  mInt .u64 v_Seq26 fun v_Seq27 =>
  mCons l119 fun v_Next26 l120 =>
  mInt .i64 v_Next26 fun v_Next27 =>
  mCons l120 fun v_Wal26 l121 =>
  mInt .i64 v_Wal26 fun v_Wal27 =>
  mNil l121 (
  mCons l117 fun v55 l122 =>
  mInt .i64 v55 fun v56 =>
  mNil l122 (
  AL w_114 (.cells #[(.slice none 0 0), (.int .u64 0), (.int .i64 0), (.int .i64 0)] 27) fun p13 w_115 =>
  ST w_115 p13 (.slice v_Tables27 v_Tables_n13 v_Tables_c13) fun w_116 =>
  ST w_116 (Addr.add p13 1) (.int .u64 v_Seq27) fun w_117 =>
  ST w_117 (Addr.add p13 2) (.int .i64 v_Next27) fun w_118 =>
  ST w_118 (Addr.add p13 3) (.int .i64 v_Wal27) fun w_119 =>
  LDSl w_119 p fun Tables8 Tables_n8 Tables_c8 =>
  LDI .u64 w_119 (Addr.add p 1) fun Seq8 =>
  LDI .i64 w_119 (Addr.add p 2) fun Next8 =>
  LDI .i64 w_119 (Addr.add p 3) fun Wal8 =>
  AL w_119 (.cells #[(.int .i64 7)] 3) fun b23 w_120 =>
  AL w_120 (.cells #[(.slice none 0 0), (.slice (some b23) 1 1), (.int .u64 0), (.int .i64 0), (.int .i64 0)] 31) fun b24 w_121 =>
  CallR Tryd.prog fn_manifest_Apply #[(.agg #[(.slice Tables8 Tables_n8 Tables_c8), (.int .u64 Seq8), (.int .i64 Next8), (.int .i64 Wal8)]), (.slice (some b24) 1 1)] w_121 fun res24 w_122 =>
  known_s20 v2 p v53 v56 res24 w_122 R))

def known_s22 (res28 : Value) (w_143 : World) (R : Value → World → Prop) : Prop :=
  mStr res28 fun v71 =>
  R (.bool (ByteArray.toList v71 == ByteArray.toList (ByteArray.mk #[116, 45, 48, 48, 48, 48, 48, 51]))) w_143

def known_s23 (v2 : Int) (p : Addr) (v53 : Int) (v65 : Int) (res27 : Value) (w_137 : World) (R : Value → World → Prop) : Prop :=
  mTup res27 fun l137 =>
  mCons l137 fun v66 l138 =>
  mAgg v66 fun v_l21 =>
  mCons v_l21 fun v_Tables32 l139 =>
  mSlice v_Tables32 fun v_Tables33 v_Tables_n16 v_Tables_c16 =>
  mCons l139 fun v_Seq32 l140 =>
  mInt .u64 v_Seq32 fun v_Seq33 =>
  mCons l140 fun v_Next32 l141 =>
  mInt .i64 v_Next32 fun v_Next33 =>
  mCons l141 fun v_Wal32 l142 =>
  mInt .i64 v_Wal32 fun v_Wal33 =>
  mNil l142 (
  mCons l138 fun v67 l143 =>
  mInt .i64 v67 fun v68 =>
  mNil l143 (
  AL w_137 (.cells #[(.slice none 0 0), (.int .u64 0), (.int .i64 0), (.int .i64 0)] 27) fun p16 w_138 =>
  ST w_138 p16 (.slice v_Tables33 v_Tables_n16 v_Tables_c16) fun w_139 =>
  ST w_139 (Addr.add p16 1) (.int .u64 v_Seq33) fun w_140 =>
  ST w_140 (Addr.add p16 2) (.int .i64 v_Next33) fun w_141 =>
  ST w_141 (Addr.add p16 3) (.int .i64 v_Wal33) fun w_142 =>
  Br (v2 == 0) (
  LDSl w_142 p fun _ v_n6 _ =>
  Br ((v_n6 : Int) == 1) (
  LDI .i64 w_142 (Addr.add p 2) fun v70 =>
  Br (v70 == 2) (
  Br (v53 == 15) (
  Br (v65 == 0) (
  Br (v68 == 4) (
  CallR Tryd.prog fn_manifest_File #[(.int .i64 3)] w_142 fun res28 w_143 =>
  known_s22 res28 w_143 R) (
  R (.bool false) w_142)) (
  R (.bool false) w_142)) (
  R (.bool false) w_142)) (
  R (.bool false) w_142)) (
  R (.bool false) w_142)) (
  R (.bool false) w_142)))

def known_s24 (v2 : Int) (p : Addr) (v53 : Int) (p15 : Addr) (res26 : Value) (w_130 : World) (R : Value → World → Prop) : Prop :=
  mTup res26 fun l130 =>
  mCons l130 fun v63 l131 =>
  mAgg v63 fun v_l20 =>
  mCons v_l20 fun v_Tables30 l132 =>
  mSlice v_Tables30 fun v_Tables31 v_Tables_n15 v_Tables_c15 =>
  mCons l132 fun v_Seq30 l133 =>
  mInt .u64 v_Seq30 fun v_Seq31 =>
  mCons l133 fun v_Next30 l134 =>
  mInt .i64 v_Next30 fun v_Next31 =>
  mCons l134 fun v_Wal30 l135 =>
  mInt .i64 v_Wal30 fun v_Wal31 =>
  mNil l135 (
  mCons l131 fun v64 l136 =>
  mInt .i64 v64 fun v65 =>
  mNil l136 (
  ST w_130 p15 (.slice v_Tables31 v_Tables_n15 v_Tables_c15) fun w_131 =>
  ST w_131 (Addr.add p15 1) (.int .u64 v_Seq31) fun w_132 =>
  ST w_132 (Addr.add p15 2) (.int .i64 v_Next31) fun w_133 =>
  ST w_133 (Addr.add p15 3) (.int .i64 v_Wal31) fun w_134 =>
  LDSl w_134 p fun Tables9 Tables_n9 Tables_c9 =>
  LDI .u64 w_134 (Addr.add p 1) fun Seq9 =>
  LDI .i64 w_134 (Addr.add p 2) fun Next9 =>
  LDI .i64 w_134 (Addr.add p 3) fun Wal9 =>
  AL w_134 (.cells #[(.int .i64 7)] 3) fun b25 w_135 =>
  AL w_135 (.cells #[(.slice none 0 0), (.slice (some b25) 1 1), (.int .u64 0), (.int .i64 0), (.int .i64 0)] 31) fun b26 w_136 =>
  CallR Tryd.prog fn_manifest_Apply #[(.agg #[(.slice Tables9 Tables_n9 Tables_c9), (.int .u64 Seq9), (.int .i64 Next9), (.int .i64 Wal9)]), (.slice (some b26) 1 1)] w_136 fun res27 w_137 =>
  known_s23 v2 p v53 v65 res27 w_137 R))

def known_s25 (res31 : Value) (w_159 : World) (R : Value → World → Prop) : Prop :=
  mStr res31 fun v80 =>
  R (.bool (ByteArray.toList v80 == ByteArray.toList (ByteArray.mk #[116, 45, 48, 48, 48, 48, 48, 51]))) w_159

def known_s26 (v2 : Int) (p : Addr) (v53 : Int) (v74 : Int) (res30 : Value) (w_153 : World) (R : Value → World → Prop) : Prop :=
  mTup res30 fun l151 =>
  mCons l151 fun v75 l152 =>
  mAgg v75 fun v_l23 =>
  mCons v_l23 fun v_Tables36 l153 =>
  mSlice v_Tables36 fun v_Tables37 v_Tables_n18 v_Tables_c18 =>
  mCons l153 fun v_Seq36 l154 =>
  mInt .u64 v_Seq36 fun v_Seq37 =>
  mCons l154 fun v_Next36 l155 =>
  mInt .i64 v_Next36 fun v_Next37 =>
  mCons l155 fun v_Wal36 l156 =>
  mInt .i64 v_Wal36 fun v_Wal37 =>
  mNil l156 (
  mCons l152 fun v76 l157 =>
  mInt .i64 v76 fun v77 =>
  mNil l157 (
  AL w_153 (.cells #[(.slice none 0 0), (.int .u64 0), (.int .i64 0), (.int .i64 0)] 27) fun p18 w_154 =>
  ST w_154 p18 (.slice v_Tables37 v_Tables_n18 v_Tables_c18) fun w_155 =>
  ST w_155 (Addr.add p18 1) (.int .u64 v_Seq37) fun w_156 =>
  ST w_156 (Addr.add p18 2) (.int .i64 v_Next37) fun w_157 =>
  ST w_157 (Addr.add p18 3) (.int .i64 v_Wal37) fun w_158 =>
  Br (v2 == 0) (
  LDSl w_158 p fun _ v_n7 _ =>
  Br ((v_n7 : Int) == 1) (
  LDI .i64 w_158 (Addr.add p 2) fun v79 =>
  Br (v79 == 2) (
  Br (v53 == 15) (
  Br (v74 == 0) (
  Br (v77 == 4) (
  CallR Tryd.prog fn_manifest_File #[(.int .i64 3)] w_158 fun res31 w_159 =>
  known_s25 res31 w_159 R) (
  R (.bool false) w_158)) (
  R (.bool false) w_158)) (
  R (.bool false) w_158)) (
  R (.bool false) w_158)) (
  R (.bool false) w_158)) (
  R (.bool false) w_158)))

def known_s27 (v2 : Int) (p : Addr) (v53 : Int) (p17 : Addr) (res29 : Value) (w_146 : World) (R : Value → World → Prop) : Prop :=
  mTup res29 fun l144 =>
  mCons l144 fun v72 l145 =>
  mAgg v72 fun v_l22 =>
  mCons v_l22 fun v_Tables34 l146 =>
  mSlice v_Tables34 fun v_Tables35 v_Tables_n17 v_Tables_c17 =>
  mCons l146 fun v_Seq34 l147 =>
  mInt .u64 v_Seq34 fun v_Seq35 =>
  mCons l147 fun v_Next34 l148 =>
  mInt .i64 v_Next34 fun v_Next35 =>
  mCons l148 fun v_Wal34 l149 =>
  mInt .i64 v_Wal34 fun v_Wal35 =>
  mNil l149 (
  mCons l145 fun v73 l150 =>
  mInt .i64 v73 fun v74 =>
  mNil l150 (
  ST w_146 p17 (.slice v_Tables35 v_Tables_n17 v_Tables_c17) fun w_147 =>
  ST w_147 (Addr.add p17 1) (.int .u64 v_Seq35) fun w_148 =>
  ST w_148 (Addr.add p17 2) (.int .i64 v_Next35) fun w_149 =>
  ST w_149 (Addr.add p17 3) (.int .i64 v_Wal35) fun w_150 =>
  LDSl w_150 p fun Tables10 Tables_n10 Tables_c10 =>
  LDI .u64 w_150 (Addr.add p 1) fun Seq10 =>
  LDI .i64 w_150 (Addr.add p 2) fun Next10 =>
  LDI .i64 w_150 (Addr.add p 3) fun Wal10 =>
  AL w_150 (.cells #[(.int .i64 7)] 3) fun b28 w_151 =>
  AL w_151 (.cells #[(.slice none 0 0), (.slice (some b28) 1 1), (.int .u64 0), (.int .i64 0), (.int .i64 0)] 31) fun b29 w_152 =>
  CallR Tryd.prog fn_manifest_Apply #[(.agg #[(.slice Tables10 Tables_n10 Tables_c10), (.int .u64 Seq10), (.int .i64 Next10), (.int .i64 Wal10)]), (.slice (some b29) 1 1)] w_152 fun res30 w_153 =>
  known_s26 v2 p v53 v74 res30 w_153 R))

def known_s28 (res34 : Value) (w_176 : World) (R : Value → World → Prop) : Prop :=
  mStr res34 fun v89 =>
  R (.bool (ByteArray.toList v89 == ByteArray.toList (ByteArray.mk #[116, 45, 48, 48, 48, 48, 48, 51]))) w_176

def known_s29 (v2 : Int) (p : Addr) (v53 : Int) (v83 : Int) (res33 : Value) (w_170 : World) (R : Value → World → Prop) : Prop :=
  mTup res33 fun l165 =>
  mCons l165 fun v84 l166 =>
  mAgg v84 fun v_l25 =>
  mCons v_l25 fun v_Tables40 l167 =>
  mSlice v_Tables40 fun v_Tables41 v_Tables_n20 v_Tables_c20 =>
  mCons l167 fun v_Seq40 l168 =>
  mInt .u64 v_Seq40 fun v_Seq41 =>
  mCons l168 fun v_Next40 l169 =>
  mInt .i64 v_Next40 fun v_Next41 =>
  mCons l169 fun v_Wal40 l170 =>
  mInt .i64 v_Wal40 fun v_Wal41 =>
  mNil l170 (
  mCons l166 fun v85 l171 =>
  mInt .i64 v85 fun v86 =>
  mNil l171 (
  AL w_170 (.cells #[(.slice none 0 0), (.int .u64 0), (.int .i64 0), (.int .i64 0)] 27) fun p20 w_171 =>
  ST w_171 p20 (.slice v_Tables41 v_Tables_n20 v_Tables_c20) fun w_172 =>
  ST w_172 (Addr.add p20 1) (.int .u64 v_Seq41) fun w_173 =>
  ST w_173 (Addr.add p20 2) (.int .i64 v_Next41) fun w_174 =>
  ST w_174 (Addr.add p20 3) (.int .i64 v_Wal41) fun w_175 =>
  Br (v2 == 0) (
  LDSl w_175 p fun _ v_n8 _ =>
  Br ((v_n8 : Int) == 1) (
  LDI .i64 w_175 (Addr.add p 2) fun v88 =>
  Br (v88 == 2) (
  Br (v53 == 15) (
  Br (v83 == 0) (
  Br (v86 == 4) (
  CallR Tryd.prog fn_manifest_File #[(.int .i64 3)] w_175 fun res34 w_176 =>
  known_s28 res34 w_176 R) (
  R (.bool false) w_175)) (
  R (.bool false) w_175)) (
  R (.bool false) w_175)) (
  R (.bool false) w_175)) (
  R (.bool false) w_175)) (
  R (.bool false) w_175)))

def known_s30 (v2 : Int) (p : Addr) (v53 : Int) (p19 : Addr) (res32 : Value) (w_163 : World) (R : Value → World → Prop) : Prop :=
  mTup res32 fun l158 =>
  mCons l158 fun v81 l159 =>
  mAgg v81 fun v_l24 =>
  mCons v_l24 fun v_Tables38 l160 =>
  mSlice v_Tables38 fun v_Tables39 v_Tables_n19 v_Tables_c19 =>
  mCons l160 fun v_Seq38 l161 =>
  mInt .u64 v_Seq38 fun v_Seq39 =>
  mCons l161 fun v_Next38 l162 =>
  mInt .i64 v_Next38 fun v_Next39 =>
  mCons l162 fun v_Wal38 l163 =>
  mInt .i64 v_Wal38 fun v_Wal39 =>
  mNil l163 (
  mCons l159 fun v82 l164 =>
  mInt .i64 v82 fun v83 =>
  mNil l164 (
  ST w_163 p19 (.slice v_Tables39 v_Tables_n19 v_Tables_c19) fun w_164 =>
  ST w_164 (Addr.add p19 1) (.int .u64 v_Seq39) fun w_165 =>
  ST w_165 (Addr.add p19 2) (.int .i64 v_Next39) fun w_166 =>
  ST w_166 (Addr.add p19 3) (.int .i64 v_Wal39) fun w_167 =>
  LDSl w_167 p fun Tables11 Tables_n11 Tables_c11 =>
  LDI .u64 w_167 (Addr.add p 1) fun Seq11 =>
  LDI .i64 w_167 (Addr.add p 2) fun Next11 =>
  LDI .i64 w_167 (Addr.add p 3) fun Wal11 =>
  AL w_167 (.cells #[(.int .i64 7)] 3) fun b32 w_168 =>
  AL w_168 (.cells #[(.slice none 0 0), (.slice (some b32) 1 1), (.int .u64 0), (.int .i64 0), (.int .i64 0)] 31) fun b33 w_169 =>
  CallR Tryd.prog fn_manifest_Apply #[(.agg #[(.slice Tables11 Tables_n11 Tables_c11), (.int .u64 Seq11), (.int .i64 Next11), (.int .i64 Wal11)]), (.slice (some b33) 1 1)] w_169 fun res33 w_170 =>
  known_s29 v2 p v53 v83 res33 w_170 R))

def known_s31 (v2 : Int) (p : Addr) (v53 : Int) (Tables7 : Option Addr) (Tables_n7 : Nat) (Tables_c7 : Nat) (Seq7 : Int) (Next7 : Int) (Wal7 : Int) (res22 : Value) (w_111 : World) (R : Value → World → Prop) : Prop :=
  mAgg res22 fun v_l17 =>
  mCons v_l17 fun v_File8 l111 =>
  mInt .i64 v_File8 fun v_File9 =>
  mCons l111 fun v_Level8 l112 =>
  mInt .i64 v_Level8 fun v_Level9 =>
  mCons l112 fun v_First8 l113 =>
  mStr v_First8 fun v_First9 =>
  mCons l113 fun v_Last8 l114 =>
  mStr v_Last8 fun v_Last9 =>
  mCons l114 fun v_Size8 l115 =>
  mInt .i64 v_Size8 fun v_Size9 =>
  mNil l115 (
  (World.cell? w_111 p = some (.slice Tables7 Tables_n7 Tables_c7) ∧ 
  (World.cell? w_111 (Addr.add p 1) = some (.int .u64 Seq7) ∧ 
  (World.cell? w_111 (Addr.add p 2) = some (.int .i64 Next7) ∧ 
  (World.cell? w_111 (Addr.add p 3) = some (.int .i64 Wal7) ∧ 
  (
  AL w_111 (.cells #[(.int .i64 v_File9), (.int .i64 v_Level9), (.string v_First9), (.string v_Last9), (.int .i64 v_Size9)] 38) fun b21 w_112 =>
  (World.cell? w_112 p = some (.slice Tables7 Tables_n7 Tables_c7) ∧ 
  (World.cell? w_112 (Addr.add p 1) = some (.int .u64 Seq7) ∧ 
  (World.cell? w_112 (Addr.add p 2) = some (.int .i64 Next7) ∧ 
  (World.cell? w_112 (Addr.add p 3) = some (.int .i64 Wal7) ∧ 
  (w_112 = w_112 ∧ 
  (
  AL w_112 (.cells #[(.slice (some b21) 1 1), (.slice none 0 0), (.int .u64 0), (.int .i64 0), (.int .i64 0)] 31) fun b22 w_113 =>
  (World.cell? w_113 p = some (.slice Tables7 Tables_n7 Tables_c7) ∧ 
  (World.cell? w_113 (Addr.add p 1) = some (.int .u64 Seq7) ∧ 
  (World.cell? w_113 (Addr.add p 2) = some (.int .i64 Next7) ∧ 
  (World.cell? w_113 (Addr.add p 3) = some (.int .i64 Wal7) ∧ 
  (
  CallR Tryd.prog fn_manifest_Apply #[(.agg #[(.slice Tables7 Tables_n7 Tables_c7), (.int .u64 Seq7), (.int .i64 Next7), (.int .i64 Wal7)]), (.slice (some b22) 1 1)] w_113 fun res23 w_114 =>
  known_s21 v2 p v53 res23 w_114 R) ∧ (
  AL w_113 (.cells #[(.slice none 0 0), (.int .u64 0), (.int .i64 0), (.int .i64 0)] 27) fun p15 w_129 =>
  (World.cell? w_129 p = some (.slice Tables7 Tables_n7 Tables_c7) ∧ 
  (World.cell? w_129 (Addr.add p 1) = some (.int .u64 Seq7) ∧ 
  (World.cell? w_129 (Addr.add p 2) = some (.int .i64 Next7) ∧ 
  (World.cell? w_129 (Addr.add p 3) = some (.int .i64 Wal7) ∧ 
  CallR Tryd.prog fn_manifest_Apply #[(.agg #[(.slice Tables7 Tables_n7 Tables_c7), (.int .u64 Seq7), (.int .i64 Next7), (.int .i64 Wal7)]), (.slice (some b22) 1 1)] w_129 fun res26 w_130 =>
  known_s24 v2 p v53 p15 res26 w_130 R)))))))))) ∧ (
  AL w_112 (.cells #[(.slice none 0 0), (.int .u64 0), (.int .i64 0), (.int .i64 0)] 27) fun p17 w_144 =>
  (((w_144 = w_144 ∧ ((.agg #[(.slice (some b21) 1 1), (.slice none 0 0), (.int .u64 0), (.int .i64 0), (.int .i64 0)]) : Value) = (.agg #[(.slice (some b21) 1 1), (.slice none 0 0), (.int .u64 0), (.int .i64 0), (.int .i64 0)]))) ∧ 
  (World.cell? w_144 p = some (.slice Tables7 Tables_n7 Tables_c7) ∧ 
  (World.cell? w_144 (Addr.add p 1) = some (.int .u64 Seq7) ∧ 
  (World.cell? w_144 (Addr.add p 2) = some (.int .i64 Next7) ∧ 
  (World.cell? w_144 (Addr.add p 3) = some (.int .i64 Wal7) ∧ 
  AL w_144 (.cells #[(.slice (some b21) 1 1), (.slice none 0 0), (.int .u64 0), (.int .i64 0), (.int .i64 0)] 31) fun b27 w_145 =>
  (World.cell? w_145 p = some (.slice Tables7 Tables_n7 Tables_c7) ∧ 
  (World.cell? w_145 (Addr.add p 1) = some (.int .u64 Seq7) ∧ 
  (World.cell? w_145 (Addr.add p 2) = some (.int .i64 Next7) ∧ 
  (World.cell? w_145 (Addr.add p 3) = some (.int .i64 Wal7) ∧ 
  CallR Tryd.prog fn_manifest_Apply #[(.agg #[(.slice Tables7 Tables_n7 Tables_c7), (.int .u64 Seq7), (.int .i64 Next7), (.int .i64 Wal7)]), (.slice (some b27) 1 1)] w_145 fun res29 w_146 =>
  known_s27 v2 p v53 p17 res29 w_146 R)))))))))))))))) ∧ (
  AL w_111 (.cells #[(.slice none 0 0), (.int .u64 0), (.int .i64 0), (.int .i64 0)] 27) fun p19 w_160 =>
  (World.cell? w_160 p = some (.slice Tables7 Tables_n7 Tables_c7) ∧ 
  (World.cell? w_160 (Addr.add p 1) = some (.int .u64 Seq7) ∧ 
  (World.cell? w_160 (Addr.add p 2) = some (.int .i64 Next7) ∧ 
  (World.cell? w_160 (Addr.add p 3) = some (.int .i64 Wal7) ∧ 
  AL w_160 (.cells #[(.int .i64 v_File9), (.int .i64 v_Level9), (.string v_First9), (.string v_Last9), (.int .i64 v_Size9)] 38) fun b30 w_161 =>
  (World.cell? w_161 p = some (.slice Tables7 Tables_n7 Tables_c7) ∧ 
  (World.cell? w_161 (Addr.add p 1) = some (.int .u64 Seq7) ∧ 
  (World.cell? w_161 (Addr.add p 2) = some (.int .i64 Next7) ∧ 
  (World.cell? w_161 (Addr.add p 3) = some (.int .i64 Wal7) ∧ 
  (w_161 = w_161 ∧ 
  AL w_161 (.cells #[(.slice (some b30) 1 1), (.slice none 0 0), (.int .u64 0), (.int .i64 0), (.int .i64 0)] 31) fun b31 w_162 =>
  (World.cell? w_162 p = some (.slice Tables7 Tables_n7 Tables_c7) ∧ 
  (World.cell? w_162 (Addr.add p 1) = some (.int .u64 Seq7) ∧ 
  (World.cell? w_162 (Addr.add p 2) = some (.int .i64 Next7) ∧ 
  (World.cell? w_162 (Addr.add p 3) = some (.int .i64 Wal7) ∧ 
  CallR Tryd.prog fn_manifest_Apply #[(.agg #[(.slice Tables7 Tables_n7 Tables_c7), (.int .u64 Seq7), (.int .i64 Next7), (.int .i64 Wal7)]), (.slice (some b31) 1 1)] w_162 fun res32 w_163 =>
  known_s30 v2 p v53 p19 res32 w_163 R)))))))))))))))))))

def known_s32 (res38 : Value) (w_194 : World) (R : Value → World → Prop) : Prop :=
  mStr res38 fun v98 =>
  R (.bool (ByteArray.toList v98 == ByteArray.toList (ByteArray.mk #[116, 45, 48, 48, 48, 48, 48, 51]))) w_194

def known_s33 (v2 : Int) (p : Addr) (v53 : Int) (v92 : Int) (res37 : Value) (w_188 : World) (R : Value → World → Prop) : Prop :=
  mTup res37 fun l184 =>
  mCons l184 fun v93 l185 =>
  mAgg v93 fun v_l28 =>
  mCons v_l28 fun v_Tables44 l186 =>
  mSlice v_Tables44 fun v_Tables45 v_Tables_n22 v_Tables_c22 =>
  mCons l186 fun v_Seq44 l187 =>
  mInt .u64 v_Seq44 fun v_Seq45 =>
  mCons l187 fun v_Next44 l188 =>
  mInt .i64 v_Next44 fun v_Next45 =>
  mCons l188 fun v_Wal44 l189 =>
  mInt .i64 v_Wal44 fun v_Wal45 =>
  mNil l189 (
  mCons l185 fun v94 l190 =>
  mInt .i64 v94 fun v95 =>
  mNil l190 (
  AL w_188 (.cells #[(.slice none 0 0), (.int .u64 0), (.int .i64 0), (.int .i64 0)] 27) fun p22 w_189 =>
  ST w_189 p22 (.slice v_Tables45 v_Tables_n22 v_Tables_c22) fun w_190 =>
  ST w_190 (Addr.add p22 1) (.int .u64 v_Seq45) fun w_191 =>
  ST w_191 (Addr.add p22 2) (.int .i64 v_Next45) fun w_192 =>
  ST w_192 (Addr.add p22 3) (.int .i64 v_Wal45) fun w_193 =>
  Br (v2 == 0) (
  LDSl w_193 p fun _ v_n9 _ =>
  Br ((v_n9 : Int) == 1) (
  LDI .i64 w_193 (Addr.add p 2) fun v97 =>
  Br (v97 == 2) (
  Br (v53 == 15) (
  Br (v92 == 0) (
  Br (v95 == 4) (
  CallR Tryd.prog fn_manifest_File #[(.int .i64 3)] w_193 fun res38 w_194 =>
  known_s32 res38 w_194 R) (
  R (.bool false) w_193)) (
  R (.bool false) w_193)) (
  R (.bool false) w_193)) (
  R (.bool false) w_193)) (
  R (.bool false) w_193)) (
  R (.bool false) w_193)))

def known_s34 (v2 : Int) (p : Addr) (v53 : Int) (p21 : Addr) (res36 : Value) (w_181 : World) (R : Value → World → Prop) : Prop :=
  mTup res36 fun l177 =>
  mCons l177 fun v90 l178 =>
  mAgg v90 fun v_l27 =>
  mCons v_l27 fun v_Tables42 l179 =>
  mSlice v_Tables42 fun v_Tables43 v_Tables_n21 v_Tables_c21 =>
  mCons l179 fun v_Seq42 l180 =>
  mInt .u64 v_Seq42 fun v_Seq43 =>
  mCons l180 fun v_Next42 l181 =>
  mInt .i64 v_Next42 fun v_Next43 =>
  mCons l181 fun v_Wal42 l182 =>
  mInt .i64 v_Wal42 fun v_Wal43 =>
  mNil l182 (
  mCons l178 fun v91 l183 =>
  mInt .i64 v91 fun v92 =>
  mNil l183 (
  ST w_181 p21 (.slice v_Tables43 v_Tables_n21 v_Tables_c21) fun w_182 =>
  ST w_182 (Addr.add p21 1) (.int .u64 v_Seq43) fun w_183 =>
  ST w_183 (Addr.add p21 2) (.int .i64 v_Next43) fun w_184 =>
  ST w_184 (Addr.add p21 3) (.int .i64 v_Wal43) fun w_185 =>
  LDSl w_185 p fun Tables12 Tables_n12 Tables_c12 =>
  LDI .u64 w_185 (Addr.add p 1) fun Seq12 =>
  LDI .i64 w_185 (Addr.add p 2) fun Next12 =>
  LDI .i64 w_185 (Addr.add p 3) fun Wal12 =>
  AL w_185 (.cells #[(.int .i64 7)] 3) fun b36 w_186 =>
  AL w_186 (.cells #[(.slice none 0 0), (.slice (some b36) 1 1), (.int .u64 0), (.int .i64 0), (.int .i64 0)] 31) fun b37 w_187 =>
  CallR Tryd.prog fn_manifest_Apply #[(.agg #[(.slice Tables12 Tables_n12 Tables_c12), (.int .u64 Seq12), (.int .i64 Next12), (.int .i64 Wal12)]), (.slice (some b37) 1 1)] w_187 fun res37 w_188 =>
  known_s33 v2 p v53 v92 res37 w_188 R))

def known_s35 (v2 : Int) (p : Addr) (v53 : Int) (Tables7 : Option Addr) (Tables_n7 : Nat) (Tables_c7 : Nat) (Seq7 : Int) (Next7 : Int) (Wal7 : Int) (p21 : Addr) (res35 : Value) (w_178 : World) (R : Value → World → Prop) : Prop :=
  mAgg res35 fun v_l26 =>
  mCons v_l26 fun v_File10 l172 =>
  mInt .i64 v_File10 fun v_File11 =>
  mCons l172 fun v_Level10 l173 =>
  mInt .i64 v_Level10 fun v_Level11 =>
  mCons l173 fun v_First10 l174 =>
  mStr v_First10 fun v_First11 =>
  mCons l174 fun v_Last10 l175 =>
  mStr v_Last10 fun v_Last11 =>
  mCons l175 fun v_Size10 l176 =>
  mInt .i64 v_Size10 fun v_Size11 =>
  mNil l176 (
  (World.cell? w_178 p = some (.slice Tables7 Tables_n7 Tables_c7) ∧ 
  (World.cell? w_178 (Addr.add p 1) = some (.int .u64 Seq7) ∧ 
  (World.cell? w_178 (Addr.add p 2) = some (.int .i64 Next7) ∧ 
  (World.cell? w_178 (Addr.add p 3) = some (.int .i64 Wal7) ∧ 
  AL w_178 (.cells #[(.int .i64 v_File11), (.int .i64 v_Level11), (.string v_First11), (.string v_Last11), (.int .i64 v_Size11)] 38) fun b34 w_179 =>
  (World.cell? w_179 p = some (.slice Tables7 Tables_n7 Tables_c7) ∧ 
  (World.cell? w_179 (Addr.add p 1) = some (.int .u64 Seq7) ∧ 
  (World.cell? w_179 (Addr.add p 2) = some (.int .i64 Next7) ∧ 
  (World.cell? w_179 (Addr.add p 3) = some (.int .i64 Wal7) ∧ 
  (w_179 = w_179 ∧ 
  AL w_179 (.cells #[(.slice (some b34) 1 1), (.slice none 0 0), (.int .u64 0), (.int .i64 0), (.int .i64 0)] 31) fun b35 w_180 =>
  (World.cell? w_180 p = some (.slice Tables7 Tables_n7 Tables_c7) ∧ 
  (World.cell? w_180 (Addr.add p 1) = some (.int .u64 Seq7) ∧ 
  (World.cell? w_180 (Addr.add p 2) = some (.int .i64 Next7) ∧ 
  (World.cell? w_180 (Addr.add p 3) = some (.int .i64 Wal7) ∧ 
  CallR Tryd.prog fn_manifest_Apply #[(.agg #[(.slice Tables7 Tables_n7 Tables_c7), (.int .u64 Seq7), (.int .i64 Next7), (.int .i64 Wal7)]), (.slice (some b35) 1 1)] w_180 fun res36 w_181 =>
  known_s34 v2 p v53 p21 res36 w_181 R))))))))))))))

def known_s36 (v2 : Int) (p : Addr) (p12 : Addr) (res21 : Value) (w_105 : World) (R : Value → World → Prop) : Prop :=
  mTup res21 fun l104 =>
  mCons l104 fun v51 l105 =>
  mAgg v51 fun v_l16 =>
  mCons v_l16 fun v_Tables24 l106 =>
  mSlice v_Tables24 fun v_Tables25 v_Tables_n12 v_Tables_c12 =>
  mCons l106 fun v_Seq24 l107 =>
  mInt .u64 v_Seq24 fun v_Seq25 =>
  mCons l107 fun v_Next24 l108 =>
  mInt .i64 v_Next24 fun v_Next25 =>
  mCons l108 fun v_Wal24 l109 =>
  mInt .i64 v_Wal24 fun v_Wal25 =>
  mNil l109 (
  mCons l105 fun v52 l110 =>
  mInt .i64 v52 fun v53 =>
  mNil l110 (
  ST w_105 p12 (.slice v_Tables25 v_Tables_n12 v_Tables_c12) fun w_106 =>
  ST w_106 (Addr.add p12 1) (.int .u64 v_Seq25) fun w_107 =>
  ST w_107 (Addr.add p12 2) (.int .i64 v_Next25) fun w_108 =>
  ST w_108 (Addr.add p12 3) (.int .i64 v_Wal25) fun w_109 =>
  LetW (World.drew w_109) fun w_110 =>
  LDSl w_110 p fun Tables7 Tables_n7 Tables_c7 =>
  LDI .u64 w_110 (Addr.add p 1) fun Seq7 =>
  LDI .i64 w_110 (Addr.add p 2) fun Next7 =>
  LDI .i64 w_110 (Addr.add p 3) fun Wal7 =>
  (
  CallR Tryd.prog fn_glacierlaw8_table #[(.int .i64 2), (.int .i64 0), (.string (ByteArray.mk #[99])), (.string (ByteArray.mk #[100]))] w_110 fun res22 w_111 =>
  known_s31 v2 p v53 Tables7 Tables_n7 Tables_c7 Seq7 Next7 Wal7 res22 w_111 R) ∧ (
  AL w_110 (.cells #[(.slice none 0 0), (.int .u64 0), (.int .i64 0), (.int .i64 0)] 27) fun p21 w_177 =>
  (World.cell? w_177 p = some (.slice Tables7 Tables_n7 Tables_c7) ∧ 
  (World.cell? w_177 (Addr.add p 1) = some (.int .u64 Seq7) ∧ 
  (World.cell? w_177 (Addr.add p 2) = some (.int .i64 Next7) ∧ 
  (World.cell? w_177 (Addr.add p 3) = some (.int .i64 Wal7) ∧ 
  CallR Tryd.prog fn_glacierlaw8_table #[(.int .i64 2), (.int .i64 0), (.string (ByteArray.mk #[99])), (.string (ByteArray.mk #[100]))] w_177 fun res35 w_178 =>
  known_s35 v2 p v53 Tables7 Tables_n7 Tables_c7 Seq7 Next7 Wal7 p21 res35 w_178 R)))))))

def known_s37 (res43 : Value) (w_220 : World) (R : Value → World → Prop) : Prop :=
  mStr res43 fun v110 =>
  R (.bool (ByteArray.toList v110 == ByteArray.toList (ByteArray.mk #[116, 45, 48, 48, 48, 48, 48, 51]))) w_220

def known_s38 (v2 : Int) (p : Addr) (v101 : Int) (v104 : Int) (res42 : Value) (w_214 : World) (R : Value → World → Prop) : Prop :=
  mTup res42 fun l210 =>
  mCons l210 fun v105 l211 =>
  mAgg v105 fun v_l32 =>
  mCons v_l32 fun v_Tables50 l212 =>
  mSlice v_Tables50 fun v_Tables51 v_Tables_n25 v_Tables_c25 =>
  mCons l212 fun v_Seq50 l213 =>
  mInt .u64 v_Seq50 fun v_Seq51 =>
  mCons l213 fun v_Next50 l214 =>
  mInt .i64 v_Next50 fun v_Next51 =>
  mCons l214 fun v_Wal50 l215 =>
  mInt .i64 v_Wal50 fun v_Wal51 =>
  mNil l215 (
  mCons l211 fun v106 l216 =>
  mInt .i64 v106 fun v107 =>
  mNil l216 (
  AL w_214 (.cells #[(.slice none 0 0), (.int .u64 0), (.int .i64 0), (.int .i64 0)] 27) fun p25 w_215 =>
  ST w_215 p25 (.slice v_Tables51 v_Tables_n25 v_Tables_c25) fun w_216 =>
  ST w_216 (Addr.add p25 1) (.int .u64 v_Seq51) fun w_217 =>
  ST w_217 (Addr.add p25 2) (.int .i64 v_Next51) fun w_218 =>
  ST w_218 (Addr.add p25 3) (.int .i64 v_Wal51) fun w_219 =>
  Br (v2 == 0) (
  LDSl w_219 p fun _ v_n10 _ =>
  Br ((v_n10 : Int) == 1) (
  LDI .i64 w_219 (Addr.add p 2) fun v109 =>
  Br (v109 == 2) (
  Br (v101 == 15) (
  Br (v104 == 0) (
  Br (v107 == 4) (
  CallR Tryd.prog fn_manifest_File #[(.int .i64 3)] w_219 fun res43 w_220 =>
  known_s37 res43 w_220 R) (
  R (.bool false) w_219)) (
  R (.bool false) w_219)) (
  R (.bool false) w_219)) (
  R (.bool false) w_219)) (
  R (.bool false) w_219)) (
  R (.bool false) w_219)))

def known_s39 (v2 : Int) (p : Addr) (v101 : Int) (res41 : Value) (w_206 : World) (R : Value → World → Prop) : Prop :=
  mTup res41 fun l203 =>
  mCons l203 fun v102 l204 =>
  mAgg v102 fun v_l31 =>
  mCons v_l31 fun v_Tables48 l205 =>
  mSlice v_Tables48 fun v_Tables49 v_Tables_n24 v_Tables_c24 =>
  mCons l205 fun v_Seq48 l206 =>
  mInt .u64 v_Seq48 fun v_Seq49 =>
  mCons l206 fun v_Next48 l207 =>
  mInt .i64 v_Next48 fun v_Next49 =>
  mCons l207 fun v_Wal48 l208 =>
  mInt .i64 v_Wal48 fun v_Wal49 =>
  mNil l208 (
  mCons l204 fun v103 l209 =>
  mInt .i64 v103 fun v104 =>
  mNil l209 (
  AL w_206 (.cells #[(.slice none 0 0), (.int .u64 0), (.int .i64 0), (.int .i64 0)] 27) fun p24 w_207 =>
  ST w_207 p24 (.slice v_Tables49 v_Tables_n24 v_Tables_c24) fun w_208 =>
  ST w_208 (Addr.add p24 1) (.int .u64 v_Seq49) fun w_209 =>
  ST w_209 (Addr.add p24 2) (.int .i64 v_Next49) fun w_210 =>
  ST w_210 (Addr.add p24 3) (.int .i64 v_Wal49) fun w_211 =>
  LDSl w_211 p fun Tables14 Tables_n14 Tables_c14 =>
  LDI .u64 w_211 (Addr.add p 1) fun Seq14 =>
  LDI .i64 w_211 (Addr.add p 2) fun Next14 =>
  LDI .i64 w_211 (Addr.add p 3) fun Wal14 =>
  AL w_211 (.cells #[(.int .i64 7)] 3) fun b41 w_212 =>
  AL w_212 (.cells #[(.slice none 0 0), (.slice (some b41) 1 1), (.int .u64 0), (.int .i64 0), (.int .i64 0)] 31) fun b42 w_213 =>
  CallR Tryd.prog fn_manifest_Apply #[(.agg #[(.slice Tables14 Tables_n14 Tables_c14), (.int .u64 Seq14), (.int .i64 Next14), (.int .i64 Wal14)]), (.slice (some b42) 1 1)] w_213 fun res42 w_214 =>
  known_s38 v2 p v101 v104 res42 w_214 R))

def known_s40 (res46 : Value) (w_235 : World) (R : Value → World → Prop) : Prop :=
  mStr res46 fun v119 =>
  R (.bool (ByteArray.toList v119 == ByteArray.toList (ByteArray.mk #[116, 45, 48, 48, 48, 48, 48, 51]))) w_235

def known_s41 (v2 : Int) (p : Addr) (v101 : Int) (v113 : Int) (res45 : Value) (w_229 : World) (R : Value → World → Prop) : Prop :=
  mTup res45 fun l224 =>
  mCons l224 fun v114 l225 =>
  mAgg v114 fun v_l34 =>
  mCons v_l34 fun v_Tables54 l226 =>
  mSlice v_Tables54 fun v_Tables55 v_Tables_n27 v_Tables_c27 =>
  mCons l226 fun v_Seq54 l227 =>
  mInt .u64 v_Seq54 fun v_Seq55 =>
  mCons l227 fun v_Next54 l228 =>
  mInt .i64 v_Next54 fun v_Next55 =>
  mCons l228 fun v_Wal54 l229 =>
  mInt .i64 v_Wal54 fun v_Wal55 =>
  mNil l229 (
  mCons l225 fun v115 l230 =>
  mInt .i64 v115 fun v116 =>
  mNil l230 (
  AL w_229 (.cells #[(.slice none 0 0), (.int .u64 0), (.int .i64 0), (.int .i64 0)] 27) fun p27 w_230 =>
  ST w_230 p27 (.slice v_Tables55 v_Tables_n27 v_Tables_c27) fun w_231 =>
  ST w_231 (Addr.add p27 1) (.int .u64 v_Seq55) fun w_232 =>
  ST w_232 (Addr.add p27 2) (.int .i64 v_Next55) fun w_233 =>
  ST w_233 (Addr.add p27 3) (.int .i64 v_Wal55) fun w_234 =>
  Br (v2 == 0) (
  LDSl w_234 p fun _ v_n11 _ =>
  Br ((v_n11 : Int) == 1) (
  LDI .i64 w_234 (Addr.add p 2) fun v118 =>
  Br (v118 == 2) (
  Br (v101 == 15) (
  Br (v113 == 0) (
  Br (v116 == 4) (
  CallR Tryd.prog fn_manifest_File #[(.int .i64 3)] w_234 fun res46 w_235 =>
  known_s40 res46 w_235 R) (
  R (.bool false) w_234)) (
  R (.bool false) w_234)) (
  R (.bool false) w_234)) (
  R (.bool false) w_234)) (
  R (.bool false) w_234)) (
  R (.bool false) w_234)))

def known_s42 (v2 : Int) (p : Addr) (v101 : Int) (p26 : Addr) (res44 : Value) (w_222 : World) (R : Value → World → Prop) : Prop :=
  mTup res44 fun l217 =>
  mCons l217 fun v111 l218 =>
  mAgg v111 fun v_l33 =>
  mCons v_l33 fun v_Tables52 l219 =>
  mSlice v_Tables52 fun v_Tables53 v_Tables_n26 v_Tables_c26 =>
  mCons l219 fun v_Seq52 l220 =>
  mInt .u64 v_Seq52 fun v_Seq53 =>
  mCons l220 fun v_Next52 l221 =>
  mInt .i64 v_Next52 fun v_Next53 =>
  mCons l221 fun v_Wal52 l222 =>
  mInt .i64 v_Wal52 fun v_Wal53 =>
  mNil l222 (
  mCons l218 fun v112 l223 =>
  mInt .i64 v112 fun v113 =>
  mNil l223 (
  ST w_222 p26 (.slice v_Tables53 v_Tables_n26 v_Tables_c26) fun w_223 =>
  ST w_223 (Addr.add p26 1) (.int .u64 v_Seq53) fun w_224 =>
  ST w_224 (Addr.add p26 2) (.int .i64 v_Next53) fun w_225 =>
  ST w_225 (Addr.add p26 3) (.int .i64 v_Wal53) fun w_226 =>
  LDSl w_226 p fun Tables15 Tables_n15 Tables_c15 =>
  LDI .u64 w_226 (Addr.add p 1) fun Seq15 =>
  LDI .i64 w_226 (Addr.add p 2) fun Next15 =>
  LDI .i64 w_226 (Addr.add p 3) fun Wal15 =>
  AL w_226 (.cells #[(.int .i64 7)] 3) fun b43 w_227 =>
  AL w_227 (.cells #[(.slice none 0 0), (.slice (some b43) 1 1), (.int .u64 0), (.int .i64 0), (.int .i64 0)] 31) fun b44 w_228 =>
  CallR Tryd.prog fn_manifest_Apply #[(.agg #[(.slice Tables15 Tables_n15 Tables_c15), (.int .u64 Seq15), (.int .i64 Next15), (.int .i64 Wal15)]), (.slice (some b44) 1 1)] w_228 fun res45 w_229 =>
  known_s41 v2 p v101 v113 res45 w_229 R))

def known_s43 (res49 : Value) (w_251 : World) (R : Value → World → Prop) : Prop :=
  mStr res49 fun v128 =>
  R (.bool (ByteArray.toList v128 == ByteArray.toList (ByteArray.mk #[116, 45, 48, 48, 48, 48, 48, 51]))) w_251

def known_s44 (v2 : Int) (p : Addr) (v101 : Int) (v122 : Int) (res48 : Value) (w_245 : World) (R : Value → World → Prop) : Prop :=
  mTup res48 fun l238 =>
  mCons l238 fun v123 l239 =>
  mAgg v123 fun v_l36 =>
  mCons v_l36 fun v_Tables58 l240 =>
  mSlice v_Tables58 fun v_Tables59 v_Tables_n29 v_Tables_c29 =>
  mCons l240 fun v_Seq58 l241 =>
  mInt .u64 v_Seq58 fun v_Seq59 =>
  mCons l241 fun v_Next58 l242 =>
  mInt .i64 v_Next58 fun v_Next59 =>
  mCons l242 fun v_Wal58 l243 =>
  mInt .i64 v_Wal58 fun v_Wal59 =>
  mNil l243 (
  mCons l239 fun v124 l244 =>
  mInt .i64 v124 fun v125 =>
  mNil l244 (
  AL w_245 (.cells #[(.slice none 0 0), (.int .u64 0), (.int .i64 0), (.int .i64 0)] 27) fun p29 w_246 =>
  ST w_246 p29 (.slice v_Tables59 v_Tables_n29 v_Tables_c29) fun w_247 =>
  ST w_247 (Addr.add p29 1) (.int .u64 v_Seq59) fun w_248 =>
  ST w_248 (Addr.add p29 2) (.int .i64 v_Next59) fun w_249 =>
  ST w_249 (Addr.add p29 3) (.int .i64 v_Wal59) fun w_250 =>
  Br (v2 == 0) (
  LDSl w_250 p fun _ v_n12 _ =>
  Br ((v_n12 : Int) == 1) (
  LDI .i64 w_250 (Addr.add p 2) fun v127 =>
  Br (v127 == 2) (
  Br (v101 == 15) (
  Br (v122 == 0) (
  Br (v125 == 4) (
  CallR Tryd.prog fn_manifest_File #[(.int .i64 3)] w_250 fun res49 w_251 =>
  known_s43 res49 w_251 R) (
  R (.bool false) w_250)) (
  R (.bool false) w_250)) (
  R (.bool false) w_250)) (
  R (.bool false) w_250)) (
  R (.bool false) w_250)) (
  R (.bool false) w_250)))

def known_s45 (v2 : Int) (p : Addr) (v101 : Int) (p28 : Addr) (res47 : Value) (w_238 : World) (R : Value → World → Prop) : Prop :=
  mTup res47 fun l231 =>
  mCons l231 fun v120 l232 =>
  mAgg v120 fun v_l35 =>
  mCons v_l35 fun v_Tables56 l233 =>
  mSlice v_Tables56 fun v_Tables57 v_Tables_n28 v_Tables_c28 =>
  mCons l233 fun v_Seq56 l234 =>
  mInt .u64 v_Seq56 fun v_Seq57 =>
  mCons l234 fun v_Next56 l235 =>
  mInt .i64 v_Next56 fun v_Next57 =>
  mCons l235 fun v_Wal56 l236 =>
  mInt .i64 v_Wal56 fun v_Wal57 =>
  mNil l236 (
  mCons l232 fun v121 l237 =>
  mInt .i64 v121 fun v122 =>
  mNil l237 (
  ST w_238 p28 (.slice v_Tables57 v_Tables_n28 v_Tables_c28) fun w_239 =>
  ST w_239 (Addr.add p28 1) (.int .u64 v_Seq57) fun w_240 =>
  ST w_240 (Addr.add p28 2) (.int .i64 v_Next57) fun w_241 =>
  ST w_241 (Addr.add p28 3) (.int .i64 v_Wal57) fun w_242 =>
  LDSl w_242 p fun Tables16 Tables_n16 Tables_c16 =>
  LDI .u64 w_242 (Addr.add p 1) fun Seq16 =>
  LDI .i64 w_242 (Addr.add p 2) fun Next16 =>
  LDI .i64 w_242 (Addr.add p 3) fun Wal16 =>
  AL w_242 (.cells #[(.int .i64 7)] 3) fun b46 w_243 =>
  AL w_243 (.cells #[(.slice none 0 0), (.slice (some b46) 1 1), (.int .u64 0), (.int .i64 0), (.int .i64 0)] 31) fun b47 w_244 =>
  CallR Tryd.prog fn_manifest_Apply #[(.agg #[(.slice Tables16 Tables_n16 Tables_c16), (.int .u64 Seq16), (.int .i64 Next16), (.int .i64 Wal16)]), (.slice (some b47) 1 1)] w_244 fun res48 w_245 =>
  known_s44 v2 p v101 v122 res48 w_245 R))

def known_s46 (res52 : Value) (w_268 : World) (R : Value → World → Prop) : Prop :=
  mStr res52 fun v137 =>
  R (.bool (ByteArray.toList v137 == ByteArray.toList (ByteArray.mk #[116, 45, 48, 48, 48, 48, 48, 51]))) w_268

def known_s47 (v2 : Int) (p : Addr) (v101 : Int) (v131 : Int) (res51 : Value) (w_262 : World) (R : Value → World → Prop) : Prop :=
  mTup res51 fun l252 =>
  mCons l252 fun v132 l253 =>
  mAgg v132 fun v_l38 =>
  mCons v_l38 fun v_Tables62 l254 =>
  mSlice v_Tables62 fun v_Tables63 v_Tables_n31 v_Tables_c31 =>
  mCons l254 fun v_Seq62 l255 =>
  mInt .u64 v_Seq62 fun v_Seq63 =>
  mCons l255 fun v_Next62 l256 =>
  mInt .i64 v_Next62 fun v_Next63 =>
  mCons l256 fun v_Wal62 l257 =>
  mInt .i64 v_Wal62 fun v_Wal63 =>
  mNil l257 (
  mCons l253 fun v133 l258 =>
  mInt .i64 v133 fun v134 =>
  mNil l258 (
  AL w_262 (.cells #[(.slice none 0 0), (.int .u64 0), (.int .i64 0), (.int .i64 0)] 27) fun p31 w_263 =>
  ST w_263 p31 (.slice v_Tables63 v_Tables_n31 v_Tables_c31) fun w_264 =>
  ST w_264 (Addr.add p31 1) (.int .u64 v_Seq63) fun w_265 =>
  ST w_265 (Addr.add p31 2) (.int .i64 v_Next63) fun w_266 =>
  ST w_266 (Addr.add p31 3) (.int .i64 v_Wal63) fun w_267 =>
  Br (v2 == 0) (
  LDSl w_267 p fun _ v_n13 _ =>
  Br ((v_n13 : Int) == 1) (
  LDI .i64 w_267 (Addr.add p 2) fun v136 =>
  Br (v136 == 2) (
  Br (v101 == 15) (
  Br (v131 == 0) (
  Br (v134 == 4) (
  CallR Tryd.prog fn_manifest_File #[(.int .i64 3)] w_267 fun res52 w_268 =>
  known_s46 res52 w_268 R) (
  R (.bool false) w_267)) (
  R (.bool false) w_267)) (
  R (.bool false) w_267)) (
  R (.bool false) w_267)) (
  R (.bool false) w_267)) (
  R (.bool false) w_267)))

def known_s48 (v2 : Int) (p : Addr) (v101 : Int) (p30 : Addr) (res50 : Value) (w_255 : World) (R : Value → World → Prop) : Prop :=
  mTup res50 fun l245 =>
  mCons l245 fun v129 l246 =>
  mAgg v129 fun v_l37 =>
  mCons v_l37 fun v_Tables60 l247 =>
  mSlice v_Tables60 fun v_Tables61 v_Tables_n30 v_Tables_c30 =>
  mCons l247 fun v_Seq60 l248 =>
  mInt .u64 v_Seq60 fun v_Seq61 =>
  mCons l248 fun v_Next60 l249 =>
  mInt .i64 v_Next60 fun v_Next61 =>
  mCons l249 fun v_Wal60 l250 =>
  mInt .i64 v_Wal60 fun v_Wal61 =>
  mNil l250 (
  mCons l246 fun v130 l251 =>
  mInt .i64 v130 fun v131 =>
  mNil l251 (
  ST w_255 p30 (.slice v_Tables61 v_Tables_n30 v_Tables_c30) fun w_256 =>
  ST w_256 (Addr.add p30 1) (.int .u64 v_Seq61) fun w_257 =>
  ST w_257 (Addr.add p30 2) (.int .i64 v_Next61) fun w_258 =>
  ST w_258 (Addr.add p30 3) (.int .i64 v_Wal61) fun w_259 =>
  LDSl w_259 p fun Tables17 Tables_n17 Tables_c17 =>
  LDI .u64 w_259 (Addr.add p 1) fun Seq17 =>
  LDI .i64 w_259 (Addr.add p 2) fun Next17 =>
  LDI .i64 w_259 (Addr.add p 3) fun Wal17 =>
  AL w_259 (.cells #[(.int .i64 7)] 3) fun b50 w_260 =>
  AL w_260 (.cells #[(.slice none 0 0), (.slice (some b50) 1 1), (.int .u64 0), (.int .i64 0), (.int .i64 0)] 31) fun b51 w_261 =>
  CallR Tryd.prog fn_manifest_Apply #[(.agg #[(.slice Tables17 Tables_n17 Tables_c17), (.int .u64 Seq17), (.int .i64 Next17), (.int .i64 Wal17)]), (.slice (some b51) 1 1)] w_261 fun res51 w_262 =>
  known_s47 v2 p v101 v131 res51 w_262 R))

def known_s49 (v2 : Int) (p : Addr) (v101 : Int) (Tables13 : Option Addr) (Tables_n13 : Nat) (Tables_c13 : Nat) (Seq13 : Int) (Next13 : Int) (Wal13 : Int) (res40 : Value) (w_203 : World) (R : Value → World → Prop) : Prop :=
  mAgg res40 fun v_l30 =>
  mCons v_l30 fun v_File12 l198 =>
  mInt .i64 v_File12 fun v_File13 =>
  mCons l198 fun v_Level12 l199 =>
  mInt .i64 v_Level12 fun v_Level13 =>
  mCons l199 fun v_First12 l200 =>
  mStr v_First12 fun v_First13 =>
  mCons l200 fun v_Last12 l201 =>
  mStr v_Last12 fun v_Last13 =>
  mCons l201 fun v_Size12 l202 =>
  mInt .i64 v_Size12 fun v_Size13 =>
  mNil l202 (
  (World.cell? w_203 p = some (.slice Tables13 Tables_n13 Tables_c13) ∧ 
  (World.cell? w_203 (Addr.add p 1) = some (.int .u64 Seq13) ∧ 
  (World.cell? w_203 (Addr.add p 2) = some (.int .i64 Next13) ∧ 
  (World.cell? w_203 (Addr.add p 3) = some (.int .i64 Wal13) ∧ 
  (
  AL w_203 (.cells #[(.int .i64 v_File13), (.int .i64 v_Level13), (.string v_First13), (.string v_Last13), (.int .i64 v_Size13)] 38) fun b39 w_204 =>
  (World.cell? w_204 p = some (.slice Tables13 Tables_n13 Tables_c13) ∧ 
  (World.cell? w_204 (Addr.add p 1) = some (.int .u64 Seq13) ∧ 
  (World.cell? w_204 (Addr.add p 2) = some (.int .i64 Next13) ∧ 
  (World.cell? w_204 (Addr.add p 3) = some (.int .i64 Wal13) ∧ 
  (w_204 = w_204 ∧ 
  (
  AL w_204 (.cells #[(.slice (some b39) 1 1), (.slice none 0 0), (.int .u64 0), (.int .i64 0), (.int .i64 0)] 31) fun b40 w_205 =>
  (World.cell? w_205 p = some (.slice Tables13 Tables_n13 Tables_c13) ∧ 
  (World.cell? w_205 (Addr.add p 1) = some (.int .u64 Seq13) ∧ 
  (World.cell? w_205 (Addr.add p 2) = some (.int .i64 Next13) ∧ 
  (World.cell? w_205 (Addr.add p 3) = some (.int .i64 Wal13) ∧ 
  (
  CallR Tryd.prog fn_manifest_Apply #[(.agg #[(.slice Tables13 Tables_n13 Tables_c13), (.int .u64 Seq13), (.int .i64 Next13), (.int .i64 Wal13)]), (.slice (some b40) 1 1)] w_205 fun res41 w_206 =>
  known_s39 v2 p v101 res41 w_206 R) ∧ (
  AL w_205 (.cells #[(.slice none 0 0), (.int .u64 0), (.int .i64 0), (.int .i64 0)] 27) fun p26 w_221 =>
  (World.cell? w_221 p = some (.slice Tables13 Tables_n13 Tables_c13) ∧ 
  (World.cell? w_221 (Addr.add p 1) = some (.int .u64 Seq13) ∧ 
  (World.cell? w_221 (Addr.add p 2) = some (.int .i64 Next13) ∧ 
  (World.cell? w_221 (Addr.add p 3) = some (.int .i64 Wal13) ∧ 
  CallR Tryd.prog fn_manifest_Apply #[(.agg #[(.slice Tables13 Tables_n13 Tables_c13), (.int .u64 Seq13), (.int .i64 Next13), (.int .i64 Wal13)]), (.slice (some b40) 1 1)] w_221 fun res44 w_222 =>
  known_s42 v2 p v101 p26 res44 w_222 R)))))))))) ∧ (
  AL w_204 (.cells #[(.slice none 0 0), (.int .u64 0), (.int .i64 0), (.int .i64 0)] 27) fun p28 w_236 =>
  (((w_236 = w_236 ∧ ((.agg #[(.slice (some b39) 1 1), (.slice none 0 0), (.int .u64 0), (.int .i64 0), (.int .i64 0)]) : Value) = (.agg #[(.slice (some b39) 1 1), (.slice none 0 0), (.int .u64 0), (.int .i64 0), (.int .i64 0)]))) ∧ 
  (World.cell? w_236 p = some (.slice Tables13 Tables_n13 Tables_c13) ∧ 
  (World.cell? w_236 (Addr.add p 1) = some (.int .u64 Seq13) ∧ 
  (World.cell? w_236 (Addr.add p 2) = some (.int .i64 Next13) ∧ 
  (World.cell? w_236 (Addr.add p 3) = some (.int .i64 Wal13) ∧ 
  AL w_236 (.cells #[(.slice (some b39) 1 1), (.slice none 0 0), (.int .u64 0), (.int .i64 0), (.int .i64 0)] 31) fun b45 w_237 =>
  (World.cell? w_237 p = some (.slice Tables13 Tables_n13 Tables_c13) ∧ 
  (World.cell? w_237 (Addr.add p 1) = some (.int .u64 Seq13) ∧ 
  (World.cell? w_237 (Addr.add p 2) = some (.int .i64 Next13) ∧ 
  (World.cell? w_237 (Addr.add p 3) = some (.int .i64 Wal13) ∧ 
  CallR Tryd.prog fn_manifest_Apply #[(.agg #[(.slice Tables13 Tables_n13 Tables_c13), (.int .u64 Seq13), (.int .i64 Next13), (.int .i64 Wal13)]), (.slice (some b45) 1 1)] w_237 fun res47 w_238 =>
  known_s45 v2 p v101 p28 res47 w_238 R)))))))))))))))) ∧ (
  AL w_203 (.cells #[(.slice none 0 0), (.int .u64 0), (.int .i64 0), (.int .i64 0)] 27) fun p30 w_252 =>
  (World.cell? w_252 p = some (.slice Tables13 Tables_n13 Tables_c13) ∧ 
  (World.cell? w_252 (Addr.add p 1) = some (.int .u64 Seq13) ∧ 
  (World.cell? w_252 (Addr.add p 2) = some (.int .i64 Next13) ∧ 
  (World.cell? w_252 (Addr.add p 3) = some (.int .i64 Wal13) ∧ 
  AL w_252 (.cells #[(.int .i64 v_File13), (.int .i64 v_Level13), (.string v_First13), (.string v_Last13), (.int .i64 v_Size13)] 38) fun b48 w_253 =>
  (World.cell? w_253 p = some (.slice Tables13 Tables_n13 Tables_c13) ∧ 
  (World.cell? w_253 (Addr.add p 1) = some (.int .u64 Seq13) ∧ 
  (World.cell? w_253 (Addr.add p 2) = some (.int .i64 Next13) ∧ 
  (World.cell? w_253 (Addr.add p 3) = some (.int .i64 Wal13) ∧ 
  (w_253 = w_253 ∧ 
  AL w_253 (.cells #[(.slice (some b48) 1 1), (.slice none 0 0), (.int .u64 0), (.int .i64 0), (.int .i64 0)] 31) fun b49 w_254 =>
  (World.cell? w_254 p = some (.slice Tables13 Tables_n13 Tables_c13) ∧ 
  (World.cell? w_254 (Addr.add p 1) = some (.int .u64 Seq13) ∧ 
  (World.cell? w_254 (Addr.add p 2) = some (.int .i64 Next13) ∧ 
  (World.cell? w_254 (Addr.add p 3) = some (.int .i64 Wal13) ∧ 
  CallR Tryd.prog fn_manifest_Apply #[(.agg #[(.slice Tables13 Tables_n13 Tables_c13), (.int .u64 Seq13), (.int .i64 Next13), (.int .i64 Wal13)]), (.slice (some b49) 1 1)] w_254 fun res50 w_255 =>
  known_s48 v2 p v101 p30 res50 w_255 R)))))))))))))))))))

def known_s50 (res56 : Value) (w_286 : World) (R : Value → World → Prop) : Prop :=
  mStr res56 fun v146 =>
  R (.bool (ByteArray.toList v146 == ByteArray.toList (ByteArray.mk #[116, 45, 48, 48, 48, 48, 48, 51]))) w_286

def known_s51 (v2 : Int) (p : Addr) (v101 : Int) (v140 : Int) (res55 : Value) (w_280 : World) (R : Value → World → Prop) : Prop :=
  mTup res55 fun l271 =>
  mCons l271 fun v141 l272 =>
  mAgg v141 fun v_l41 =>
  mCons v_l41 fun v_Tables66 l273 =>
  mSlice v_Tables66 fun v_Tables67 v_Tables_n33 v_Tables_c33 =>
  mCons l273 fun v_Seq66 l274 =>
  mInt .u64 v_Seq66 fun v_Seq67 =>
  mCons l274 fun v_Next66 l275 =>
  mInt .i64 v_Next66 fun v_Next67 =>
  mCons l275 fun v_Wal66 l276 =>
  mInt .i64 v_Wal66 fun v_Wal67 =>
  mNil l276 (
  mCons l272 fun v142 l277 =>
  mInt .i64 v142 fun v143 =>
  mNil l277 (
  AL w_280 (.cells #[(.slice none 0 0), (.int .u64 0), (.int .i64 0), (.int .i64 0)] 27) fun p33 w_281 =>
  ST w_281 p33 (.slice v_Tables67 v_Tables_n33 v_Tables_c33) fun w_282 =>
  ST w_282 (Addr.add p33 1) (.int .u64 v_Seq67) fun w_283 =>
  ST w_283 (Addr.add p33 2) (.int .i64 v_Next67) fun w_284 =>
  ST w_284 (Addr.add p33 3) (.int .i64 v_Wal67) fun w_285 =>
  Br (v2 == 0) (
  LDSl w_285 p fun _ v_n14 _ =>
  Br ((v_n14 : Int) == 1) (
  LDI .i64 w_285 (Addr.add p 2) fun v145 =>
  Br (v145 == 2) (
  Br (v101 == 15) (
  Br (v140 == 0) (
  Br (v143 == 4) (
  CallR Tryd.prog fn_manifest_File #[(.int .i64 3)] w_285 fun res56 w_286 =>
  known_s50 res56 w_286 R) (
  R (.bool false) w_285)) (
  R (.bool false) w_285)) (
  R (.bool false) w_285)) (
  R (.bool false) w_285)) (
  R (.bool false) w_285)) (
  R (.bool false) w_285)))

def known_s52 (v2 : Int) (p : Addr) (v101 : Int) (p32 : Addr) (res54 : Value) (w_273 : World) (R : Value → World → Prop) : Prop :=
  mTup res54 fun l264 =>
  mCons l264 fun v138 l265 =>
  mAgg v138 fun v_l40 =>
  mCons v_l40 fun v_Tables64 l266 =>
  mSlice v_Tables64 fun v_Tables65 v_Tables_n32 v_Tables_c32 =>
  mCons l266 fun v_Seq64 l267 =>
  mInt .u64 v_Seq64 fun v_Seq65 =>
  mCons l267 fun v_Next64 l268 =>
  mInt .i64 v_Next64 fun v_Next65 =>
  mCons l268 fun v_Wal64 l269 =>
  mInt .i64 v_Wal64 fun v_Wal65 =>
  mNil l269 (
  mCons l265 fun v139 l270 =>
  mInt .i64 v139 fun v140 =>
  mNil l270 (
  ST w_273 p32 (.slice v_Tables65 v_Tables_n32 v_Tables_c32) fun w_274 =>
  ST w_274 (Addr.add p32 1) (.int .u64 v_Seq65) fun w_275 =>
  ST w_275 (Addr.add p32 2) (.int .i64 v_Next65) fun w_276 =>
  ST w_276 (Addr.add p32 3) (.int .i64 v_Wal65) fun w_277 =>
  LDSl w_277 p fun Tables18 Tables_n18 Tables_c18 =>
  LDI .u64 w_277 (Addr.add p 1) fun Seq18 =>
  LDI .i64 w_277 (Addr.add p 2) fun Next18 =>
  LDI .i64 w_277 (Addr.add p 3) fun Wal18 =>
  AL w_277 (.cells #[(.int .i64 7)] 3) fun b54 w_278 =>
  AL w_278 (.cells #[(.slice none 0 0), (.slice (some b54) 1 1), (.int .u64 0), (.int .i64 0), (.int .i64 0)] 31) fun b55 w_279 =>
  CallR Tryd.prog fn_manifest_Apply #[(.agg #[(.slice Tables18 Tables_n18 Tables_c18), (.int .u64 Seq18), (.int .i64 Next18), (.int .i64 Wal18)]), (.slice (some b55) 1 1)] w_279 fun res55 w_280 =>
  known_s51 v2 p v101 v140 res55 w_280 R))

def known_s53 (v2 : Int) (p : Addr) (v101 : Int) (Tables13 : Option Addr) (Tables_n13 : Nat) (Tables_c13 : Nat) (Seq13 : Int) (Next13 : Int) (Wal13 : Int) (p32 : Addr) (res53 : Value) (w_270 : World) (R : Value → World → Prop) : Prop :=
  mAgg res53 fun v_l39 =>
  mCons v_l39 fun v_File14 l259 =>
  mInt .i64 v_File14 fun v_File15 =>
  mCons l259 fun v_Level14 l260 =>
  mInt .i64 v_Level14 fun v_Level15 =>
  mCons l260 fun v_First14 l261 =>
  mStr v_First14 fun v_First15 =>
  mCons l261 fun v_Last14 l262 =>
  mStr v_Last14 fun v_Last15 =>
  mCons l262 fun v_Size14 l263 =>
  mInt .i64 v_Size14 fun v_Size15 =>
  mNil l263 (
  (World.cell? w_270 p = some (.slice Tables13 Tables_n13 Tables_c13) ∧ 
  (World.cell? w_270 (Addr.add p 1) = some (.int .u64 Seq13) ∧ 
  (World.cell? w_270 (Addr.add p 2) = some (.int .i64 Next13) ∧ 
  (World.cell? w_270 (Addr.add p 3) = some (.int .i64 Wal13) ∧ 
  AL w_270 (.cells #[(.int .i64 v_File15), (.int .i64 v_Level15), (.string v_First15), (.string v_Last15), (.int .i64 v_Size15)] 38) fun b52 w_271 =>
  (World.cell? w_271 p = some (.slice Tables13 Tables_n13 Tables_c13) ∧ 
  (World.cell? w_271 (Addr.add p 1) = some (.int .u64 Seq13) ∧ 
  (World.cell? w_271 (Addr.add p 2) = some (.int .i64 Next13) ∧ 
  (World.cell? w_271 (Addr.add p 3) = some (.int .i64 Wal13) ∧ 
  (w_271 = w_271 ∧ 
  AL w_271 (.cells #[(.slice (some b52) 1 1), (.slice none 0 0), (.int .u64 0), (.int .i64 0), (.int .i64 0)] 31) fun b53 w_272 =>
  (World.cell? w_272 p = some (.slice Tables13 Tables_n13 Tables_c13) ∧ 
  (World.cell? w_272 (Addr.add p 1) = some (.int .u64 Seq13) ∧ 
  (World.cell? w_272 (Addr.add p 2) = some (.int .i64 Next13) ∧ 
  (World.cell? w_272 (Addr.add p 3) = some (.int .i64 Wal13) ∧ 
  CallR Tryd.prog fn_manifest_Apply #[(.agg #[(.slice Tables13 Tables_n13 Tables_c13), (.int .u64 Seq13), (.int .i64 Next13), (.int .i64 Wal13)]), (.slice (some b53) 1 1)] w_272 fun res54 w_273 =>
  known_s52 v2 p v101 p32 res54 w_273 R))))))))))))))

def known_s54 (v2 : Int) (p : Addr) (p23 : Addr) (res39 : Value) (w_197 : World) (R : Value → World → Prop) : Prop :=
  mTup res39 fun l191 =>
  mCons l191 fun v99 l192 =>
  mAgg v99 fun v_l29 =>
  mCons v_l29 fun v_Tables46 l193 =>
  mSlice v_Tables46 fun v_Tables47 v_Tables_n23 v_Tables_c23 =>
  mCons l193 fun v_Seq46 l194 =>
  mInt .u64 v_Seq46 fun v_Seq47 =>
  mCons l194 fun v_Next46 l195 =>
  mInt .i64 v_Next46 fun v_Next47 =>
  mCons l195 fun v_Wal46 l196 =>
  mInt .i64 v_Wal46 fun v_Wal47 =>
  mNil l196 (
  mCons l192 fun v100 l197 =>
  mInt .i64 v100 fun v101 =>
  mNil l197 (
  ST w_197 p23 (.slice v_Tables47 v_Tables_n23 v_Tables_c23) fun w_198 =>
  ST w_198 (Addr.add p23 1) (.int .u64 v_Seq47) fun w_199 =>
  ST w_199 (Addr.add p23 2) (.int .i64 v_Next47) fun w_200 =>
  ST w_200 (Addr.add p23 3) (.int .i64 v_Wal47) fun w_201 =>
  LetW (World.drew w_201) fun w_202 =>
  LDSl w_202 p fun Tables13 Tables_n13 Tables_c13 =>
  LDI .u64 w_202 (Addr.add p 1) fun Seq13 =>
  LDI .i64 w_202 (Addr.add p 2) fun Next13 =>
  LDI .i64 w_202 (Addr.add p 3) fun Wal13 =>
  (
  CallR Tryd.prog fn_glacierlaw8_table #[(.int .i64 2), (.int .i64 0), (.string (ByteArray.mk #[99])), (.string (ByteArray.mk #[100]))] w_202 fun res40 w_203 =>
  known_s49 v2 p v101 Tables13 Tables_n13 Tables_c13 Seq13 Next13 Wal13 res40 w_203 R) ∧ (
  AL w_202 (.cells #[(.slice none 0 0), (.int .u64 0), (.int .i64 0), (.int .i64 0)] 27) fun p32 w_269 =>
  (World.cell? w_269 p = some (.slice Tables13 Tables_n13 Tables_c13) ∧ 
  (World.cell? w_269 (Addr.add p 1) = some (.int .u64 Seq13) ∧ 
  (World.cell? w_269 (Addr.add p 2) = some (.int .i64 Next13) ∧ 
  (World.cell? w_269 (Addr.add p 3) = some (.int .i64 Wal13) ∧ 
  CallR Tryd.prog fn_glacierlaw8_table #[(.int .i64 2), (.int .i64 0), (.string (ByteArray.mk #[99])), (.string (ByteArray.mk #[100]))] w_269 fun res53 w_270 =>
  known_s53 v2 p v101 Tables13 Tables_n13 Tables_c13 Seq13 Next13 Wal13 p32 res53 w_270 R)))))))

def known_s55 (res61 : Value) (w_313 : World) (R : Value → World → Prop) : Prop :=
  mStr res61 fun v158 =>
  R (.bool (ByteArray.toList v158 == ByteArray.toList (ByteArray.mk #[116, 45, 48, 48, 48, 48, 48, 51]))) w_313

def known_s56 (v2 : Int) (p : Addr) (v149 : Int) (v152 : Int) (res60 : Value) (w_307 : World) (R : Value → World → Prop) : Prop :=
  mTup res60 fun l297 =>
  mCons l297 fun v153 l298 =>
  mAgg v153 fun v_l45 =>
  mCons v_l45 fun v_Tables72 l299 =>
  mSlice v_Tables72 fun v_Tables73 v_Tables_n36 v_Tables_c36 =>
  mCons l299 fun v_Seq72 l300 =>
  mInt .u64 v_Seq72 fun v_Seq73 =>
  mCons l300 fun v_Next72 l301 =>
  mInt .i64 v_Next72 fun v_Next73 =>
  mCons l301 fun v_Wal72 l302 =>
  mInt .i64 v_Wal72 fun v_Wal73 =>
  mNil l302 (
  mCons l298 fun v154 l303 =>
  mInt .i64 v154 fun v155 =>
  mNil l303 (
  AL w_307 (.cells #[(.slice none 0 0), (.int .u64 0), (.int .i64 0), (.int .i64 0)] 27) fun p36 w_308 =>
  ST w_308 p36 (.slice v_Tables73 v_Tables_n36 v_Tables_c36) fun w_309 =>
  ST w_309 (Addr.add p36 1) (.int .u64 v_Seq73) fun w_310 =>
  ST w_310 (Addr.add p36 2) (.int .i64 v_Next73) fun w_311 =>
  ST w_311 (Addr.add p36 3) (.int .i64 v_Wal73) fun w_312 =>
  Br (v2 == 0) (
  LDSl w_312 p fun _ v_n15 _ =>
  Br ((v_n15 : Int) == 1) (
  LDI .i64 w_312 (Addr.add p 2) fun v157 =>
  Br (v157 == 2) (
  Br (v149 == 15) (
  Br (v152 == 0) (
  Br (v155 == 4) (
  CallR Tryd.prog fn_manifest_File #[(.int .i64 3)] w_312 fun res61 w_313 =>
  known_s55 res61 w_313 R) (
  R (.bool false) w_312)) (
  R (.bool false) w_312)) (
  R (.bool false) w_312)) (
  R (.bool false) w_312)) (
  R (.bool false) w_312)) (
  R (.bool false) w_312)))

def known_s57 (v2 : Int) (p : Addr) (v149 : Int) (res59 : Value) (w_299 : World) (R : Value → World → Prop) : Prop :=
  mTup res59 fun l290 =>
  mCons l290 fun v150 l291 =>
  mAgg v150 fun v_l44 =>
  mCons v_l44 fun v_Tables70 l292 =>
  mSlice v_Tables70 fun v_Tables71 v_Tables_n35 v_Tables_c35 =>
  mCons l292 fun v_Seq70 l293 =>
  mInt .u64 v_Seq70 fun v_Seq71 =>
  mCons l293 fun v_Next70 l294 =>
  mInt .i64 v_Next70 fun v_Next71 =>
  mCons l294 fun v_Wal70 l295 =>
  mInt .i64 v_Wal70 fun v_Wal71 =>
  mNil l295 (
  mCons l291 fun v151 l296 =>
  mInt .i64 v151 fun v152 =>
  mNil l296 (
  AL w_299 (.cells #[(.slice none 0 0), (.int .u64 0), (.int .i64 0), (.int .i64 0)] 27) fun p35 w_300 =>
  ST w_300 p35 (.slice v_Tables71 v_Tables_n35 v_Tables_c35) fun w_301 =>
  ST w_301 (Addr.add p35 1) (.int .u64 v_Seq71) fun w_302 =>
  ST w_302 (Addr.add p35 2) (.int .i64 v_Next71) fun w_303 =>
  ST w_303 (Addr.add p35 3) (.int .i64 v_Wal71) fun w_304 =>
  LDSl w_304 p fun Tables20 Tables_n20 Tables_c20 =>
  LDI .u64 w_304 (Addr.add p 1) fun Seq20 =>
  LDI .i64 w_304 (Addr.add p 2) fun Next20 =>
  LDI .i64 w_304 (Addr.add p 3) fun Wal20 =>
  AL w_304 (.cells #[(.int .i64 7)] 3) fun b60 w_305 =>
  AL w_305 (.cells #[(.slice none 0 0), (.slice (some b60) 1 1), (.int .u64 0), (.int .i64 0), (.int .i64 0)] 31) fun b61 w_306 =>
  CallR Tryd.prog fn_manifest_Apply #[(.agg #[(.slice Tables20 Tables_n20 Tables_c20), (.int .u64 Seq20), (.int .i64 Next20), (.int .i64 Wal20)]), (.slice (some b61) 1 1)] w_306 fun res60 w_307 =>
  known_s56 v2 p v149 v152 res60 w_307 R))

def known_s58 (res64 : Value) (w_328 : World) (R : Value → World → Prop) : Prop :=
  mStr res64 fun v167 =>
  R (.bool (ByteArray.toList v167 == ByteArray.toList (ByteArray.mk #[116, 45, 48, 48, 48, 48, 48, 51]))) w_328

def known_s59 (v2 : Int) (p : Addr) (v149 : Int) (v161 : Int) (res63 : Value) (w_322 : World) (R : Value → World → Prop) : Prop :=
  mTup res63 fun l311 =>
  mCons l311 fun v162 l312 =>
  mAgg v162 fun v_l47 =>
  mCons v_l47 fun v_Tables76 l313 =>
  mSlice v_Tables76 fun v_Tables77 v_Tables_n38 v_Tables_c38 =>
  mCons l313 fun v_Seq76 l314 =>
  mInt .u64 v_Seq76 fun v_Seq77 =>
  mCons l314 fun v_Next76 l315 =>
  mInt .i64 v_Next76 fun v_Next77 =>
  mCons l315 fun v_Wal76 l316 =>
  mInt .i64 v_Wal76 fun v_Wal77 =>
  mNil l316 (
  mCons l312 fun v163 l317 =>
  mInt .i64 v163 fun v164 =>
  mNil l317 (
  AL w_322 (.cells #[(.slice none 0 0), (.int .u64 0), (.int .i64 0), (.int .i64 0)] 27) fun p38 w_323 =>
  ST w_323 p38 (.slice v_Tables77 v_Tables_n38 v_Tables_c38) fun w_324 =>
  ST w_324 (Addr.add p38 1) (.int .u64 v_Seq77) fun w_325 =>
  ST w_325 (Addr.add p38 2) (.int .i64 v_Next77) fun w_326 =>
  ST w_326 (Addr.add p38 3) (.int .i64 v_Wal77) fun w_327 =>
  Br (v2 == 0) (
  LDSl w_327 p fun _ v_n16 _ =>
  Br ((v_n16 : Int) == 1) (
  LDI .i64 w_327 (Addr.add p 2) fun v166 =>
  Br (v166 == 2) (
  Br (v149 == 15) (
  Br (v161 == 0) (
  Br (v164 == 4) (
  CallR Tryd.prog fn_manifest_File #[(.int .i64 3)] w_327 fun res64 w_328 =>
  known_s58 res64 w_328 R) (
  R (.bool false) w_327)) (
  R (.bool false) w_327)) (
  R (.bool false) w_327)) (
  R (.bool false) w_327)) (
  R (.bool false) w_327)) (
  R (.bool false) w_327)))

def known_s60 (v2 : Int) (p : Addr) (v149 : Int) (p37 : Addr) (res62 : Value) (w_315 : World) (R : Value → World → Prop) : Prop :=
  mTup res62 fun l304 =>
  mCons l304 fun v159 l305 =>
  mAgg v159 fun v_l46 =>
  mCons v_l46 fun v_Tables74 l306 =>
  mSlice v_Tables74 fun v_Tables75 v_Tables_n37 v_Tables_c37 =>
  mCons l306 fun v_Seq74 l307 =>
  mInt .u64 v_Seq74 fun v_Seq75 =>
  mCons l307 fun v_Next74 l308 =>
  mInt .i64 v_Next74 fun v_Next75 =>
  mCons l308 fun v_Wal74 l309 =>
  mInt .i64 v_Wal74 fun v_Wal75 =>
  mNil l309 (
  mCons l305 fun v160 l310 =>
  mInt .i64 v160 fun v161 =>
  mNil l310 (
  ST w_315 p37 (.slice v_Tables75 v_Tables_n37 v_Tables_c37) fun w_316 =>
  ST w_316 (Addr.add p37 1) (.int .u64 v_Seq75) fun w_317 =>
  ST w_317 (Addr.add p37 2) (.int .i64 v_Next75) fun w_318 =>
  ST w_318 (Addr.add p37 3) (.int .i64 v_Wal75) fun w_319 =>
  LDSl w_319 p fun Tables21 Tables_n21 Tables_c21 =>
  LDI .u64 w_319 (Addr.add p 1) fun Seq21 =>
  LDI .i64 w_319 (Addr.add p 2) fun Next21 =>
  LDI .i64 w_319 (Addr.add p 3) fun Wal21 =>
  AL w_319 (.cells #[(.int .i64 7)] 3) fun b62 w_320 =>
  AL w_320 (.cells #[(.slice none 0 0), (.slice (some b62) 1 1), (.int .u64 0), (.int .i64 0), (.int .i64 0)] 31) fun b63 w_321 =>
  CallR Tryd.prog fn_manifest_Apply #[(.agg #[(.slice Tables21 Tables_n21 Tables_c21), (.int .u64 Seq21), (.int .i64 Next21), (.int .i64 Wal21)]), (.slice (some b63) 1 1)] w_321 fun res63 w_322 =>
  known_s59 v2 p v149 v161 res63 w_322 R))

def known_s61 (res67 : Value) (w_344 : World) (R : Value → World → Prop) : Prop :=
  mStr res67 fun v176 =>
  R (.bool (ByteArray.toList v176 == ByteArray.toList (ByteArray.mk #[116, 45, 48, 48, 48, 48, 48, 51]))) w_344

def known_s62 (v2 : Int) (p : Addr) (v149 : Int) (v170 : Int) (res66 : Value) (w_338 : World) (R : Value → World → Prop) : Prop :=
  mTup res66 fun l325 =>
  mCons l325 fun v171 l326 =>
  mAgg v171 fun v_l49 =>
  mCons v_l49 fun v_Tables80 l327 =>
  mSlice v_Tables80 fun v_Tables81 v_Tables_n40 v_Tables_c40 =>
  mCons l327 fun v_Seq80 l328 =>
  mInt .u64 v_Seq80 fun v_Seq81 =>
  mCons l328 fun v_Next80 l329 =>
  mInt .i64 v_Next80 fun v_Next81 =>
  mCons l329 fun v_Wal80 l330 =>
  mInt .i64 v_Wal80 fun v_Wal81 =>
  mNil l330 (
  mCons l326 fun v172 l331 =>
  mInt .i64 v172 fun v173 =>
  mNil l331 (
  AL w_338 (.cells #[(.slice none 0 0), (.int .u64 0), (.int .i64 0), (.int .i64 0)] 27) fun p40 w_339 =>
  ST w_339 p40 (.slice v_Tables81 v_Tables_n40 v_Tables_c40) fun w_340 =>
  ST w_340 (Addr.add p40 1) (.int .u64 v_Seq81) fun w_341 =>
  ST w_341 (Addr.add p40 2) (.int .i64 v_Next81) fun w_342 =>
  ST w_342 (Addr.add p40 3) (.int .i64 v_Wal81) fun w_343 =>
  Br (v2 == 0) (
  LDSl w_343 p fun _ v_n17 _ =>
  Br ((v_n17 : Int) == 1) (
  LDI .i64 w_343 (Addr.add p 2) fun v175 =>
  Br (v175 == 2) (
  Br (v149 == 15) (
  Br (v170 == 0) (
  Br (v173 == 4) (
  CallR Tryd.prog fn_manifest_File #[(.int .i64 3)] w_343 fun res67 w_344 =>
  known_s61 res67 w_344 R) (
  R (.bool false) w_343)) (
  R (.bool false) w_343)) (
  R (.bool false) w_343)) (
  R (.bool false) w_343)) (
  R (.bool false) w_343)) (
  R (.bool false) w_343)))

def known_s63 (v2 : Int) (p : Addr) (v149 : Int) (p39 : Addr) (res65 : Value) (w_331 : World) (R : Value → World → Prop) : Prop :=
  mTup res65 fun l318 =>
  mCons l318 fun v168 l319 =>
  mAgg v168 fun v_l48 =>
  mCons v_l48 fun v_Tables78 l320 =>
  mSlice v_Tables78 fun v_Tables79 v_Tables_n39 v_Tables_c39 =>
  mCons l320 fun v_Seq78 l321 =>
  mInt .u64 v_Seq78 fun v_Seq79 =>
  mCons l321 fun v_Next78 l322 =>
  mInt .i64 v_Next78 fun v_Next79 =>
  mCons l322 fun v_Wal78 l323 =>
  mInt .i64 v_Wal78 fun v_Wal79 =>
  mNil l323 (
  mCons l319 fun v169 l324 =>
  mInt .i64 v169 fun v170 =>
  mNil l324 (
  ST w_331 p39 (.slice v_Tables79 v_Tables_n39 v_Tables_c39) fun w_332 =>
  ST w_332 (Addr.add p39 1) (.int .u64 v_Seq79) fun w_333 =>
  ST w_333 (Addr.add p39 2) (.int .i64 v_Next79) fun w_334 =>
  ST w_334 (Addr.add p39 3) (.int .i64 v_Wal79) fun w_335 =>
  LDSl w_335 p fun Tables22 Tables_n22 Tables_c22 =>
  LDI .u64 w_335 (Addr.add p 1) fun Seq22 =>
  LDI .i64 w_335 (Addr.add p 2) fun Next22 =>
  LDI .i64 w_335 (Addr.add p 3) fun Wal22 =>
  AL w_335 (.cells #[(.int .i64 7)] 3) fun b65 w_336 =>
  AL w_336 (.cells #[(.slice none 0 0), (.slice (some b65) 1 1), (.int .u64 0), (.int .i64 0), (.int .i64 0)] 31) fun b66 w_337 =>
  CallR Tryd.prog fn_manifest_Apply #[(.agg #[(.slice Tables22 Tables_n22 Tables_c22), (.int .u64 Seq22), (.int .i64 Next22), (.int .i64 Wal22)]), (.slice (some b66) 1 1)] w_337 fun res66 w_338 =>
  known_s62 v2 p v149 v170 res66 w_338 R))

def known_s64 (res70 : Value) (w_361 : World) (R : Value → World → Prop) : Prop :=
  mStr res70 fun v185 =>
  R (.bool (ByteArray.toList v185 == ByteArray.toList (ByteArray.mk #[116, 45, 48, 48, 48, 48, 48, 51]))) w_361

def known_s65 (v2 : Int) (p : Addr) (v149 : Int) (v179 : Int) (res69 : Value) (w_355 : World) (R : Value → World → Prop) : Prop :=
  mTup res69 fun l339 =>
  mCons l339 fun v180 l340 =>
  mAgg v180 fun v_l51 =>
  mCons v_l51 fun v_Tables84 l341 =>
  mSlice v_Tables84 fun v_Tables85 v_Tables_n42 v_Tables_c42 =>
  mCons l341 fun v_Seq84 l342 =>
  mInt .u64 v_Seq84 fun v_Seq85 =>
  mCons l342 fun v_Next84 l343 =>
  mInt .i64 v_Next84 fun v_Next85 =>
  mCons l343 fun v_Wal84 l344 =>
  mInt .i64 v_Wal84 fun v_Wal85 =>
  mNil l344 (
  mCons l340 fun v181 l345 =>
  mInt .i64 v181 fun v182 =>
  mNil l345 (
  AL w_355 (.cells #[(.slice none 0 0), (.int .u64 0), (.int .i64 0), (.int .i64 0)] 27) fun p42 w_356 =>
  ST w_356 p42 (.slice v_Tables85 v_Tables_n42 v_Tables_c42) fun w_357 =>
  ST w_357 (Addr.add p42 1) (.int .u64 v_Seq85) fun w_358 =>
  ST w_358 (Addr.add p42 2) (.int .i64 v_Next85) fun w_359 =>
  ST w_359 (Addr.add p42 3) (.int .i64 v_Wal85) fun w_360 =>
  Br (v2 == 0) (
  LDSl w_360 p fun _ v_n18 _ =>
  Br ((v_n18 : Int) == 1) (
  LDI .i64 w_360 (Addr.add p 2) fun v184 =>
  Br (v184 == 2) (
  Br (v149 == 15) (
  Br (v179 == 0) (
  Br (v182 == 4) (
  CallR Tryd.prog fn_manifest_File #[(.int .i64 3)] w_360 fun res70 w_361 =>
  known_s64 res70 w_361 R) (
  R (.bool false) w_360)) (
  R (.bool false) w_360)) (
  R (.bool false) w_360)) (
  R (.bool false) w_360)) (
  R (.bool false) w_360)) (
  R (.bool false) w_360)))

def known_s66 (v2 : Int) (p : Addr) (v149 : Int) (p41 : Addr) (res68 : Value) (w_348 : World) (R : Value → World → Prop) : Prop :=
  mTup res68 fun l332 =>
  mCons l332 fun v177 l333 =>
  mAgg v177 fun v_l50 =>
  mCons v_l50 fun v_Tables82 l334 =>
  mSlice v_Tables82 fun v_Tables83 v_Tables_n41 v_Tables_c41 =>
  mCons l334 fun v_Seq82 l335 =>
  mInt .u64 v_Seq82 fun v_Seq83 =>
  mCons l335 fun v_Next82 l336 =>
  mInt .i64 v_Next82 fun v_Next83 =>
  mCons l336 fun v_Wal82 l337 =>
  mInt .i64 v_Wal82 fun v_Wal83 =>
  mNil l337 (
  mCons l333 fun v178 l338 =>
  mInt .i64 v178 fun v179 =>
  mNil l338 (
  ST w_348 p41 (.slice v_Tables83 v_Tables_n41 v_Tables_c41) fun w_349 =>
  ST w_349 (Addr.add p41 1) (.int .u64 v_Seq83) fun w_350 =>
  ST w_350 (Addr.add p41 2) (.int .i64 v_Next83) fun w_351 =>
  ST w_351 (Addr.add p41 3) (.int .i64 v_Wal83) fun w_352 =>
  LDSl w_352 p fun Tables23 Tables_n23 Tables_c23 =>
  LDI .u64 w_352 (Addr.add p 1) fun Seq23 =>
  LDI .i64 w_352 (Addr.add p 2) fun Next23 =>
  LDI .i64 w_352 (Addr.add p 3) fun Wal23 =>
  AL w_352 (.cells #[(.int .i64 7)] 3) fun b69 w_353 =>
  AL w_353 (.cells #[(.slice none 0 0), (.slice (some b69) 1 1), (.int .u64 0), (.int .i64 0), (.int .i64 0)] 31) fun b70 w_354 =>
  CallR Tryd.prog fn_manifest_Apply #[(.agg #[(.slice Tables23 Tables_n23 Tables_c23), (.int .u64 Seq23), (.int .i64 Next23), (.int .i64 Wal23)]), (.slice (some b70) 1 1)] w_354 fun res69 w_355 =>
  known_s65 v2 p v149 v179 res69 w_355 R))

def known_s67 (v2 : Int) (p : Addr) (v149 : Int) (Tables19 : Option Addr) (Tables_n19 : Nat) (Tables_c19 : Nat) (Seq19 : Int) (Next19 : Int) (Wal19 : Int) (res58 : Value) (w_296 : World) (R : Value → World → Prop) : Prop :=
  mAgg res58 fun v_l43 =>
  mCons v_l43 fun v_File16 l285 =>
  mInt .i64 v_File16 fun v_File17 =>
  mCons l285 fun v_Level16 l286 =>
  mInt .i64 v_Level16 fun v_Level17 =>
  mCons l286 fun v_First16 l287 =>
  mStr v_First16 fun v_First17 =>
  mCons l287 fun v_Last16 l288 =>
  mStr v_Last16 fun v_Last17 =>
  mCons l288 fun v_Size16 l289 =>
  mInt .i64 v_Size16 fun v_Size17 =>
  mNil l289 (
  (World.cell? w_296 p = some (.slice Tables19 Tables_n19 Tables_c19) ∧ 
  (World.cell? w_296 (Addr.add p 1) = some (.int .u64 Seq19) ∧ 
  (World.cell? w_296 (Addr.add p 2) = some (.int .i64 Next19) ∧ 
  (World.cell? w_296 (Addr.add p 3) = some (.int .i64 Wal19) ∧ 
  (
  AL w_296 (.cells #[(.int .i64 v_File17), (.int .i64 v_Level17), (.string v_First17), (.string v_Last17), (.int .i64 v_Size17)] 38) fun b58 w_297 =>
  (World.cell? w_297 p = some (.slice Tables19 Tables_n19 Tables_c19) ∧ 
  (World.cell? w_297 (Addr.add p 1) = some (.int .u64 Seq19) ∧ 
  (World.cell? w_297 (Addr.add p 2) = some (.int .i64 Next19) ∧ 
  (World.cell? w_297 (Addr.add p 3) = some (.int .i64 Wal19) ∧ 
  (w_297 = w_297 ∧ 
  (
  AL w_297 (.cells #[(.slice (some b58) 1 1), (.slice none 0 0), (.int .u64 0), (.int .i64 0), (.int .i64 0)] 31) fun b59 w_298 =>
  (World.cell? w_298 p = some (.slice Tables19 Tables_n19 Tables_c19) ∧ 
  (World.cell? w_298 (Addr.add p 1) = some (.int .u64 Seq19) ∧ 
  (World.cell? w_298 (Addr.add p 2) = some (.int .i64 Next19) ∧ 
  (World.cell? w_298 (Addr.add p 3) = some (.int .i64 Wal19) ∧ 
  (
  CallR Tryd.prog fn_manifest_Apply #[(.agg #[(.slice Tables19 Tables_n19 Tables_c19), (.int .u64 Seq19), (.int .i64 Next19), (.int .i64 Wal19)]), (.slice (some b59) 1 1)] w_298 fun res59 w_299 =>
  known_s57 v2 p v149 res59 w_299 R) ∧ (
  AL w_298 (.cells #[(.slice none 0 0), (.int .u64 0), (.int .i64 0), (.int .i64 0)] 27) fun p37 w_314 =>
  (World.cell? w_314 p = some (.slice Tables19 Tables_n19 Tables_c19) ∧ 
  (World.cell? w_314 (Addr.add p 1) = some (.int .u64 Seq19) ∧ 
  (World.cell? w_314 (Addr.add p 2) = some (.int .i64 Next19) ∧ 
  (World.cell? w_314 (Addr.add p 3) = some (.int .i64 Wal19) ∧ 
  CallR Tryd.prog fn_manifest_Apply #[(.agg #[(.slice Tables19 Tables_n19 Tables_c19), (.int .u64 Seq19), (.int .i64 Next19), (.int .i64 Wal19)]), (.slice (some b59) 1 1)] w_314 fun res62 w_315 =>
  known_s60 v2 p v149 p37 res62 w_315 R)))))))))) ∧ (
  AL w_297 (.cells #[(.slice none 0 0), (.int .u64 0), (.int .i64 0), (.int .i64 0)] 27) fun p39 w_329 =>
  (((w_329 = w_329 ∧ ((.agg #[(.slice (some b58) 1 1), (.slice none 0 0), (.int .u64 0), (.int .i64 0), (.int .i64 0)]) : Value) = (.agg #[(.slice (some b58) 1 1), (.slice none 0 0), (.int .u64 0), (.int .i64 0), (.int .i64 0)]))) ∧ 
  (World.cell? w_329 p = some (.slice Tables19 Tables_n19 Tables_c19) ∧ 
  (World.cell? w_329 (Addr.add p 1) = some (.int .u64 Seq19) ∧ 
  (World.cell? w_329 (Addr.add p 2) = some (.int .i64 Next19) ∧ 
  (World.cell? w_329 (Addr.add p 3) = some (.int .i64 Wal19) ∧ 
  AL w_329 (.cells #[(.slice (some b58) 1 1), (.slice none 0 0), (.int .u64 0), (.int .i64 0), (.int .i64 0)] 31) fun b64 w_330 =>
  (World.cell? w_330 p = some (.slice Tables19 Tables_n19 Tables_c19) ∧ 
  (World.cell? w_330 (Addr.add p 1) = some (.int .u64 Seq19) ∧ 
  (World.cell? w_330 (Addr.add p 2) = some (.int .i64 Next19) ∧ 
  (World.cell? w_330 (Addr.add p 3) = some (.int .i64 Wal19) ∧ 
  CallR Tryd.prog fn_manifest_Apply #[(.agg #[(.slice Tables19 Tables_n19 Tables_c19), (.int .u64 Seq19), (.int .i64 Next19), (.int .i64 Wal19)]), (.slice (some b64) 1 1)] w_330 fun res65 w_331 =>
  known_s63 v2 p v149 p39 res65 w_331 R)))))))))))))))) ∧ (
  AL w_296 (.cells #[(.slice none 0 0), (.int .u64 0), (.int .i64 0), (.int .i64 0)] 27) fun p41 w_345 =>
  (World.cell? w_345 p = some (.slice Tables19 Tables_n19 Tables_c19) ∧ 
  (World.cell? w_345 (Addr.add p 1) = some (.int .u64 Seq19) ∧ 
  (World.cell? w_345 (Addr.add p 2) = some (.int .i64 Next19) ∧ 
  (World.cell? w_345 (Addr.add p 3) = some (.int .i64 Wal19) ∧ 
  AL w_345 (.cells #[(.int .i64 v_File17), (.int .i64 v_Level17), (.string v_First17), (.string v_Last17), (.int .i64 v_Size17)] 38) fun b67 w_346 =>
  (World.cell? w_346 p = some (.slice Tables19 Tables_n19 Tables_c19) ∧ 
  (World.cell? w_346 (Addr.add p 1) = some (.int .u64 Seq19) ∧ 
  (World.cell? w_346 (Addr.add p 2) = some (.int .i64 Next19) ∧ 
  (World.cell? w_346 (Addr.add p 3) = some (.int .i64 Wal19) ∧ 
  (w_346 = w_346 ∧ 
  AL w_346 (.cells #[(.slice (some b67) 1 1), (.slice none 0 0), (.int .u64 0), (.int .i64 0), (.int .i64 0)] 31) fun b68 w_347 =>
  (World.cell? w_347 p = some (.slice Tables19 Tables_n19 Tables_c19) ∧ 
  (World.cell? w_347 (Addr.add p 1) = some (.int .u64 Seq19) ∧ 
  (World.cell? w_347 (Addr.add p 2) = some (.int .i64 Next19) ∧ 
  (World.cell? w_347 (Addr.add p 3) = some (.int .i64 Wal19) ∧ 
  CallR Tryd.prog fn_manifest_Apply #[(.agg #[(.slice Tables19 Tables_n19 Tables_c19), (.int .u64 Seq19), (.int .i64 Next19), (.int .i64 Wal19)]), (.slice (some b68) 1 1)] w_347 fun res68 w_348 =>
  known_s66 v2 p v149 p41 res68 w_348 R)))))))))))))))))))

def known_s68 (res74 : Value) (w_379 : World) (R : Value → World → Prop) : Prop :=
  mStr res74 fun v194 =>
  R (.bool (ByteArray.toList v194 == ByteArray.toList (ByteArray.mk #[116, 45, 48, 48, 48, 48, 48, 51]))) w_379

def known_s69 (v2 : Int) (p : Addr) (v149 : Int) (v188 : Int) (res73 : Value) (w_373 : World) (R : Value → World → Prop) : Prop :=
  mTup res73 fun l358 =>
  mCons l358 fun v189 l359 =>
  mAgg v189 fun v_l54 =>
  mCons v_l54 fun v_Tables88 l360 =>
  mSlice v_Tables88 fun v_Tables89 v_Tables_n44 v_Tables_c44 =>
  mCons l360 fun v_Seq88 l361 =>
  mInt .u64 v_Seq88 fun v_Seq89 =>
  mCons l361 fun v_Next88 l362 =>
  mInt .i64 v_Next88 fun v_Next89 =>
  mCons l362 fun v_Wal88 l363 =>
  mInt .i64 v_Wal88 fun v_Wal89 =>
  mNil l363 (
  mCons l359 fun v190 l364 =>
  mInt .i64 v190 fun v191 =>
  mNil l364 (
  AL w_373 (.cells #[(.slice none 0 0), (.int .u64 0), (.int .i64 0), (.int .i64 0)] 27) fun p44 w_374 =>
  ST w_374 p44 (.slice v_Tables89 v_Tables_n44 v_Tables_c44) fun w_375 =>
  ST w_375 (Addr.add p44 1) (.int .u64 v_Seq89) fun w_376 =>
  ST w_376 (Addr.add p44 2) (.int .i64 v_Next89) fun w_377 =>
  ST w_377 (Addr.add p44 3) (.int .i64 v_Wal89) fun w_378 =>
  Br (v2 == 0) (
  LDSl w_378 p fun _ v_n19 _ =>
  Br ((v_n19 : Int) == 1) (
  LDI .i64 w_378 (Addr.add p 2) fun v193 =>
  Br (v193 == 2) (
  Br (v149 == 15) (
  Br (v188 == 0) (
  Br (v191 == 4) (
  CallR Tryd.prog fn_manifest_File #[(.int .i64 3)] w_378 fun res74 w_379 =>
  known_s68 res74 w_379 R) (
  R (.bool false) w_378)) (
  R (.bool false) w_378)) (
  R (.bool false) w_378)) (
  R (.bool false) w_378)) (
  R (.bool false) w_378)) (
  R (.bool false) w_378)))

def known_s70 (v2 : Int) (p : Addr) (v149 : Int) (p43 : Addr) (res72 : Value) (w_366 : World) (R : Value → World → Prop) : Prop :=
  mTup res72 fun l351 =>
  mCons l351 fun v186 l352 =>
  mAgg v186 fun v_l53 =>
  mCons v_l53 fun v_Tables86 l353 =>
  mSlice v_Tables86 fun v_Tables87 v_Tables_n43 v_Tables_c43 =>
  mCons l353 fun v_Seq86 l354 =>
  mInt .u64 v_Seq86 fun v_Seq87 =>
  mCons l354 fun v_Next86 l355 =>
  mInt .i64 v_Next86 fun v_Next87 =>
  mCons l355 fun v_Wal86 l356 =>
  mInt .i64 v_Wal86 fun v_Wal87 =>
  mNil l356 (
  mCons l352 fun v187 l357 =>
  mInt .i64 v187 fun v188 =>
  mNil l357 (
  ST w_366 p43 (.slice v_Tables87 v_Tables_n43 v_Tables_c43) fun w_367 =>
  ST w_367 (Addr.add p43 1) (.int .u64 v_Seq87) fun w_368 =>
  ST w_368 (Addr.add p43 2) (.int .i64 v_Next87) fun w_369 =>
  ST w_369 (Addr.add p43 3) (.int .i64 v_Wal87) fun w_370 =>
  LDSl w_370 p fun Tables24 Tables_n24 Tables_c24 =>
  LDI .u64 w_370 (Addr.add p 1) fun Seq24 =>
  LDI .i64 w_370 (Addr.add p 2) fun Next24 =>
  LDI .i64 w_370 (Addr.add p 3) fun Wal24 =>
  AL w_370 (.cells #[(.int .i64 7)] 3) fun b73 w_371 =>
  AL w_371 (.cells #[(.slice none 0 0), (.slice (some b73) 1 1), (.int .u64 0), (.int .i64 0), (.int .i64 0)] 31) fun b74 w_372 =>
  CallR Tryd.prog fn_manifest_Apply #[(.agg #[(.slice Tables24 Tables_n24 Tables_c24), (.int .u64 Seq24), (.int .i64 Next24), (.int .i64 Wal24)]), (.slice (some b74) 1 1)] w_372 fun res73 w_373 =>
  known_s69 v2 p v149 v188 res73 w_373 R))

def known_s71 (v2 : Int) (p : Addr) (v149 : Int) (Tables19 : Option Addr) (Tables_n19 : Nat) (Tables_c19 : Nat) (Seq19 : Int) (Next19 : Int) (Wal19 : Int) (p43 : Addr) (res71 : Value) (w_363 : World) (R : Value → World → Prop) : Prop :=
  mAgg res71 fun v_l52 =>
  mCons v_l52 fun v_File18 l346 =>
  mInt .i64 v_File18 fun v_File19 =>
  mCons l346 fun v_Level18 l347 =>
  mInt .i64 v_Level18 fun v_Level19 =>
  mCons l347 fun v_First18 l348 =>
  mStr v_First18 fun v_First19 =>
  mCons l348 fun v_Last18 l349 =>
  mStr v_Last18 fun v_Last19 =>
  mCons l349 fun v_Size18 l350 =>
  mInt .i64 v_Size18 fun v_Size19 =>
  mNil l350 (
  (World.cell? w_363 p = some (.slice Tables19 Tables_n19 Tables_c19) ∧ 
  (World.cell? w_363 (Addr.add p 1) = some (.int .u64 Seq19) ∧ 
  (World.cell? w_363 (Addr.add p 2) = some (.int .i64 Next19) ∧ 
  (World.cell? w_363 (Addr.add p 3) = some (.int .i64 Wal19) ∧ 
  AL w_363 (.cells #[(.int .i64 v_File19), (.int .i64 v_Level19), (.string v_First19), (.string v_Last19), (.int .i64 v_Size19)] 38) fun b71 w_364 =>
  (World.cell? w_364 p = some (.slice Tables19 Tables_n19 Tables_c19) ∧ 
  (World.cell? w_364 (Addr.add p 1) = some (.int .u64 Seq19) ∧ 
  (World.cell? w_364 (Addr.add p 2) = some (.int .i64 Next19) ∧ 
  (World.cell? w_364 (Addr.add p 3) = some (.int .i64 Wal19) ∧ 
  (w_364 = w_364 ∧ 
  AL w_364 (.cells #[(.slice (some b71) 1 1), (.slice none 0 0), (.int .u64 0), (.int .i64 0), (.int .i64 0)] 31) fun b72 w_365 =>
  (World.cell? w_365 p = some (.slice Tables19 Tables_n19 Tables_c19) ∧ 
  (World.cell? w_365 (Addr.add p 1) = some (.int .u64 Seq19) ∧ 
  (World.cell? w_365 (Addr.add p 2) = some (.int .i64 Next19) ∧ 
  (World.cell? w_365 (Addr.add p 3) = some (.int .i64 Wal19) ∧ 
  CallR Tryd.prog fn_manifest_Apply #[(.agg #[(.slice Tables19 Tables_n19 Tables_c19), (.int .u64 Seq19), (.int .i64 Next19), (.int .i64 Wal19)]), (.slice (some b72) 1 1)] w_365 fun res72 w_366 =>
  known_s70 v2 p v149 p43 res72 w_366 R))))))))))))))

def known_s72 (v2 : Int) (p : Addr) (p34 : Addr) (res57 : Value) (w_290 : World) (R : Value → World → Prop) : Prop :=
  mTup res57 fun l278 =>
  mCons l278 fun v147 l279 =>
  mAgg v147 fun v_l42 =>
  mCons v_l42 fun v_Tables68 l280 =>
  mSlice v_Tables68 fun v_Tables69 v_Tables_n34 v_Tables_c34 =>
  mCons l280 fun v_Seq68 l281 =>
  mInt .u64 v_Seq68 fun v_Seq69 =>
  mCons l281 fun v_Next68 l282 =>
  mInt .i64 v_Next68 fun v_Next69 =>
  mCons l282 fun v_Wal68 l283 =>
  mInt .i64 v_Wal68 fun v_Wal69 =>
  mNil l283 (
  mCons l279 fun v148 l284 =>
  mInt .i64 v148 fun v149 =>
  mNil l284 (
  ST w_290 p34 (.slice v_Tables69 v_Tables_n34 v_Tables_c34) fun w_291 =>
  ST w_291 (Addr.add p34 1) (.int .u64 v_Seq69) fun w_292 =>
  ST w_292 (Addr.add p34 2) (.int .i64 v_Next69) fun w_293 =>
  ST w_293 (Addr.add p34 3) (.int .i64 v_Wal69) fun w_294 =>
  LetW (World.drew w_294) fun w_295 =>
  LDSl w_295 p fun Tables19 Tables_n19 Tables_c19 =>
  LDI .u64 w_295 (Addr.add p 1) fun Seq19 =>
  LDI .i64 w_295 (Addr.add p 2) fun Next19 =>
  LDI .i64 w_295 (Addr.add p 3) fun Wal19 =>
  (
  CallR Tryd.prog fn_glacierlaw8_table #[(.int .i64 2), (.int .i64 0), (.string (ByteArray.mk #[99])), (.string (ByteArray.mk #[100]))] w_295 fun res58 w_296 =>
  known_s67 v2 p v149 Tables19 Tables_n19 Tables_c19 Seq19 Next19 Wal19 res58 w_296 R) ∧ (
  AL w_295 (.cells #[(.slice none 0 0), (.int .u64 0), (.int .i64 0), (.int .i64 0)] 27) fun p43 w_362 =>
  (World.cell? w_362 p = some (.slice Tables19 Tables_n19 Tables_c19) ∧ 
  (World.cell? w_362 (Addr.add p 1) = some (.int .u64 Seq19) ∧ 
  (World.cell? w_362 (Addr.add p 2) = some (.int .i64 Next19) ∧ 
  (World.cell? w_362 (Addr.add p 3) = some (.int .i64 Wal19) ∧ 
  CallR Tryd.prog fn_glacierlaw8_table #[(.int .i64 2), (.int .i64 0), (.string (ByteArray.mk #[99])), (.string (ByteArray.mk #[100]))] w_362 fun res71 w_363 =>
  known_s71 v2 p v149 Tables19 Tables_n19 Tables_c19 Seq19 Next19 Wal19 p43 res71 w_363 R)))))))

def known_s73 (v2 : Int) (p : Addr) (Tables : Option Addr) (Tables_n : Nat) (Tables_c : Nat) (Seq : Int) (Next : Int) (Wal : Int) (res2 : Value) (w_10 : World) (R : Value → World → Prop) : Prop :=
  mAgg res2 fun v_l2 =>
  mCons v_l2 fun v_File2 l12 =>
  mInt .i64 v_File2 fun v_File3 =>
  mCons l12 fun v_Level2 l13 =>
  mInt .i64 v_Level2 fun v_Level3 =>
  mCons l13 fun v_First2 l14 =>
  mStr v_First2 fun v_First3 =>
  mCons l14 fun v_Last2 l15 =>
  mStr v_Last2 fun v_Last3 =>
  mCons l15 fun v_Size2 l16 =>
  mInt .i64 v_Size2 fun v_Size3 =>
  mNil l16 (
  (World.cell? w_10 p = some (.slice Tables Tables_n Tables_c) ∧ 
  (World.cell? w_10 (Addr.add p 1) = some (.int .u64 Seq) ∧ 
  (World.cell? w_10 (Addr.add p 2) = some (.int .i64 Next) ∧ 
  (World.cell? w_10 (Addr.add p 3) = some (.int .i64 Wal) ∧ 
  (
  AL w_10 (.cells #[(.int .i64 v_File3), (.int .i64 v_Level3), (.string v_First3), (.string v_Last3), (.int .i64 v_Size3)] 38) fun b2 w_11 =>
  (World.cell? w_11 p = some (.slice Tables Tables_n Tables_c) ∧ 
  (World.cell? w_11 (Addr.add p 1) = some (.int .u64 Seq) ∧ 
  (World.cell? w_11 (Addr.add p 2) = some (.int .i64 Next) ∧ 
  (World.cell? w_11 (Addr.add p 3) = some (.int .i64 Wal) ∧ 
  (w_11 = w_11 ∧ 
  (
  AL w_11 (.cells #[(.slice (some b2) 1 1), (.slice none 0 0), (.int .u64 0), (.int .i64 0), (.int .i64 0)] 31) fun b3 w_12 =>
  (World.cell? w_12 p = some (.slice Tables Tables_n Tables_c) ∧ 
  (World.cell? w_12 (Addr.add p 1) = some (.int .u64 Seq) ∧ 
  (World.cell? w_12 (Addr.add p 2) = some (.int .i64 Next) ∧ 
  (World.cell? w_12 (Addr.add p 3) = some (.int .i64 Wal) ∧ 
  (
  CallR Tryd.prog fn_manifest_Apply #[(.agg #[(.slice Tables Tables_n Tables_c), (.int .u64 Seq), (.int .i64 Next), (.int .i64 Wal)]), (.slice (some b3) 1 1)] w_12 fun res3 w_13 =>
  known_s18 v2 p res3 w_13 R) ∧ (
  AL w_12 (.cells #[(.slice none 0 0), (.int .u64 0), (.int .i64 0), (.int .i64 0)] 27) fun p12 w_104 =>
  (World.cell? w_104 p = some (.slice Tables Tables_n Tables_c) ∧ 
  (World.cell? w_104 (Addr.add p 1) = some (.int .u64 Seq) ∧ 
  (World.cell? w_104 (Addr.add p 2) = some (.int .i64 Next) ∧ 
  (World.cell? w_104 (Addr.add p 3) = some (.int .i64 Wal) ∧ 
  CallR Tryd.prog fn_manifest_Apply #[(.agg #[(.slice Tables Tables_n Tables_c), (.int .u64 Seq), (.int .i64 Next), (.int .i64 Wal)]), (.slice (some b3) 1 1)] w_104 fun res21 w_105 =>
  known_s36 v2 p p12 res21 w_105 R)))))))))) ∧ (
  AL w_11 (.cells #[(.slice none 0 0), (.int .u64 0), (.int .i64 0), (.int .i64 0)] 27) fun p23 w_195 =>
  (((w_195 = w_195 ∧ ((.agg #[(.slice (some b2) 1 1), (.slice none 0 0), (.int .u64 0), (.int .i64 0), (.int .i64 0)]) : Value) = (.agg #[(.slice (some b2) 1 1), (.slice none 0 0), (.int .u64 0), (.int .i64 0), (.int .i64 0)]))) ∧ 
  (World.cell? w_195 p = some (.slice Tables Tables_n Tables_c) ∧ 
  (World.cell? w_195 (Addr.add p 1) = some (.int .u64 Seq) ∧ 
  (World.cell? w_195 (Addr.add p 2) = some (.int .i64 Next) ∧ 
  (World.cell? w_195 (Addr.add p 3) = some (.int .i64 Wal) ∧ 
  AL w_195 (.cells #[(.slice (some b2) 1 1), (.slice none 0 0), (.int .u64 0), (.int .i64 0), (.int .i64 0)] 31) fun b38 w_196 =>
  (World.cell? w_196 p = some (.slice Tables Tables_n Tables_c) ∧ 
  (World.cell? w_196 (Addr.add p 1) = some (.int .u64 Seq) ∧ 
  (World.cell? w_196 (Addr.add p 2) = some (.int .i64 Next) ∧ 
  (World.cell? w_196 (Addr.add p 3) = some (.int .i64 Wal) ∧ 
  CallR Tryd.prog fn_manifest_Apply #[(.agg #[(.slice Tables Tables_n Tables_c), (.int .u64 Seq), (.int .i64 Next), (.int .i64 Wal)]), (.slice (some b38) 1 1)] w_196 fun res39 w_197 =>
  known_s54 v2 p p23 res39 w_197 R)))))))))))))))) ∧ (
  AL w_10 (.cells #[(.slice none 0 0), (.int .u64 0), (.int .i64 0), (.int .i64 0)] 27) fun p34 w_287 =>
  (World.cell? w_287 p = some (.slice Tables Tables_n Tables_c) ∧ 
  (World.cell? w_287 (Addr.add p 1) = some (.int .u64 Seq) ∧ 
  (World.cell? w_287 (Addr.add p 2) = some (.int .i64 Next) ∧ 
  (World.cell? w_287 (Addr.add p 3) = some (.int .i64 Wal) ∧ 
  AL w_287 (.cells #[(.int .i64 v_File3), (.int .i64 v_Level3), (.string v_First3), (.string v_Last3), (.int .i64 v_Size3)] 38) fun b56 w_288 =>
  (World.cell? w_288 p = some (.slice Tables Tables_n Tables_c) ∧ 
  (World.cell? w_288 (Addr.add p 1) = some (.int .u64 Seq) ∧ 
  (World.cell? w_288 (Addr.add p 2) = some (.int .i64 Next) ∧ 
  (World.cell? w_288 (Addr.add p 3) = some (.int .i64 Wal) ∧ 
  (w_288 = w_288 ∧ 
  AL w_288 (.cells #[(.slice (some b56) 1 1), (.slice none 0 0), (.int .u64 0), (.int .i64 0), (.int .i64 0)] 31) fun b57 w_289 =>
  (World.cell? w_289 p = some (.slice Tables Tables_n Tables_c) ∧ 
  (World.cell? w_289 (Addr.add p 1) = some (.int .u64 Seq) ∧ 
  (World.cell? w_289 (Addr.add p 2) = some (.int .i64 Next) ∧ 
  (World.cell? w_289 (Addr.add p 3) = some (.int .i64 Wal) ∧ 
  CallR Tryd.prog fn_manifest_Apply #[(.agg #[(.slice Tables Tables_n Tables_c), (.int .u64 Seq), (.int .i64 Next), (.int .i64 Wal)]), (.slice (some b57) 1 1)] w_289 fun res57 w_290 =>
  known_s72 v2 p p34 res57 w_290 R)))))))))))))))))))

def known_s74 (res80 : Value) (w_407 : World) (R : Value → World → Prop) : Prop :=
  mStr res80 fun v206 =>
  R (.bool (ByteArray.toList v206 == ByteArray.toList (ByteArray.mk #[116, 45, 48, 48, 48, 48, 48, 51]))) w_407

def known_s75 (v2 : Int) (p : Addr) (v197 : Int) (v200 : Int) (res79 : Value) (w_401 : World) (R : Value → World → Prop) : Prop :=
  mTup res79 fun l389 =>
  mCons l389 fun v201 l390 =>
  mAgg v201 fun v_l59 =>
  mCons v_l59 fun v_Tables94 l391 =>
  mSlice v_Tables94 fun v_Tables95 v_Tables_n47 v_Tables_c47 =>
  mCons l391 fun v_Seq94 l392 =>
  mInt .u64 v_Seq94 fun v_Seq95 =>
  mCons l392 fun v_Next94 l393 =>
  mInt .i64 v_Next94 fun v_Next95 =>
  mCons l393 fun v_Wal94 l394 =>
  mInt .i64 v_Wal94 fun v_Wal95 =>
  mNil l394 (
  mCons l390 fun v202 l395 =>
  mInt .i64 v202 fun v203 =>
  mNil l395 (
  AL w_401 (.cells #[(.slice none 0 0), (.int .u64 0), (.int .i64 0), (.int .i64 0)] 27) fun p47 w_402 =>
  ST w_402 p47 (.slice v_Tables95 v_Tables_n47 v_Tables_c47) fun w_403 =>
  ST w_403 (Addr.add p47 1) (.int .u64 v_Seq95) fun w_404 =>
  ST w_404 (Addr.add p47 2) (.int .i64 v_Next95) fun w_405 =>
  ST w_405 (Addr.add p47 3) (.int .i64 v_Wal95) fun w_406 =>
  Br (v2 == 0) (
  LDSl w_406 p fun _ v_n20 _ =>
  Br ((v_n20 : Int) == 1) (
  LDI .i64 w_406 (Addr.add p 2) fun v205 =>
  Br (v205 == 2) (
  Br (v197 == 15) (
  Br (v200 == 0) (
  Br (v203 == 4) (
  CallR Tryd.prog fn_manifest_File #[(.int .i64 3)] w_406 fun res80 w_407 =>
  known_s74 res80 w_407 R) (
  R (.bool false) w_406)) (
  R (.bool false) w_406)) (
  R (.bool false) w_406)) (
  R (.bool false) w_406)) (
  R (.bool false) w_406)) (
  R (.bool false) w_406)))

def known_s76 (v2 : Int) (p : Addr) (v197 : Int) (res78 : Value) (w_393 : World) (R : Value → World → Prop) : Prop :=
  mTup res78 fun l382 =>
  mCons l382 fun v198 l383 =>
  mAgg v198 fun v_l58 =>
  mCons v_l58 fun v_Tables92 l384 =>
  mSlice v_Tables92 fun v_Tables93 v_Tables_n46 v_Tables_c46 =>
  mCons l384 fun v_Seq92 l385 =>
  mInt .u64 v_Seq92 fun v_Seq93 =>
  mCons l385 fun v_Next92 l386 =>
  mInt .i64 v_Next92 fun v_Next93 =>
  mCons l386 fun v_Wal92 l387 =>
  mInt .i64 v_Wal92 fun v_Wal93 =>
  mNil l387 (
  mCons l383 fun v199 l388 =>
  mInt .i64 v199 fun v200 =>
  mNil l388 (
  AL w_393 (.cells #[(.slice none 0 0), (.int .u64 0), (.int .i64 0), (.int .i64 0)] 27) fun p46 w_394 =>
  ST w_394 p46 (.slice v_Tables93 v_Tables_n46 v_Tables_c46) fun w_395 =>
  ST w_395 (Addr.add p46 1) (.int .u64 v_Seq93) fun w_396 =>
  ST w_396 (Addr.add p46 2) (.int .i64 v_Next93) fun w_397 =>
  ST w_397 (Addr.add p46 3) (.int .i64 v_Wal93) fun w_398 =>
  LDSl w_398 p fun Tables26 Tables_n26 Tables_c26 =>
  LDI .u64 w_398 (Addr.add p 1) fun Seq26 =>
  LDI .i64 w_398 (Addr.add p 2) fun Next26 =>
  LDI .i64 w_398 (Addr.add p 3) fun Wal26 =>
  AL w_398 (.cells #[(.int .i64 7)] 3) fun b79 w_399 =>
  AL w_399 (.cells #[(.slice none 0 0), (.slice (some b79) 1 1), (.int .u64 0), (.int .i64 0), (.int .i64 0)] 31) fun b80 w_400 =>
  CallR Tryd.prog fn_manifest_Apply #[(.agg #[(.slice Tables26 Tables_n26 Tables_c26), (.int .u64 Seq26), (.int .i64 Next26), (.int .i64 Wal26)]), (.slice (some b80) 1 1)] w_400 fun res79 w_401 =>
  known_s75 v2 p v197 v200 res79 w_401 R))

def known_s77 (res83 : Value) (w_422 : World) (R : Value → World → Prop) : Prop :=
  mStr res83 fun v215 =>
  R (.bool (ByteArray.toList v215 == ByteArray.toList (ByteArray.mk #[116, 45, 48, 48, 48, 48, 48, 51]))) w_422

def known_s78 (v2 : Int) (p : Addr) (v197 : Int) (v209 : Int) (res82 : Value) (w_416 : World) (R : Value → World → Prop) : Prop :=
  mTup res82 fun l403 =>
  mCons l403 fun v210 l404 =>
  mAgg v210 fun v_l61 =>
  mCons v_l61 fun v_Tables98 l405 =>
  mSlice v_Tables98 fun v_Tables99 v_Tables_n49 v_Tables_c49 =>
  mCons l405 fun v_Seq98 l406 =>
  mInt .u64 v_Seq98 fun v_Seq99 =>
  mCons l406 fun v_Next98 l407 =>
  mInt .i64 v_Next98 fun v_Next99 =>
  mCons l407 fun v_Wal98 l408 =>
  mInt .i64 v_Wal98 fun v_Wal99 =>
  mNil l408 (
  mCons l404 fun v211 l409 =>
  mInt .i64 v211 fun v212 =>
  mNil l409 (
  AL w_416 (.cells #[(.slice none 0 0), (.int .u64 0), (.int .i64 0), (.int .i64 0)] 27) fun p49 w_417 =>
  ST w_417 p49 (.slice v_Tables99 v_Tables_n49 v_Tables_c49) fun w_418 =>
  ST w_418 (Addr.add p49 1) (.int .u64 v_Seq99) fun w_419 =>
  ST w_419 (Addr.add p49 2) (.int .i64 v_Next99) fun w_420 =>
  ST w_420 (Addr.add p49 3) (.int .i64 v_Wal99) fun w_421 =>
  Br (v2 == 0) (
  LDSl w_421 p fun _ v_n21 _ =>
  Br ((v_n21 : Int) == 1) (
  LDI .i64 w_421 (Addr.add p 2) fun v214 =>
  Br (v214 == 2) (
  Br (v197 == 15) (
  Br (v209 == 0) (
  Br (v212 == 4) (
  CallR Tryd.prog fn_manifest_File #[(.int .i64 3)] w_421 fun res83 w_422 =>
  known_s77 res83 w_422 R) (
  R (.bool false) w_421)) (
  R (.bool false) w_421)) (
  R (.bool false) w_421)) (
  R (.bool false) w_421)) (
  R (.bool false) w_421)) (
  R (.bool false) w_421)))

def known_s79 (v2 : Int) (p : Addr) (v197 : Int) (p48 : Addr) (res81 : Value) (w_409 : World) (R : Value → World → Prop) : Prop :=
  mTup res81 fun l396 =>
  mCons l396 fun v207 l397 =>
  mAgg v207 fun v_l60 =>
  mCons v_l60 fun v_Tables96 l398 =>
  mSlice v_Tables96 fun v_Tables97 v_Tables_n48 v_Tables_c48 =>
  mCons l398 fun v_Seq96 l399 =>
  mInt .u64 v_Seq96 fun v_Seq97 =>
  mCons l399 fun v_Next96 l400 =>
  mInt .i64 v_Next96 fun v_Next97 =>
  mCons l400 fun v_Wal96 l401 =>
  mInt .i64 v_Wal96 fun v_Wal97 =>
  mNil l401 (
  mCons l397 fun v208 l402 =>
  mInt .i64 v208 fun v209 =>
  mNil l402 (
  ST w_409 p48 (.slice v_Tables97 v_Tables_n48 v_Tables_c48) fun w_410 =>
  ST w_410 (Addr.add p48 1) (.int .u64 v_Seq97) fun w_411 =>
  ST w_411 (Addr.add p48 2) (.int .i64 v_Next97) fun w_412 =>
  ST w_412 (Addr.add p48 3) (.int .i64 v_Wal97) fun w_413 =>
  LDSl w_413 p fun Tables27 Tables_n27 Tables_c27 =>
  LDI .u64 w_413 (Addr.add p 1) fun Seq27 =>
  LDI .i64 w_413 (Addr.add p 2) fun Next27 =>
  LDI .i64 w_413 (Addr.add p 3) fun Wal27 =>
  AL w_413 (.cells #[(.int .i64 7)] 3) fun b81 w_414 =>
  AL w_414 (.cells #[(.slice none 0 0), (.slice (some b81) 1 1), (.int .u64 0), (.int .i64 0), (.int .i64 0)] 31) fun b82 w_415 =>
  CallR Tryd.prog fn_manifest_Apply #[(.agg #[(.slice Tables27 Tables_n27 Tables_c27), (.int .u64 Seq27), (.int .i64 Next27), (.int .i64 Wal27)]), (.slice (some b82) 1 1)] w_415 fun res82 w_416 =>
  known_s78 v2 p v197 v209 res82 w_416 R))

def known_s80 (res86 : Value) (w_438 : World) (R : Value → World → Prop) : Prop :=
  mStr res86 fun v224 =>
  R (.bool (ByteArray.toList v224 == ByteArray.toList (ByteArray.mk #[116, 45, 48, 48, 48, 48, 48, 51]))) w_438

def known_s81 (v2 : Int) (p : Addr) (v197 : Int) (v218 : Int) (res85 : Value) (w_432 : World) (R : Value → World → Prop) : Prop :=
  mTup res85 fun l417 =>
  mCons l417 fun v219 l418 =>
  mAgg v219 fun v_l63 =>
  mCons v_l63 fun v_Tables102 l419 =>
  mSlice v_Tables102 fun v_Tables103 v_Tables_n51 v_Tables_c51 =>
  mCons l419 fun v_Seq102 l420 =>
  mInt .u64 v_Seq102 fun v_Seq103 =>
  mCons l420 fun v_Next102 l421 =>
  mInt .i64 v_Next102 fun v_Next103 =>
  mCons l421 fun v_Wal102 l422 =>
  mInt .i64 v_Wal102 fun v_Wal103 =>
  mNil l422 (
  mCons l418 fun v220 l423 =>
  mInt .i64 v220 fun v221 =>
  mNil l423 (
  AL w_432 (.cells #[(.slice none 0 0), (.int .u64 0), (.int .i64 0), (.int .i64 0)] 27) fun p51 w_433 =>
  ST w_433 p51 (.slice v_Tables103 v_Tables_n51 v_Tables_c51) fun w_434 =>
  ST w_434 (Addr.add p51 1) (.int .u64 v_Seq103) fun w_435 =>
  ST w_435 (Addr.add p51 2) (.int .i64 v_Next103) fun w_436 =>
  ST w_436 (Addr.add p51 3) (.int .i64 v_Wal103) fun w_437 =>
  Br (v2 == 0) (
  LDSl w_437 p fun _ v_n22 _ =>
  Br ((v_n22 : Int) == 1) (
  LDI .i64 w_437 (Addr.add p 2) fun v223 =>
  Br (v223 == 2) (
  Br (v197 == 15) (
  Br (v218 == 0) (
  Br (v221 == 4) (
  CallR Tryd.prog fn_manifest_File #[(.int .i64 3)] w_437 fun res86 w_438 =>
  known_s80 res86 w_438 R) (
  R (.bool false) w_437)) (
  R (.bool false) w_437)) (
  R (.bool false) w_437)) (
  R (.bool false) w_437)) (
  R (.bool false) w_437)) (
  R (.bool false) w_437)))

def known_s82 (v2 : Int) (p : Addr) (v197 : Int) (p50 : Addr) (res84 : Value) (w_425 : World) (R : Value → World → Prop) : Prop :=
  mTup res84 fun l410 =>
  mCons l410 fun v216 l411 =>
  mAgg v216 fun v_l62 =>
  mCons v_l62 fun v_Tables100 l412 =>
  mSlice v_Tables100 fun v_Tables101 v_Tables_n50 v_Tables_c50 =>
  mCons l412 fun v_Seq100 l413 =>
  mInt .u64 v_Seq100 fun v_Seq101 =>
  mCons l413 fun v_Next100 l414 =>
  mInt .i64 v_Next100 fun v_Next101 =>
  mCons l414 fun v_Wal100 l415 =>
  mInt .i64 v_Wal100 fun v_Wal101 =>
  mNil l415 (
  mCons l411 fun v217 l416 =>
  mInt .i64 v217 fun v218 =>
  mNil l416 (
  ST w_425 p50 (.slice v_Tables101 v_Tables_n50 v_Tables_c50) fun w_426 =>
  ST w_426 (Addr.add p50 1) (.int .u64 v_Seq101) fun w_427 =>
  ST w_427 (Addr.add p50 2) (.int .i64 v_Next101) fun w_428 =>
  ST w_428 (Addr.add p50 3) (.int .i64 v_Wal101) fun w_429 =>
  LDSl w_429 p fun Tables28 Tables_n28 Tables_c28 =>
  LDI .u64 w_429 (Addr.add p 1) fun Seq28 =>
  LDI .i64 w_429 (Addr.add p 2) fun Next28 =>
  LDI .i64 w_429 (Addr.add p 3) fun Wal28 =>
  AL w_429 (.cells #[(.int .i64 7)] 3) fun b84 w_430 =>
  AL w_430 (.cells #[(.slice none 0 0), (.slice (some b84) 1 1), (.int .u64 0), (.int .i64 0), (.int .i64 0)] 31) fun b85 w_431 =>
  CallR Tryd.prog fn_manifest_Apply #[(.agg #[(.slice Tables28 Tables_n28 Tables_c28), (.int .u64 Seq28), (.int .i64 Next28), (.int .i64 Wal28)]), (.slice (some b85) 1 1)] w_431 fun res85 w_432 =>
  known_s81 v2 p v197 v218 res85 w_432 R))

def known_s83 (res89 : Value) (w_455 : World) (R : Value → World → Prop) : Prop :=
  mStr res89 fun v233 =>
  R (.bool (ByteArray.toList v233 == ByteArray.toList (ByteArray.mk #[116, 45, 48, 48, 48, 48, 48, 51]))) w_455

def known_s84 (v2 : Int) (p : Addr) (v197 : Int) (v227 : Int) (res88 : Value) (w_449 : World) (R : Value → World → Prop) : Prop :=
  mTup res88 fun l431 =>
  mCons l431 fun v228 l432 =>
  mAgg v228 fun v_l65 =>
  mCons v_l65 fun v_Tables106 l433 =>
  mSlice v_Tables106 fun v_Tables107 v_Tables_n53 v_Tables_c53 =>
  mCons l433 fun v_Seq106 l434 =>
  mInt .u64 v_Seq106 fun v_Seq107 =>
  mCons l434 fun v_Next106 l435 =>
  mInt .i64 v_Next106 fun v_Next107 =>
  mCons l435 fun v_Wal106 l436 =>
  mInt .i64 v_Wal106 fun v_Wal107 =>
  mNil l436 (
  mCons l432 fun v229 l437 =>
  mInt .i64 v229 fun v230 =>
  mNil l437 (
  AL w_449 (.cells #[(.slice none 0 0), (.int .u64 0), (.int .i64 0), (.int .i64 0)] 27) fun p53 w_450 =>
  ST w_450 p53 (.slice v_Tables107 v_Tables_n53 v_Tables_c53) fun w_451 =>
  ST w_451 (Addr.add p53 1) (.int .u64 v_Seq107) fun w_452 =>
  ST w_452 (Addr.add p53 2) (.int .i64 v_Next107) fun w_453 =>
  ST w_453 (Addr.add p53 3) (.int .i64 v_Wal107) fun w_454 =>
  Br (v2 == 0) (
  LDSl w_454 p fun _ v_n23 _ =>
  Br ((v_n23 : Int) == 1) (
  LDI .i64 w_454 (Addr.add p 2) fun v232 =>
  Br (v232 == 2) (
  Br (v197 == 15) (
  Br (v227 == 0) (
  Br (v230 == 4) (
  CallR Tryd.prog fn_manifest_File #[(.int .i64 3)] w_454 fun res89 w_455 =>
  known_s83 res89 w_455 R) (
  R (.bool false) w_454)) (
  R (.bool false) w_454)) (
  R (.bool false) w_454)) (
  R (.bool false) w_454)) (
  R (.bool false) w_454)) (
  R (.bool false) w_454)))

def known_s85 (v2 : Int) (p : Addr) (v197 : Int) (p52 : Addr) (res87 : Value) (w_442 : World) (R : Value → World → Prop) : Prop :=
  mTup res87 fun l424 =>
  mCons l424 fun v225 l425 =>
  mAgg v225 fun v_l64 =>
  mCons v_l64 fun v_Tables104 l426 =>
  mSlice v_Tables104 fun v_Tables105 v_Tables_n52 v_Tables_c52 =>
  mCons l426 fun v_Seq104 l427 =>
  mInt .u64 v_Seq104 fun v_Seq105 =>
  mCons l427 fun v_Next104 l428 =>
  mInt .i64 v_Next104 fun v_Next105 =>
  mCons l428 fun v_Wal104 l429 =>
  mInt .i64 v_Wal104 fun v_Wal105 =>
  mNil l429 (
  mCons l425 fun v226 l430 =>
  mInt .i64 v226 fun v227 =>
  mNil l430 (
  ST w_442 p52 (.slice v_Tables105 v_Tables_n52 v_Tables_c52) fun w_443 =>
  ST w_443 (Addr.add p52 1) (.int .u64 v_Seq105) fun w_444 =>
  ST w_444 (Addr.add p52 2) (.int .i64 v_Next105) fun w_445 =>
  ST w_445 (Addr.add p52 3) (.int .i64 v_Wal105) fun w_446 =>
  LDSl w_446 p fun Tables29 Tables_n29 Tables_c29 =>
  LDI .u64 w_446 (Addr.add p 1) fun Seq29 =>
  LDI .i64 w_446 (Addr.add p 2) fun Next29 =>
  LDI .i64 w_446 (Addr.add p 3) fun Wal29 =>
  AL w_446 (.cells #[(.int .i64 7)] 3) fun b88 w_447 =>
  AL w_447 (.cells #[(.slice none 0 0), (.slice (some b88) 1 1), (.int .u64 0), (.int .i64 0), (.int .i64 0)] 31) fun b89 w_448 =>
  CallR Tryd.prog fn_manifest_Apply #[(.agg #[(.slice Tables29 Tables_n29 Tables_c29), (.int .u64 Seq29), (.int .i64 Next29), (.int .i64 Wal29)]), (.slice (some b89) 1 1)] w_448 fun res88 w_449 =>
  known_s84 v2 p v197 v227 res88 w_449 R))

def known_s86 (v2 : Int) (p : Addr) (v197 : Int) (Tables25 : Option Addr) (Tables_n25 : Nat) (Tables_c25 : Nat) (Seq25 : Int) (Next25 : Int) (Wal25 : Int) (res77 : Value) (w_390 : World) (R : Value → World → Prop) : Prop :=
  mAgg res77 fun v_l57 =>
  mCons v_l57 fun v_File22 l377 =>
  mInt .i64 v_File22 fun v_File23 =>
  mCons l377 fun v_Level22 l378 =>
  mInt .i64 v_Level22 fun v_Level23 =>
  mCons l378 fun v_First22 l379 =>
  mStr v_First22 fun v_First23 =>
  mCons l379 fun v_Last22 l380 =>
  mStr v_Last22 fun v_Last23 =>
  mCons l380 fun v_Size22 l381 =>
  mInt .i64 v_Size22 fun v_Size23 =>
  mNil l381 (
  (World.cell? w_390 p = some (.slice Tables25 Tables_n25 Tables_c25) ∧ 
  (World.cell? w_390 (Addr.add p 1) = some (.int .u64 Seq25) ∧ 
  (World.cell? w_390 (Addr.add p 2) = some (.int .i64 Next25) ∧ 
  (World.cell? w_390 (Addr.add p 3) = some (.int .i64 Wal25) ∧ 
  (
  AL w_390 (.cells #[(.int .i64 v_File23), (.int .i64 v_Level23), (.string v_First23), (.string v_Last23), (.int .i64 v_Size23)] 38) fun b77 w_391 =>
  (World.cell? w_391 p = some (.slice Tables25 Tables_n25 Tables_c25) ∧ 
  (World.cell? w_391 (Addr.add p 1) = some (.int .u64 Seq25) ∧ 
  (World.cell? w_391 (Addr.add p 2) = some (.int .i64 Next25) ∧ 
  (World.cell? w_391 (Addr.add p 3) = some (.int .i64 Wal25) ∧ 
  (w_391 = w_391 ∧ 
  (
  AL w_391 (.cells #[(.slice (some b77) 1 1), (.slice none 0 0), (.int .u64 0), (.int .i64 0), (.int .i64 0)] 31) fun b78 w_392 =>
  (World.cell? w_392 p = some (.slice Tables25 Tables_n25 Tables_c25) ∧ 
  (World.cell? w_392 (Addr.add p 1) = some (.int .u64 Seq25) ∧ 
  (World.cell? w_392 (Addr.add p 2) = some (.int .i64 Next25) ∧ 
  (World.cell? w_392 (Addr.add p 3) = some (.int .i64 Wal25) ∧ 
  (
  CallR Tryd.prog fn_manifest_Apply #[(.agg #[(.slice Tables25 Tables_n25 Tables_c25), (.int .u64 Seq25), (.int .i64 Next25), (.int .i64 Wal25)]), (.slice (some b78) 1 1)] w_392 fun res78 w_393 =>
  known_s76 v2 p v197 res78 w_393 R) ∧ (
  AL w_392 (.cells #[(.slice none 0 0), (.int .u64 0), (.int .i64 0), (.int .i64 0)] 27) fun p48 w_408 =>
  (World.cell? w_408 p = some (.slice Tables25 Tables_n25 Tables_c25) ∧ 
  (World.cell? w_408 (Addr.add p 1) = some (.int .u64 Seq25) ∧ 
  (World.cell? w_408 (Addr.add p 2) = some (.int .i64 Next25) ∧ 
  (World.cell? w_408 (Addr.add p 3) = some (.int .i64 Wal25) ∧ 
  CallR Tryd.prog fn_manifest_Apply #[(.agg #[(.slice Tables25 Tables_n25 Tables_c25), (.int .u64 Seq25), (.int .i64 Next25), (.int .i64 Wal25)]), (.slice (some b78) 1 1)] w_408 fun res81 w_409 =>
  known_s79 v2 p v197 p48 res81 w_409 R)))))))))) ∧ (
  AL w_391 (.cells #[(.slice none 0 0), (.int .u64 0), (.int .i64 0), (.int .i64 0)] 27) fun p50 w_423 =>
  (((w_423 = w_423 ∧ ((.agg #[(.slice (some b77) 1 1), (.slice none 0 0), (.int .u64 0), (.int .i64 0), (.int .i64 0)]) : Value) = (.agg #[(.slice (some b77) 1 1), (.slice none 0 0), (.int .u64 0), (.int .i64 0), (.int .i64 0)]))) ∧ 
  (World.cell? w_423 p = some (.slice Tables25 Tables_n25 Tables_c25) ∧ 
  (World.cell? w_423 (Addr.add p 1) = some (.int .u64 Seq25) ∧ 
  (World.cell? w_423 (Addr.add p 2) = some (.int .i64 Next25) ∧ 
  (World.cell? w_423 (Addr.add p 3) = some (.int .i64 Wal25) ∧ 
  AL w_423 (.cells #[(.slice (some b77) 1 1), (.slice none 0 0), (.int .u64 0), (.int .i64 0), (.int .i64 0)] 31) fun b83 w_424 =>
  (World.cell? w_424 p = some (.slice Tables25 Tables_n25 Tables_c25) ∧ 
  (World.cell? w_424 (Addr.add p 1) = some (.int .u64 Seq25) ∧ 
  (World.cell? w_424 (Addr.add p 2) = some (.int .i64 Next25) ∧ 
  (World.cell? w_424 (Addr.add p 3) = some (.int .i64 Wal25) ∧ 
  CallR Tryd.prog fn_manifest_Apply #[(.agg #[(.slice Tables25 Tables_n25 Tables_c25), (.int .u64 Seq25), (.int .i64 Next25), (.int .i64 Wal25)]), (.slice (some b83) 1 1)] w_424 fun res84 w_425 =>
  known_s82 v2 p v197 p50 res84 w_425 R)))))))))))))))) ∧ (
  AL w_390 (.cells #[(.slice none 0 0), (.int .u64 0), (.int .i64 0), (.int .i64 0)] 27) fun p52 w_439 =>
  (World.cell? w_439 p = some (.slice Tables25 Tables_n25 Tables_c25) ∧ 
  (World.cell? w_439 (Addr.add p 1) = some (.int .u64 Seq25) ∧ 
  (World.cell? w_439 (Addr.add p 2) = some (.int .i64 Next25) ∧ 
  (World.cell? w_439 (Addr.add p 3) = some (.int .i64 Wal25) ∧ 
  AL w_439 (.cells #[(.int .i64 v_File23), (.int .i64 v_Level23), (.string v_First23), (.string v_Last23), (.int .i64 v_Size23)] 38) fun b86 w_440 =>
  (World.cell? w_440 p = some (.slice Tables25 Tables_n25 Tables_c25) ∧ 
  (World.cell? w_440 (Addr.add p 1) = some (.int .u64 Seq25) ∧ 
  (World.cell? w_440 (Addr.add p 2) = some (.int .i64 Next25) ∧ 
  (World.cell? w_440 (Addr.add p 3) = some (.int .i64 Wal25) ∧ 
  (w_440 = w_440 ∧ 
  AL w_440 (.cells #[(.slice (some b86) 1 1), (.slice none 0 0), (.int .u64 0), (.int .i64 0), (.int .i64 0)] 31) fun b87 w_441 =>
  (World.cell? w_441 p = some (.slice Tables25 Tables_n25 Tables_c25) ∧ 
  (World.cell? w_441 (Addr.add p 1) = some (.int .u64 Seq25) ∧ 
  (World.cell? w_441 (Addr.add p 2) = some (.int .i64 Next25) ∧ 
  (World.cell? w_441 (Addr.add p 3) = some (.int .i64 Wal25) ∧ 
  CallR Tryd.prog fn_manifest_Apply #[(.agg #[(.slice Tables25 Tables_n25 Tables_c25), (.int .u64 Seq25), (.int .i64 Next25), (.int .i64 Wal25)]), (.slice (some b87) 1 1)] w_441 fun res87 w_442 =>
  known_s85 v2 p v197 p52 res87 w_442 R)))))))))))))))))))

def known_s87 (res93 : Value) (w_473 : World) (R : Value → World → Prop) : Prop :=
  mStr res93 fun v242 =>
  R (.bool (ByteArray.toList v242 == ByteArray.toList (ByteArray.mk #[116, 45, 48, 48, 48, 48, 48, 51]))) w_473

def known_s88 (v2 : Int) (p : Addr) (v197 : Int) (v236 : Int) (res92 : Value) (w_467 : World) (R : Value → World → Prop) : Prop :=
  mTup res92 fun l450 =>
  mCons l450 fun v237 l451 =>
  mAgg v237 fun v_l68 =>
  mCons v_l68 fun v_Tables110 l452 =>
  mSlice v_Tables110 fun v_Tables111 v_Tables_n55 v_Tables_c55 =>
  mCons l452 fun v_Seq110 l453 =>
  mInt .u64 v_Seq110 fun v_Seq111 =>
  mCons l453 fun v_Next110 l454 =>
  mInt .i64 v_Next110 fun v_Next111 =>
  mCons l454 fun v_Wal110 l455 =>
  mInt .i64 v_Wal110 fun v_Wal111 =>
  mNil l455 (
  mCons l451 fun v238 l456 =>
  mInt .i64 v238 fun v239 =>
  mNil l456 (
  AL w_467 (.cells #[(.slice none 0 0), (.int .u64 0), (.int .i64 0), (.int .i64 0)] 27) fun p55 w_468 =>
  ST w_468 p55 (.slice v_Tables111 v_Tables_n55 v_Tables_c55) fun w_469 =>
  ST w_469 (Addr.add p55 1) (.int .u64 v_Seq111) fun w_470 =>
  ST w_470 (Addr.add p55 2) (.int .i64 v_Next111) fun w_471 =>
  ST w_471 (Addr.add p55 3) (.int .i64 v_Wal111) fun w_472 =>
  Br (v2 == 0) (
  LDSl w_472 p fun _ v_n24 _ =>
  Br ((v_n24 : Int) == 1) (
  LDI .i64 w_472 (Addr.add p 2) fun v241 =>
  Br (v241 == 2) (
  Br (v197 == 15) (
  Br (v236 == 0) (
  Br (v239 == 4) (
  CallR Tryd.prog fn_manifest_File #[(.int .i64 3)] w_472 fun res93 w_473 =>
  known_s87 res93 w_473 R) (
  R (.bool false) w_472)) (
  R (.bool false) w_472)) (
  R (.bool false) w_472)) (
  R (.bool false) w_472)) (
  R (.bool false) w_472)) (
  R (.bool false) w_472)))

def known_s89 (v2 : Int) (p : Addr) (v197 : Int) (p54 : Addr) (res91 : Value) (w_460 : World) (R : Value → World → Prop) : Prop :=
  mTup res91 fun l443 =>
  mCons l443 fun v234 l444 =>
  mAgg v234 fun v_l67 =>
  mCons v_l67 fun v_Tables108 l445 =>
  mSlice v_Tables108 fun v_Tables109 v_Tables_n54 v_Tables_c54 =>
  mCons l445 fun v_Seq108 l446 =>
  mInt .u64 v_Seq108 fun v_Seq109 =>
  mCons l446 fun v_Next108 l447 =>
  mInt .i64 v_Next108 fun v_Next109 =>
  mCons l447 fun v_Wal108 l448 =>
  mInt .i64 v_Wal108 fun v_Wal109 =>
  mNil l448 (
  mCons l444 fun v235 l449 =>
  mInt .i64 v235 fun v236 =>
  mNil l449 (
  ST w_460 p54 (.slice v_Tables109 v_Tables_n54 v_Tables_c54) fun w_461 =>
  ST w_461 (Addr.add p54 1) (.int .u64 v_Seq109) fun w_462 =>
  ST w_462 (Addr.add p54 2) (.int .i64 v_Next109) fun w_463 =>
  ST w_463 (Addr.add p54 3) (.int .i64 v_Wal109) fun w_464 =>
  LDSl w_464 p fun Tables30 Tables_n30 Tables_c30 =>
  LDI .u64 w_464 (Addr.add p 1) fun Seq30 =>
  LDI .i64 w_464 (Addr.add p 2) fun Next30 =>
  LDI .i64 w_464 (Addr.add p 3) fun Wal30 =>
  AL w_464 (.cells #[(.int .i64 7)] 3) fun b92 w_465 =>
  AL w_465 (.cells #[(.slice none 0 0), (.slice (some b92) 1 1), (.int .u64 0), (.int .i64 0), (.int .i64 0)] 31) fun b93 w_466 =>
  CallR Tryd.prog fn_manifest_Apply #[(.agg #[(.slice Tables30 Tables_n30 Tables_c30), (.int .u64 Seq30), (.int .i64 Next30), (.int .i64 Wal30)]), (.slice (some b93) 1 1)] w_466 fun res92 w_467 =>
  known_s88 v2 p v197 v236 res92 w_467 R))

def known_s90 (v2 : Int) (p : Addr) (v197 : Int) (Tables25 : Option Addr) (Tables_n25 : Nat) (Tables_c25 : Nat) (Seq25 : Int) (Next25 : Int) (Wal25 : Int) (p54 : Addr) (res90 : Value) (w_457 : World) (R : Value → World → Prop) : Prop :=
  mAgg res90 fun v_l66 =>
  mCons v_l66 fun v_File24 l438 =>
  mInt .i64 v_File24 fun v_File25 =>
  mCons l438 fun v_Level24 l439 =>
  mInt .i64 v_Level24 fun v_Level25 =>
  mCons l439 fun v_First24 l440 =>
  mStr v_First24 fun v_First25 =>
  mCons l440 fun v_Last24 l441 =>
  mStr v_Last24 fun v_Last25 =>
  mCons l441 fun v_Size24 l442 =>
  mInt .i64 v_Size24 fun v_Size25 =>
  mNil l442 (
  (World.cell? w_457 p = some (.slice Tables25 Tables_n25 Tables_c25) ∧ 
  (World.cell? w_457 (Addr.add p 1) = some (.int .u64 Seq25) ∧ 
  (World.cell? w_457 (Addr.add p 2) = some (.int .i64 Next25) ∧ 
  (World.cell? w_457 (Addr.add p 3) = some (.int .i64 Wal25) ∧ 
  AL w_457 (.cells #[(.int .i64 v_File25), (.int .i64 v_Level25), (.string v_First25), (.string v_Last25), (.int .i64 v_Size25)] 38) fun b90 w_458 =>
  (World.cell? w_458 p = some (.slice Tables25 Tables_n25 Tables_c25) ∧ 
  (World.cell? w_458 (Addr.add p 1) = some (.int .u64 Seq25) ∧ 
  (World.cell? w_458 (Addr.add p 2) = some (.int .i64 Next25) ∧ 
  (World.cell? w_458 (Addr.add p 3) = some (.int .i64 Wal25) ∧ 
  (w_458 = w_458 ∧ 
  AL w_458 (.cells #[(.slice (some b90) 1 1), (.slice none 0 0), (.int .u64 0), (.int .i64 0), (.int .i64 0)] 31) fun b91 w_459 =>
  (World.cell? w_459 p = some (.slice Tables25 Tables_n25 Tables_c25) ∧ 
  (World.cell? w_459 (Addr.add p 1) = some (.int .u64 Seq25) ∧ 
  (World.cell? w_459 (Addr.add p 2) = some (.int .i64 Next25) ∧ 
  (World.cell? w_459 (Addr.add p 3) = some (.int .i64 Wal25) ∧ 
  CallR Tryd.prog fn_manifest_Apply #[(.agg #[(.slice Tables25 Tables_n25 Tables_c25), (.int .u64 Seq25), (.int .i64 Next25), (.int .i64 Wal25)]), (.slice (some b91) 1 1)] w_459 fun res91 w_460 =>
  known_s89 v2 p v197 p54 res91 w_460 R))))))))))))))

def known_s91 (v2 : Int) (p : Addr) (p45 : Addr) (res76 : Value) (w_384 : World) (R : Value → World → Prop) : Prop :=
  mTup res76 fun l370 =>
  mCons l370 fun v195 l371 =>
  mAgg v195 fun v_l56 =>
  mCons v_l56 fun v_Tables90 l372 =>
  mSlice v_Tables90 fun v_Tables91 v_Tables_n45 v_Tables_c45 =>
  mCons l372 fun v_Seq90 l373 =>
  mInt .u64 v_Seq90 fun v_Seq91 =>
  mCons l373 fun v_Next90 l374 =>
  mInt .i64 v_Next90 fun v_Next91 =>
  mCons l374 fun v_Wal90 l375 =>
  mInt .i64 v_Wal90 fun v_Wal91 =>
  mNil l375 (
  mCons l371 fun v196 l376 =>
  mInt .i64 v196 fun v197 =>
  mNil l376 (
  ST w_384 p45 (.slice v_Tables91 v_Tables_n45 v_Tables_c45) fun w_385 =>
  ST w_385 (Addr.add p45 1) (.int .u64 v_Seq91) fun w_386 =>
  ST w_386 (Addr.add p45 2) (.int .i64 v_Next91) fun w_387 =>
  ST w_387 (Addr.add p45 3) (.int .i64 v_Wal91) fun w_388 =>
  LetW (World.drew w_388) fun w_389 =>
  LDSl w_389 p fun Tables25 Tables_n25 Tables_c25 =>
  LDI .u64 w_389 (Addr.add p 1) fun Seq25 =>
  LDI .i64 w_389 (Addr.add p 2) fun Next25 =>
  LDI .i64 w_389 (Addr.add p 3) fun Wal25 =>
  (
  CallR Tryd.prog fn_glacierlaw8_table #[(.int .i64 2), (.int .i64 0), (.string (ByteArray.mk #[99])), (.string (ByteArray.mk #[100]))] w_389 fun res77 w_390 =>
  known_s86 v2 p v197 Tables25 Tables_n25 Tables_c25 Seq25 Next25 Wal25 res77 w_390 R) ∧ (
  AL w_389 (.cells #[(.slice none 0 0), (.int .u64 0), (.int .i64 0), (.int .i64 0)] 27) fun p54 w_456 =>
  (World.cell? w_456 p = some (.slice Tables25 Tables_n25 Tables_c25) ∧ 
  (World.cell? w_456 (Addr.add p 1) = some (.int .u64 Seq25) ∧ 
  (World.cell? w_456 (Addr.add p 2) = some (.int .i64 Next25) ∧ 
  (World.cell? w_456 (Addr.add p 3) = some (.int .i64 Wal25) ∧ 
  CallR Tryd.prog fn_glacierlaw8_table #[(.int .i64 2), (.int .i64 0), (.string (ByteArray.mk #[99])), (.string (ByteArray.mk #[100]))] w_456 fun res90 w_457 =>
  known_s90 v2 p v197 Tables25 Tables_n25 Tables_c25 Seq25 Next25 Wal25 p54 res90 w_457 R)))))))

def known_s92 (v2 : Int) (p : Addr) (Tables : Option Addr) (Tables_n : Nat) (Tables_c : Nat) (Seq : Int) (Next : Int) (Wal : Int) (p45 : Addr) (res75 : Value) (w_381 : World) (R : Value → World → Prop) : Prop :=
  mAgg res75 fun v_l55 =>
  mCons v_l55 fun v_File20 l365 =>
  mInt .i64 v_File20 fun v_File21 =>
  mCons l365 fun v_Level20 l366 =>
  mInt .i64 v_Level20 fun v_Level21 =>
  mCons l366 fun v_First20 l367 =>
  mStr v_First20 fun v_First21 =>
  mCons l367 fun v_Last20 l368 =>
  mStr v_Last20 fun v_Last21 =>
  mCons l368 fun v_Size20 l369 =>
  mInt .i64 v_Size20 fun v_Size21 =>
  mNil l369 (
  (World.cell? w_381 p = some (.slice Tables Tables_n Tables_c) ∧ 
  (World.cell? w_381 (Addr.add p 1) = some (.int .u64 Seq) ∧ 
  (World.cell? w_381 (Addr.add p 2) = some (.int .i64 Next) ∧ 
  (World.cell? w_381 (Addr.add p 3) = some (.int .i64 Wal) ∧ 
  AL w_381 (.cells #[(.int .i64 v_File21), (.int .i64 v_Level21), (.string v_First21), (.string v_Last21), (.int .i64 v_Size21)] 38) fun b75 w_382 =>
  (World.cell? w_382 p = some (.slice Tables Tables_n Tables_c) ∧ 
  (World.cell? w_382 (Addr.add p 1) = some (.int .u64 Seq) ∧ 
  (World.cell? w_382 (Addr.add p 2) = some (.int .i64 Next) ∧ 
  (World.cell? w_382 (Addr.add p 3) = some (.int .i64 Wal) ∧ 
  (w_382 = w_382 ∧ 
  AL w_382 (.cells #[(.slice (some b75) 1 1), (.slice none 0 0), (.int .u64 0), (.int .i64 0), (.int .i64 0)] 31) fun b76 w_383 =>
  (World.cell? w_383 p = some (.slice Tables Tables_n Tables_c) ∧ 
  (World.cell? w_383 (Addr.add p 1) = some (.int .u64 Seq) ∧ 
  (World.cell? w_383 (Addr.add p 2) = some (.int .i64 Next) ∧ 
  (World.cell? w_383 (Addr.add p 3) = some (.int .i64 Wal) ∧ 
  CallR Tryd.prog fn_manifest_Apply #[(.agg #[(.slice Tables Tables_n Tables_c), (.int .u64 Seq), (.int .i64 Next), (.int .i64 Wal)]), (.slice (some b76) 1 1)] w_383 fun res76 w_384 =>
  known_s91 v2 p p45 res76 w_384 R))))))))))))))

def known_s93 (res1 : Value) (w_3 : World) (R : Value → World → Prop) : Prop :=
  mTup res1 fun l5 =>
  mCons l5 fun v l6 =>
  mAgg v fun v_l1 =>
  mCons v_l1 fun v_Tables l7 =>
  mSlice v_Tables fun v_Tables1 v_Tables_n v_Tables_c =>
  mCons l7 fun v_Seq l8 =>
  mInt .u64 v_Seq fun v_Seq1 =>
  mCons l8 fun v_Next l9 =>
  mInt .i64 v_Next fun v_Next1 =>
  mCons l9 fun v_Wal l10 =>
  mInt .i64 v_Wal fun v_Wal1 =>
  mNil l10 (
  mCons l6 fun v1 l11 =>
  mInt .i64 v1 fun v2 =>
  mNil l11 (
  AL w_3 (.cells #[(.slice none 0 0), (.int .u64 0), (.int .i64 0), (.int .i64 0)] 27) fun p w_4 =>
  ST w_4 p (.slice v_Tables1 v_Tables_n v_Tables_c) fun w_5 =>
  ST w_5 (Addr.add p 1) (.int .u64 v_Seq1) fun w_6 =>
  ST w_6 (Addr.add p 2) (.int .i64 v_Next1) fun w_7 =>
  ST w_7 (Addr.add p 3) (.int .i64 v_Wal1) fun w_8 =>
  LetW (World.drew w_8) fun w_9 =>
  LDSl w_9 p fun Tables Tables_n Tables_c =>
  LDI .u64 w_9 (Addr.add p 1) fun Seq =>
  LDI .i64 w_9 (Addr.add p 2) fun Next =>
  LDI .i64 w_9 (Addr.add p 3) fun Wal =>
  (
  CallR Tryd.prog fn_glacierlaw8_table #[(.int .i64 2), (.int .i64 1), (.string (ByteArray.mk #[99])), (.string (ByteArray.mk #[100]))] w_9 fun res2 w_10 =>
  known_s73 v2 p Tables Tables_n Tables_c Seq Next Wal res2 w_10 R) ∧ (
  AL w_9 (.cells #[(.slice none 0 0), (.int .u64 0), (.int .i64 0), (.int .i64 0)] 27) fun p45 w_380 =>
  (World.cell? w_380 p = some (.slice Tables Tables_n Tables_c) ∧ 
  (World.cell? w_380 (Addr.add p 1) = some (.int .u64 Seq) ∧ 
  (World.cell? w_380 (Addr.add p 2) = some (.int .i64 Next) ∧ 
  (World.cell? w_380 (Addr.add p 3) = some (.int .i64 Wal) ∧ 
  CallR Tryd.prog fn_glacierlaw8_table #[(.int .i64 2), (.int .i64 1), (.string (ByteArray.mk #[99])), (.string (ByteArray.mk #[100]))] w_380 fun res75 w_381 =>
  known_s92 v2 p Tables Tables_n Tables_c Seq Next Wal p45 res75 w_381 R)))))))

def known_s94 (res : Value) (w_ : World) (R : Value → World → Prop) : Prop :=
  mAgg res fun v_l =>
  mCons v_l fun v_File l =>
  mInt .i64 v_File fun v_File1 =>
  mCons l fun v_Level l1 =>
  mInt .i64 v_Level fun v_Level1 =>
  mCons l1 fun v_First l2 =>
  mStr v_First fun v_First1 =>
  mCons l2 fun v_Last l3 =>
  mStr v_Last fun v_Last1 =>
  mCons l3 fun v_Size l4 =>
  mInt .i64 v_Size fun v_Size1 =>
  mNil l4 (
  AL w_ (.cells #[(.int .i64 v_File1), (.int .i64 v_Level1), (.string v_First1), (.string v_Last1), (.int .i64 v_Size1)] 38) fun b w_1 =>
  AL w_1 (.cells #[(.slice (some b) 1 1), (.slice none 0 0), (.int .u64 0), (.int .i64 2), (.int .i64 0)] 31) fun b1 w_2 =>
  CallR Tryd.prog fn_manifest_Apply #[(.agg #[(.slice none 0 0), (.int .u64 0), (.int .i64 0), (.int .i64 0)]), (.slice (some b1) 1 1)] w_2 fun res1 w_3 =>
  known_s93 res1 w_3 R)

def known_s0 (R : Value → World → Prop) (w : World) : Prop :=
  CallR Tryd.prog fn_glacierlaw8_table #[(.int .i64 1), (.int .i64 1), (.string (ByteArray.mk #[97])), (.string (ByteArray.mk #[99]))] w fun res w_ =>
  known_s94 res w_ R


end Go.Proofs.YtnhjcjnjpciifaaDoor
