/- The texts of functions, as they are evaluated: printed by a program. -/
import Derived.Test.YtpmajhocoepajaaGreatDoorAmT3
set_option linter.unusedVariables false
set_option maxRecDepth 100000
namespace Go.Am
noncomputable def c113 : TT → FnC := fnC 3 ((seqC (rg fun T E H k => bM (fBox 67 11 (t0 E)) H fun v3 H => k (d4 (d3 E v3) (.bool false)) H)
 (seqC (seqC (rg fun T E H k => bV (fLd1 (t1 E) H) fun v7 => bV (fFad 0 (t3 E)) fun v8 => bV (fLd1 v8 H) fun v9 => onFnV [v7, v9] fun f l => T f l H fun v10 H => bV (fNot v10) fun v11 => k (d11 E v11) H)
 (condF t11
 (seqC (rg fun T E H k => k (d4 E (.bool true)) H)
 retC)
 skipC))
 (seqC (rg fun T E H k => bM (aMap []) H fun v12 H => bM (fNew 89 [.nilm] []) H fun v5 H => bE (fSt 1 v5 v12 H) H fun _ H => k (d5 E v5) H)
 (seqC (rg fun T E H k => bM (fNew 95 [.nilf] []) H fun v6 H => k (d6 E v6) H)
 (seqC (rg fun T E H k => bV (oFn (.func 114) 0 [(t2 E), (t1 E), (t5 E), (t6 E)]) fun v13 => bE (fSt 1 (t6 E) v13 H) H fun _ H => k E H)
 (seqC (rg fun T E H k => bV (fLd1 (t6 E) H) fun v14 => bV (fFad 0 (t3 E)) fun v15 => bV (fLd1 v15 H) fun v16 => onFnV [v14, v16] fun f l => T f l H fun v17 H => k E H)
 (seqC (rg fun T E H k => bV (fLd1 (t5 E) H) fun v18 => bV (fFad 0 (t3 E)) fun v19 => bV (fLd1 v19 H) fun v20 => bV (oLk .s (.bool false) false v18 v20 H) fun v21 => bV (fNot v21) fun v22 => k (d4 E v22) H)
 retC)))))))) [fun E _ => some (t4 E)]
def pl113 : Nat × List (Nat × Plan) := (8386432, [])
noncomputable def c114 : TT → FnC := fnC 5 ((seqC (rg fun T E H k => bV (fLd1 (t1 E) H) fun v8 => bV (fNilchk v8) fun v9 => bV (fFad 7 v9) fun v10 => bV (fLd1 v10 H) fun v11 => bV (oLk .s .nils false v11 (t0 E) H) fun v13 => bV (fLenV v13) fun v14 => k (d15 (d14 (d13 E v13) v14) (.int .i64 (.ofNat 0))) H)
 (blockC 0 (loopC (seqC (rg fun T E H k => bV (fLss (t15 E) (t14 E)) fun v16 => k (d16 E v16) H)
 (seqC (condF t16
 skipC
 (exitC 0))
 (seqC (blockC 1 (seqC (rg fun T E H k => bV (fIaS 4 (t13 E) (t15 E)) fun v17 => bV (fLdN 4 v17 H) fun v18 => bM (fNew 70 [(.str 0 0), (.str 0 0), (.str 0 0), (.str 0 0)] []) H fun v7 H => bE (fSt 4 v7 v18 H) H fun _ H => k (d7 E v7) H)
 (seqC (rg fun T E H k => bV (fLd1 (t2 E) H) fun v19 => bV (fFad 2 (t7 E)) fun v20 => bV (fLd1 v20 H) fun v21 => onFnV [v19, v21] fun f l => T f l H fun v22 H => gdH v22 true H (fun rest => bV (fLd1 (t3 E) H) fun v24 => rest v24 H) fun v24 H => gdH v22 true H (fun rest => bV (fFad 2 (t7 E)) fun v25 => rest v25 H) fun v25 H => gdH v22 true H (fun rest => bV (fLd1 v25 H) fun v26 => rest v26 H) fun v26 H => gdH v22 true H (fun rest => bV (oLk .s (.bool false) false v24 v26 H) fun v27 => rest v27 H) fun v27 H => gdH v22 true H (fun rest => bV (fNot v27) fun v28 => rest v28 H) fun v28 H => bV (fPick v22 v28 (.bool false)) fun v29 => k (d29 E v29) H)
 (condF t29
 (seqC (rg fun T E H k => bV (fLd1 (t3 E) H) fun v30 => bV (fFad 2 (t7 E)) fun v31 => bV (fLd1 v31 H) fun v32 => bE (oMu .s v30 v32 (.bool true) H) H fun _ H => k E H)
 (rg fun T E H k => bV (fLd1 (t4 E) H) fun v33 => bV (fFad 2 (t7 E)) fun v34 => bV (fLd1 v34 H) fun v35 => onFnV [v33, v35] fun f l => T f l H fun v36 H => k E H))
 skipC))))
 (rg fun T E H k => bV (fAdd (t15 E) (.int .i64 (.ofNat 1))) fun v37 => k (d15 E v37) H)))))))) []
def pl114 : Nat × List (Nat × Plan) := (274340912896, [])
noncomputable def c115 : TT → FnC := fnC 2 ((seqC (rg fun T E H k => k (d4 E (.str 0 0)) H)
 (seqC (seqC (rg fun T E H k => bV (fEql true .s (t0 E) (.str 0 0)) fun v8 => gdH v8 false H (fun rest => bV (some (t1 E)) fun v10 => rest v10 H) fun v10 H => gdH v8 false H (fun rest => bV (fEql true .s v10 (.str 0 0)) fun v11 => rest v11 H) fun v11 H => bV (fPick v8 (.bool true) v11) fun v12 => k (d12 E v12) H)
 (condF t12
 (seqC (rg fun T E H k => k (d4 E (t0 E)) H)
 retC)
 skipC))
 (seqC (seqC (rg fun T E H k => bV (fLenS (t1 E)) fun v15 => bV (fEql true .i v15 (.int .i64 (.ofNat 1))) fun v16 => gdH v16 true H (fun rest => bV (some (t1 E)) fun v18 => rest v18 H) fun v18 H => gdH v16 true H (fun rest => bV (fIxS v18 (.int .i64 (.ofNat 0))) fun v19 => rest v19 H) fun v19 H => gdH v16 true H (fun rest => bV (fLss v19 (.int .u8 (.ofNat 128))) fun v20 => rest v20 H) fun v20 H => bV (fPick v16 v20 (.bool false)) fun v21 => k (d21 E v21) H)
 (condF t21
 (seqC (rg fun T E H k => bV (fIxS (t1 E) (.int .i64 (.ofNat 0))) fun v24 => T 143 [(t0 E), v24] H fun v25 H => k (d4 E v25) H)
 retC)
 skipC))
 (seqC (seqC (rg fun T E H k => T 144 [(t1 E)] H fun v28 H => bV (fExt 0 v28) fun v29 => bV (fExt 1 v28) fun v30 => bM (fNew 183 [(.bool false), (.bool false), (.bool false), (.bool false), (.bool false), (.bool false), (.bool false), (.bool false), (.bool false), (.bool false), (.bool false), (.bool false), (.bool false), (.bool false), (.bool false), (.bool false), (.bool false), (.bool false), (.bool false), (.bool false), (.bool false), (.bool false), (.bool false), (.bool false), (.bool false), (.bool false), (.bool false), (.bool false), (.bool false), (.bool false), (.bool false), (.bool false), (.bool false), (.bool false), (.bool false), (.bool false), (.bool false), (.bool false), (.bool false), (.bool false), (.bool false), (.bool false), (.bool false), (.bool false), (.bool false), (.bool false), (.bool false), (.bool false), (.bool false), (.bool false), (.bool false), (.bool false), (.bool false), (.bool false), (.bool false), (.bool false), (.bool false), (.bool false), (.bool false), (.bool false), (.bool false), (.bool false), (.bool false), (.bool false), (.bool false), (.bool false), (.bool false), (.bool false), (.bool false), (.bool false), (.bool false), (.bool false), (.bool false), (.bool false), (.bool false), (.bool false), (.bool false), (.bool false), (.bool false), (.bool false), (.bool false), (.bool false), (.bool false), (.bool false), (.bool false), (.bool false), (.bool false), (.bool false), (.bool false), (.bool false), (.bool false), (.bool false), (.bool false), (.bool false), (.bool false), (.bool false), (.bool false), (.bool false), (.bool false), (.bool false), (.bool false), (.bool false), (.bool false), (.bool false), (.bool false), (.bool false), (.bool false), (.bool false), (.bool false), (.bool false), (.bool false), (.bool false), (.bool false), (.bool false), (.bool false), (.bool false), (.bool false), (.bool false), (.bool false), (.bool false), (.bool false), (.bool false), (.bool false), (.bool false), (.bool false), (.bool false), (.bool false), (.bool false), (.bool false), (.bool false), (.bool false), (.bool false), (.bool false), (.bool false), (.bool false), (.bool false), (.bool false), (.bool false), (.bool false), (.bool false), (.bool false), (.bool false), (.bool false), (.bool false), (.bool false), (.bool false), (.bool false), (.bool false), (.bool false), (.bool false), (.bool false), (.bool false), (.bool false), (.bool false), (.bool false), (.bool false), (.bool false), (.bool false), (.bool false), (.bool false), (.bool false), (.bool false), (.bool false), (.bool false), (.bool false), (.bool false), (.bool false), (.bool false), (.bool false), (.bool false), (.bool false), (.bool false), (.bool false), (.bool false), (.bool false), (.bool false), (.bool false), (.bool false), (.bool false), (.bool false), (.bool false), (.bool false), (.bool false), (.bool false), (.bool false), (.bool false), (.bool false), (.bool false), (.bool false), (.bool false), (.bool false), (.bool false), (.bool false), (.bool false), (.bool false), (.bool false), (.bool false), (.bool false), (.bool false), (.bool false), (.bool false), (.bool false), (.bool false), (.bool false), (.bool false), (.bool false), (.bool false), (.bool false), (.bool false), (.bool false), (.bool false), (.bool false), (.bool false), (.bool false), (.bool false), (.bool false), (.bool false), (.bool false), (.bool false), (.bool false), (.bool false), (.bool false), (.bool false), (.bool false), (.bool false), (.bool false), (.bool false), (.bool false), (.bool false), (.bool false), (.bool false), (.bool false), (.bool false), (.bool false), (.bool false), (.bool false), (.bool false), (.bool false), (.bool false), (.bool false), (.bool false), (.bool false), (.bool false), (.bool false), (.bool false), (.bool false), (.bool false), (.bool false), (.bool false), (.bool false), (.bool false), (.bool false), (.bool false), (.bool false), (.bool false), (.bool false)] []) H fun v5 H => bE (fSt 256 v5 v29 H) H fun _ H => k (d6 (d5 E v5) v30) H)
 (seqC (rg fun T E H k => k (d31 E (t6 E)) H)
 (condF t31
 (seqC (rg fun T E H k => T 145 [(t0 E), (t5 E)] H fun v33 H => k (d4 E v33) H)
 retC)
 skipC)))
 (seqC (rg fun T E H k => T 146 [(t0 E), (t1 E)] H fun v36 H => k (d4 E v36) H)
 retC)))))) [fun E _ => some (t4 E)]
def pl115 : Nat × List (Nat × Plan) := (135289368448, [])
noncomputable def c116 : TT → FnC := fnC 1 ((seqC (rg fun T E H k => k (d2 E (.bool false)) H)
 (seqC (rg fun T E H k => bV (fGeq (t0 E) (.int .u8 (.ofNat 48))) fun v4 => gdH v4 true H (fun rest => bV (some (t0 E)) fun v6 => rest v6 H) fun v6 H => gdH v4 true H (fun rest => bV (fLeq v6 (.int .u8 (.ofNat 57))) fun v7 => rest v7 H) fun v7 H => bV (fPick v4 v7 (.bool false)) fun v8 => k (d2 E v8) H)
 retC))) [fun E _ => some (t2 E)]
def pl116 : Nat × List (Nat × Plan) := (504, [])
noncomputable def c117 : TT → FnC := fnC 2 ((seqC (rg fun T E H k => bM (fBox 162 1 (t1 E)) H fun v3 H => k (d4 (d3 E v3) (.int .i64 (.ofNat 0))) H)
 (seqC (rg fun T E H k => bV (oFn (.func 148) 0 [(t3 E)]) fun v7 => T 147 [(t0 E), v7] H fun v8 H => k (d5 E v8) H)
 (seqC (seqC (rg fun T E H k => bV (fLss (t5 E) (.int .i64 (.ofNat 0))) fun v10 => k (d10 E v10) H)
 (condF t10
 (seqC (rg fun T E H k => bV (fLenS (t0 E)) fun v12 => k (d4 E v12) H)
 retC)
 skipC))
 (seqC (rg fun T E H k => k (d4 E (t5 E)) H)
 retC))))) [fun E _ => some (t4 E)]
def pl117 : Nat × List (Nat × Plan) := (15296, [])
noncomputable def c118 : TT → FnC := fnC 2 ((seqC (seqC (rg fun T E H k => bV (fIxS (t1 E) (.int .i64 (.ofNat 0))) fun v7 => bV (fEql true .i v7 (.int .u8 (.ofNat 48))) fun v8 => gdH v8 true H (fun rest => bV (some (t1 E)) fun v10 => rest v10 H) fun v10 H => gdH v8 true H (fun rest => bV (fLenS v10) fun v11 => rest v11 H) fun v11 H => gdH v8 true H (fun rest => bV (fGtr v11 (.int .i64 (.ofNat 1))) fun v12 => rest v12 H) fun v12 H => bV (fPick v8 v12 (.bool false)) fun v13 => k (d13 E v13) H)
 (condF t13
 (seqC (rg fun T E H k => bV (fNilchk (t0 E)) fun v16 => bV (fFad 1 v16) fun v17 => bV (fLd1 v17 H) fun v18 => T 63 [(t0 E), (.int .i64 (.ofNat 4)), v18] H fun v19 H => k E H)
 retC)
 skipC))
 (seqC (rg fun T E H k => T 149 [(t1 E), (.int .i64 (.ofNat 10)), (.int .i64 (.ofNat 64))] H fun v22 H => bV (fExt 0 v22) fun v23 => bV (fExt 1 v22) fun v24 => k (d5 (d4 E v23) v24) H)
 (seqC (seqC (rg fun T E H k => bV (fNeq true .f (t5 E) .nili) fun v26 => k (d26 E v26) H)
 (condF t26
 (rg fun T E H k => bV (fNilchk (t0 E)) fun v29 => bV (fFad 1 v29) fun v30 => bV (fLd1 v30 H) fun v31 => T 63 [(t0 E), (.int .i64 (.ofNat 91)), v31] H fun v32 H => k E H)
 skipC))
 (rg fun T E H k => bV (fAgg [(.int .u8 (.ofNat 0)), (.int .i64 (.ofNat 0)), (.bool false), (.str 0 0)] [(0, 1), (1, 1)] [(.int .u8 (.ofNat 1)), (t4 E)]) fun v35 => bV (fAgg [(.int .u8 (.ofNat 0)), (.int .u8 (.ofNat 0)), (.int .i64 (.ofNat 0)), (.bool false), (.str 0 0), (.str 0 0), .nils] [(0, 1), (1, 4)] [(.int .u8 (.ofNat 1)), v35]) fun v36 => bV (fNilchk (t0 E)) fun v37 => bV (fFad 2 v37) fun v38 => bV (fFad 0 v38) fun v39 => bE (fSt 7 v39 v36 H) H fun _ H => k E H))))) []
def pl118 : Nat × List (Nat × Plan) := (1099444510656, [])
noncomputable def c119 : TT → FnC := fnC 1 ((seqC (rg fun T E H k => k (d2 E (.bool false)) H)
 (seqC (rg fun T E H k => bV (bOr (t0 E) (.int .u8 (.ofNat 32))) fun v4 => bV (fGeq v4 (.int .u8 (.ofNat 97))) fun v5 => gdH v5 true H (fun rest => bV (some (t0 E)) fun v7 => rest v7 H) fun v7 H => gdH v5 true H (fun rest => bV (bOr v7 (.int .u8 (.ofNat 32))) fun v8 => rest v8 H) fun v8 H => gdH v5 true H (fun rest => bV (fLeq v8 (.int .u8 (.ofNat 122))) fun v9 => rest v9 H) fun v9 H => bV (fPick v5 v9 (.bool false)) fun v10 => k (d2 E v10) H)
 retC))) [fun E _ => some (t2 E)]
def pl119 : Nat × List (Nat × Plan) := (2040, [])
noncomputable def c120 : TT → FnC := fnC 1 ((seqC (rg fun T E H k => k (d2 E (.bool false)) H)
 (seqC (rg fun T E H k => T 119 [(t0 E)] H fun v4 H => gdH v4 false H (fun rest => bV (some (t0 E)) fun v6 => rest v6 H) fun v6 H => gdH v4 false H (fun rest => T 116 [v6] H fun v7 H => rest v7 H) fun v7 H => bV (fPick v4 (.bool true) v7) fun v8 => gdH v8 false H (fun rest => bV (some (t0 E)) fun v10 => rest v10 H) fun v10 H => gdH v8 false H (fun rest => bV (fEql true .i v10 (.int .u8 (.ofNat 45))) fun v11 => rest v11 H) fun v11 H => bV (fPick v8 (.bool true) v11) fun v12 => gdH v12 false H (fun rest => bV (some (t0 E)) fun v14 => rest v14 H) fun v14 H => gdH v12 false H (fun rest => bV (fEql true .i v14 (.int .u8 (.ofNat 95))) fun v15 => rest v15 H) fun v15 H => bV (fPick v12 (.bool true) v15) fun v16 => gdH v16 false H (fun rest => bV (some (t0 E)) fun v18 => rest v18 H) fun v18 H => gdH v16 false H (fun rest => bV (fEql true .i v18 (.int .u8 (.ofNat 46))) fun v19 => rest v19 H) fun v19 H => bV (fPick v16 (.bool true) v19) fun v20 => k (d2 E v20) H)
 retC))) [fun E _ => some (t2 E)]
def pl120 : Nat × List (Nat × Plan) := (2097144, [])
noncomputable def c121 : TT → FnC := fnC 2 ((blockC 0 (seqC (rg fun T E H k => bV (fEql true .s (t1 E) (.str 4 1953658213)) fun v12 => gdH v12 false H (fun rest => bV (some (t1 E)) fun v14 => rest v14 H) fun v14 H => gdH v12 false H (fun rest => bV (fEql true .s v14 (.str 5 439721161573)) fun v15 => rest v15 H) fun v15 H => bV (fPick v12 (.bool true) v15) fun v16 => k (d10 E v16) H)
 (condF t10
 (rg fun T E H k => bV (fEql true .s (t1 E) (.str 4 1953658213)) fun v19 => bV (fAgg [(.int .u8 (.ofNat 0)), (.int .i64 (.ofNat 0)), (.bool false), (.str 0 0)] [(0, 1), (2, 1)] [(.int .u8 (.ofNat 2)), v19]) fun v20 => bV (fAgg [(.int .u8 (.ofNat 0)), (.int .u8 (.ofNat 0)), (.int .i64 (.ofNat 0)), (.bool false), (.str 0 0), (.str 0 0), .nils] [(0, 1), (1, 4)] [(.int .u8 (.ofNat 1)), v20]) fun v21 => bV (fNilchk (t0 E)) fun v22 => bV (fFad 2 v22) fun v23 => bV (fFad 0 v23) fun v24 => bE (fSt 7 v24 v21 H) H fun _ H => k E H)
 (seqC (rg fun T E H k => T 150 [(t1 E)] H fun v27 H => k (d25 E v27) H)
 (condF t25
 (rg fun T E H k => bV (fNilchk (t0 E)) fun v30 => bV (fFad 2 v30) fun v31 => bV (fFad 7 v31) fun v32 => bE (fSt 1 v32 (t1 E) H) H fun _ H => k E H)
 (seqC (rg fun T E H k => T 79 [(t1 E)] H fun v35 H => bV (fNot v35) fun v36 => k (d33 E v36) H)
 (condF t33
 (rg fun T E H k => bV (fNilchk (t0 E)) fun v39 => bV (fFad 1 v39) fun v40 => bV (fLd1 v40 H) fun v41 => T 63 [(t0 E), (.int .i64 (.ofNat 4)), v41] H fun v42 H => k E H)
 (rg fun T E H k => bV (fAgg [(.int .u8 (.ofNat 0)), (.int .u8 (.ofNat 0)), (.int .i64 (.ofNat 0)), (.bool false), (.str 0 0), (.str 0 0), .nils] [(0, 1), (5, 1)] [(.int .u8 (.ofNat 2)), (t1 E)]) fun v6 => bV (fNilchk (t0 E)) fun v7 => bV (fFad 2 v7) fun v8 => bV (fFad 0 v8) fun v9 => bE (fSt 7 v9 v6 H) H fun _ H => k E H))))))))) []
def pl121 : Nat × List (Nat × Plan) := (8787469532144, [])
noncomputable def c123 : TT → FnC := fnC 1 ((seqC (rg fun T E H k => bM (fNew 43 [(.int .u8 (.ofNat 0)), (.int .i64 (.ofNat 0)), (.bool false), (.str 0 0)] []) H fun v2 H => k (d2 E v2) H)
 (seqC (rg fun T E H k => bV (fAgg [(.int .u8 (.ofNat 0)), (.int .i64 (.ofNat 0)), (.bool false), (.str 0 0)] [(0, 1), (2, 1)] [(.int .u8 (.ofNat 2)), (t0 E)]) fun v4 => bE (fSt 4 (t2 E) v4 H) H fun _ H => k E H)
 retC))) [fun E H => onPtr (t2 E) fun id off => onOpt (loadN H id off 4) fun l => some (.agg l)]
def pl123 : Nat × List (Nat × Plan) := (24, [])
noncomputable def c124 : TT → FnC := fnC 1 ((seqC (rg fun T E H k => k (d2 E (.bool false)) H)
 (seqC (rg fun T E H k => T 153 [(t0 E)] H fun v4 H => k (d2 E v4) H)
 retC))) [fun E _ => some (t2 E)]
def pl124 : Nat × List (Nat × Plan) := (24, [])
noncomputable def c125 : TT → FnC := fnC 0 ((seqC (rg fun T E H k => k (d0 E .nilm) H)
 (seqC (rg fun T E H k => k (d1 E (.fn (.func 154) [] [])) H)
 (seqC (rg fun T E H k => bM (aMap []) H fun v2 H => bE (oMu .i v2 (.int .u8 (.ofNat 3)) (t1 E) H) H fun _ H => bE (oMu .i v2 (.int .u8 (.ofNat 4)) (t1 E) H) H fun _ H => bE (oMu .i v2 (.int .u8 (.ofNat 8)) (t1 E) H) H fun _ H => bE (oMu .i v2 (.int .u8 (.ofNat 7)) (t1 E) H) H fun _ H => bE (oMu .i v2 (.int .u8 (.ofNat 10)) (.fn (.func 155) [] []) H) H fun _ H => bE (oMu .i v2 (.int .u8 (.ofNat 2)) (.fn (.func 156) [] []) H) H fun _ H => bE (oMu .i v2 (.int .u8 (.ofNat 5)) (.fn (.func 157) [] []) H) H fun _ H => bE (oMu .i v2 (.int .u8 (.ofNat 6)) (.fn (.func 158) [] []) H) H fun _ H => k (d0 E v2) H)
 retC)))) [fun E _ => some (t0 E)]
def pl125 : Nat × List (Nat × Plan) := (252, [])
noncomputable def c126 : TT → FnC := fnC 1 ((seqC (rg fun T E H k => k (d2 E .nils) H)
 (seqC (seqC (rg fun T E H k => bV (fEql true .v (t0 E) .nils) fun v4 => k (d4 E v4) H)
 (condF t4
 (seqC (rg fun T E H k => k (d2 E .nils) H)
 retC)
 skipC))
 (seqC (rg fun T E H k => bM (fSlice 130 0 [] [] []) H fun v5 H => bE (fApp 130 5 56 v5 (t0 E) H) H fun v7 H => k (d2 E v7) H)
 retC)))) [fun E _ => some (t2 E)]
def pl126 : Nat × List (Nat × Plan) := (232, [])
noncomputable def c127 : TT → FnC := fnC 2 ((rg fun T E H k => bV (fLenV (t0 E)) fun v6 => T 159 [(t0 E), v6, (t1 E)] H fun v8 H => k E H)) []
def pl127 : Nat × List (Nat × Plan) := (496, [])
noncomputable def c128 : TT → FnC := fnC 2 ((seqC (rg fun T E H k => bM (fBox 130 5 (t0 E)) H fun v2 H => bM (fBox 130 5 (t1 E)) H fun v3 H => k (d4 (d3 (d2 E v2) v3) (.int .i64 (.ofNat 0))) H)
 (seqC (rg fun T E H k => bV (fFad 1 (t2 E)) fun v5 => bV (fLd1 v5 H) fun v6 => bV (fFad 1 (t3 E)) fun v7 => bV (fLd1 v7 H) fun v8 => T 129 [v6, v8] H fun v9 H => k (d4 E v9) H)
 retC))) [fun E _ => some (t4 E)]
def pl128 : Nat × List (Nat × Plan) := (992, [])
noncomputable def c129 : TT → FnC := fnC 2 ((seqC (rg fun T E H k => k (d4 E (.int .i64 (.ofNat 0))) H)
 (seqC (rg fun T E H k => T 160 [(t0 E)] H fun v8 H => k (d5 E v8) H)
 (seqC (rg fun T E H k => T 160 [(t1 E)] H fun v10 H => k (d6 E v10) H)
 (seqC (seqC (rg fun T E H k => k (d11 E (t5 E)) H)
 (condF t11
 (seqC (seqC (rg fun T E H k => k (d12 E (t6 E)) H)
 (condF t12
 (seqC (rg fun T E H k => k (d4 E (.int .i64 (.ofNat 0))) H)
 retC)
 skipC))
 (seqC (rg fun T E H k => k (d4 E (.int .i64 (.negSucc 0))) H)
 retC))
 skipC))
 (seqC (seqC (rg fun T E H k => k (d13 E (t6 E)) H)
 (condF t13
 (seqC (rg fun T E H k => k (d4 E (.int .i64 (.ofNat 1))) H)
 retC)
 skipC))
 (seqC (seqC (rg fun T E H k => bV (fLss (t0 E) (t1 E)) fun v16 => k (d16 E v16) H)
 (condF t16
 (seqC (rg fun T E H k => k (d4 E (.int .i64 (.negSucc 0))) H)
 retC)
 skipC))
 (seqC (seqC (rg fun T E H k => bV (fGtr (t0 E) (t1 E)) fun v19 => k (d19 E v19) H)
 (condF t19
 (seqC (rg fun T E H k => k (d4 E (.int .i64 (.ofNat 1))) H)
 retC)
 skipC))
 (seqC (rg fun T E H k => k (d4 E (.int .i64 (.ofNat 0))) H)
 retC))))))))) [fun E _ => some (t4 E)]
def pl129 : Nat × List (Nat × Plan) := (444288, [])
noncomputable def c130 : TT → FnC := fnC 2 ((seqC (rg fun T E H k => k (d4 E (.int .i64 (.ofNat 0))) H)
 (seqC (seqC (rg fun T E H k => bV (fLenV (t0 E)) fun v7 => k (d8 (d7 E v7) (.int .i64 (.ofNat 0))) H)
 (blockC 0 (loopC (seqC (rg fun T E H k => bV (fLss (t8 E) (t7 E)) fun v9 => k (d9 E v9) H)
 (seqC (condF t9
 skipC
 (exitC 0))
 (seqC (blockC 1 (seqC (rg fun T E H k => k (d5 E (t8 E)) H)
 (seqC (rg fun T E H k => bV (fIaS 1 (t0 E) (t5 E)) fun v14 => bV (fLd1 v14 H) fun v15 => bV (fEql false .s (t1 E) v15) fun v16 => k (d16 E v16) H)
 (condF t16
 (seqC (rg fun T E H k => k (d4 E (t5 E)) H)
 retC)
 skipC))))
 (rg fun T E H k => bV (fAdd (t8 E) (.int .i64 (.ofNat 1))) fun v18 => k (d8 E v18) H)))))))
 (seqC (rg fun T E H k => k (d4 E (.int .i64 (.negSucc 0))) H)
 retC)))) [fun E _ => some (t4 E)]
def pl130 : Nat × List (Nat × Plan) := (457792, [])
noncomputable def c131 : TT → FnC := fnC 2 ((seqC (rg fun T E H k => bM (fBox 31 5 (t0 E)) H fun v2 H => bM (fBox 9 1 (t1 E)) H fun v3 H => bM (fNew 67 [(.str 0 0), (.str 0 0), (.int .u8 (.ofNat 0)), (.str 0 0), (.str 0 0), (.str 0 0), (.int .u8 (.ofNat 0)), (.str 0 0), (.str 0 0), (.int .i64 (.ofNat 0)), (.int .i64 (.ofNat 0))] []) H fun v4 H => k (d5 (d4 (d3 (d2 E v2) v3) v4) (.bool false)) H)
 (seqC (rg fun T E H k => bV (fFad 3 (t2 E)) fun v7 => bV (fLd1 v7 H) fun v8 => bV (oFn (.func 161) 0 [(t3 E)]) fun v9 => T 25 [v8, v9] H fun v10 H => k (d6 E v10) H)
 (seqC (seqC (rg fun T E H k => bV (fLss (t6 E) (.int .i64 (.ofNat 0))) fun v12 => k (d12 E v12) H)
 (condF t12
 (seqC (rg fun T E H k => bV (fAgg [(.str 0 0), (.str 0 0), (.int .u8 (.ofNat 0)), (.str 0 0), (.str 0 0), (.str 0 0), (.int .u8 (.ofNat 0)), (.str 0 0), (.str 0 0), (.int .i64 (.ofNat 0)), (.int .i64 (.ofNat 0))] [] []) fun v13 => bE (fSt 11 (t4 E) v13 H) H fun _ H => k (d5 E (.bool false)) H)
 retC)
 skipC))
 (seqC (rg fun T E H k => bV (fFad 3 (t2 E)) fun v14 => bV (fLd1 v14 H) fun v15 => bV (fIaS 11 v15 (t6 E)) fun v17 => bV (fLdN 11 v17 H) fun v18 => bE (fSt 11 (t4 E) v18 H) H fun _ H => k (d5 E (.bool true)) H)
 retC))))) [fun E H => onPtr (t4 E) fun id off => onOpt (loadN H id off 11) fun l => some (.agg l), fun E _ => some (t5 E)]
def pl131 : Nat × List (Nat × Plan) := (520064, [])
noncomputable def c132 : TT → FnC := fnC 2 ((seqC (rg fun T E H k => k (d4 E (.int .i64 (.ofNat 0))) H)
 (seqC (seqC (rg fun T E H k => bV (fLenV (t0 E)) fun v7 => k (d8 (d7 E v7) (.int .i64 (.ofNat 0))) H)
 (blockC 0 (loopC (seqC (rg fun T E H k => bV (fLss (t8 E) (t7 E)) fun v9 => k (d9 E v9) H)
 (seqC (condF t9
 skipC
 (exitC 0))
 (seqC (blockC 1 (seqC (rg fun T E H k => k (d5 E (t8 E)) H)
 (seqC (rg fun T E H k => bV (fIaS 5 (t0 E) (t5 E)) fun v14 => bV (fLdN 5 v14 H) fun v15 => onFnV [(t1 E), v15] fun f l => T f l H fun v16 H => k (d16 E v16) H)
 (condF t16
 (seqC (rg fun T E H k => k (d4 E (t5 E)) H)
 retC)
 skipC))))
 (rg fun T E H k => bV (fAdd (t8 E) (.int .i64 (.ofNat 1))) fun v18 => k (d8 E v18) H)))))))
 (seqC (rg fun T E H k => k (d4 E (.int .i64 (.negSucc 0))) H)
 retC)))) [fun E _ => some (t4 E)]
def pl132 : Nat × List (Nat × Plan) := (457792, [])
noncomputable def c133 : TT → FnC := fnC 2 ((seqC (rg fun T E H k => bM (fBox 46 5 (t0 E)) H fun v2 H => k (d3 (d2 E v2) (.bool false)) H)
 (seqC (rg fun T E H k => bV (fFad 0 (t2 E)) fun v4 => bV (fLd1 v4 H) fun v5 => bV (fLd1 (t1 E) H) fun v6 => bV (fEql false .s v5 v6) fun v7 => k (d3 E v7) H)
 retC))) [fun E _ => some (t3 E)]
def pl133 : Nat × List (Nat × Plan) := (240, [])
noncomputable def c134 : TT → FnC := fnC 0 ((seqC (rg fun T E H k => bM (fNew 176 [(.int .u8 (.ofNat 0)), (.int .u8 (.ofNat 0)), (.int .u8 (.ofNat 0)), (.int .u8 (.ofNat 0)), (.int .u8 (.ofNat 0)), (.int .u8 (.ofNat 0)), (.int .u8 (.ofNat 0)), (.int .u8 (.ofNat 0)), (.int .u8 (.ofNat 0)), (.int .u8 (.ofNat 0)), (.int .u8 (.ofNat 0)), (.int .u8 (.ofNat 0)), (.int .u8 (.ofNat 0)), (.int .u8 (.ofNat 0)), (.int .u8 (.ofNat 0)), (.int .u8 (.ofNat 0)), (.int .u8 (.ofNat 0)), (.int .u8 (.ofNat 0)), (.int .u8 (.ofNat 0)), (.int .u8 (.ofNat 0)), (.int .u8 (.ofNat 0)), (.int .u8 (.ofNat 0)), (.int .u8 (.ofNat 0)), (.int .u8 (.ofNat 0)), (.int .u8 (.ofNat 0)), (.int .u8 (.ofNat 0)), (.int .u8 (.ofNat 0)), (.int .u8 (.ofNat 0)), (.int .u8 (.ofNat 0)), (.int .u8 (.ofNat 0)), (.int .u8 (.ofNat 0)), (.int .u8 (.ofNat 0)), (.int .u8 (.ofNat 0)), (.int .u8 (.ofNat 0)), (.int .u8 (.ofNat 0)), (.int .u8 (.ofNat 0)), (.int .u8 (.ofNat 0)), (.int .u8 (.ofNat 0)), (.int .u8 (.ofNat 0)), (.int .u8 (.ofNat 0)), (.int .u8 (.ofNat 0)), (.int .u8 (.ofNat 0)), (.int .u8 (.ofNat 0)), (.int .u8 (.ofNat 0)), (.int .u8 (.ofNat 0)), (.int .u8 (.ofNat 0)), (.int .u8 (.ofNat 0)), (.int .u8 (.ofNat 0)), (.int .u8 (.ofNat 0)), (.int .u8 (.ofNat 0)), (.int .u8 (.ofNat 0)), (.int .u8 (.ofNat 0)), (.int .u8 (.ofNat 0)), (.int .u8 (.ofNat 0)), (.int .u8 (.ofNat 0)), (.int .u8 (.ofNat 0)), (.int .u8 (.ofNat 0)), (.int .u8 (.ofNat 0)), (.int .u8 (.ofNat 0)), (.int .u8 (.ofNat 0)), (.int .u8 (.ofNat 0)), (.int .u8 (.ofNat 0)), (.int .u8 (.ofNat 0)), (.int .u8 (.ofNat 0)), (.int .u8 (.ofNat 0)), (.int .u8 (.ofNat 0)), (.int .u8 (.ofNat 0)), (.int .u8 (.ofNat 0)), (.int .u8 (.ofNat 0)), (.int .u8 (.ofNat 0)), (.int .u8 (.ofNat 0)), (.int .u8 (.ofNat 0)), (.int .u8 (.ofNat 0)), (.int .u8 (.ofNat 0)), (.int .u8 (.ofNat 0)), (.int .u8 (.ofNat 0)), (.int .u8 (.ofNat 0)), (.int .u8 (.ofNat 0)), (.int .u8 (.ofNat 0)), (.int .u8 (.ofNat 0)), (.int .u8 (.ofNat 0)), (.int .u8 (.ofNat 0)), (.int .u8 (.ofNat 0)), (.int .u8 (.ofNat 0)), (.int .u8 (.ofNat 0)), (.int .u8 (.ofNat 0)), (.int .u8 (.ofNat 0)), (.int .u8 (.ofNat 0)), (.int .u8 (.ofNat 0)), (.int .u8 (.ofNat 0)), (.int .u8 (.ofNat 0)), (.int .u8 (.ofNat 0)), (.int .u8 (.ofNat 0)), (.int .u8 (.ofNat 0)), (.int .u8 (.ofNat 0)), (.int .u8 (.ofNat 0)), (.int .u8 (.ofNat 0)), (.int .u8 (.ofNat 0)), (.int .u8 (.ofNat 0)), (.int .u8 (.ofNat 0)), (.int .u8 (.ofNat 0)), (.int .u8 (.ofNat 0)), (.int .u8 (.ofNat 0)), (.int .u8 (.ofNat 0)), (.int .u8 (.ofNat 0)), (.int .u8 (.ofNat 0)), (.int .u8 (.ofNat 0)), (.int .u8 (.ofNat 0)), (.int .u8 (.ofNat 0)), (.int .u8 (.ofNat 0)), (.int .u8 (.ofNat 0)), (.int .u8 (.ofNat 0)), (.int .u8 (.ofNat 0)), (.int .u8 (.ofNat 0)), (.int .u8 (.ofNat 0)), (.int .u8 (.ofNat 0)), (.int .u8 (.ofNat 0)), (.int .u8 (.ofNat 0)), (.int .u8 (.ofNat 0)), (.int .u8 (.ofNat 0)), (.int .u8 (.ofNat 0)), (.int .u8 (.ofNat 0)), (.int .u8 (.ofNat 0)), (.int .u8 (.ofNat 0)), (.int .u8 (.ofNat 0)), (.int .u8 (.ofNat 0)), (.int .u8 (.ofNat 0)), (.int .u8 (.ofNat 0)), (.int .u8 (.ofNat 0)), (.int .u8 (.ofNat 0)), (.int .u8 (.ofNat 0)), (.int .u8 (.ofNat 0)), (.int .u8 (.ofNat 0)), (.int .u8 (.ofNat 0)), (.int .u8 (.ofNat 0)), (.int .u8 (.ofNat 0)), (.int .u8 (.ofNat 0)), (.int .u8 (.ofNat 0)), (.int .u8 (.ofNat 0)), (.int .u8 (.ofNat 0)), (.int .u8 (.ofNat 0)), (.int .u8 (.ofNat 0)), (.int .u8 (.ofNat 0)), (.int .u8 (.ofNat 0)), (.int .u8 (.ofNat 0)), (.int .u8 (.ofNat 0)), (.int .u8 (.ofNat 0)), (.int .u8 (.ofNat 0)), (.int .u8 (.ofNat 0)), (.int .u8 (.ofNat 0)), (.int .u8 (.ofNat 0)), (.int .u8 (.ofNat 0)), (.int .u8 (.ofNat 0)), (.int .u8 (.ofNat 0)), (.int .u8 (.ofNat 0)), (.int .u8 (.ofNat 0)), (.int .u8 (.ofNat 0)), (.int .u8 (.ofNat 0)), (.int .u8 (.ofNat 0)), (.int .u8 (.ofNat 0)), (.int .u8 (.ofNat 0)), (.int .u8 (.ofNat 0)), (.int .u8 (.ofNat 0)), (.int .u8 (.ofNat 0)), (.int .u8 (.ofNat 0)), (.int .u8 (.ofNat 0)), (.int .u8 (.ofNat 0)), (.int .u8 (.ofNat 0)), (.int .u8 (.ofNat 0)), (.int .u8 (.ofNat 0)), (.int .u8 (.ofNat 0)), (.int .u8 (.ofNat 0)), (.int .u8 (.ofNat 0)), (.int .u8 (.ofNat 0)), (.int .u8 (.ofNat 0)), (.int .u8 (.ofNat 0)), (.int .u8 (.ofNat 0)), (.int .u8 (.ofNat 0)), (.int .u8 (.ofNat 0)), (.int .u8 (.ofNat 0)), (.int .u8 (.ofNat 0)), (.int .u8 (.ofNat 0)), (.int .u8 (.ofNat 0)), (.int .u8 (.ofNat 0)), (.int .u8 (.ofNat 0)), (.int .u8 (.ofNat 0)), (.int .u8 (.ofNat 0)), (.int .u8 (.ofNat 0)), (.int .u8 (.ofNat 0)), (.int .u8 (.ofNat 0)), (.int .u8 (.ofNat 0)), (.int .u8 (.ofNat 0)), (.int .u8 (.ofNat 0)), (.int .u8 (.ofNat 0)), (.int .u8 (.ofNat 0)), (.int .u8 (.ofNat 0)), (.int .u8 (.ofNat 0)), (.int .u8 (.ofNat 0)), (.int .u8 (.ofNat 0)), (.int .u8 (.ofNat 0)), (.int .u8 (.ofNat 0)), (.int .u8 (.ofNat 0)), (.int .u8 (.ofNat 0)), (.int .u8 (.ofNat 0)), (.int .u8 (.ofNat 0)), (.int .u8 (.ofNat 0)), (.int .u8 (.ofNat 0)), (.int .u8 (.ofNat 0)), (.int .u8 (.ofNat 0)), (.int .u8 (.ofNat 0)), (.int .u8 (.ofNat 0)), (.int .u8 (.ofNat 0)), (.int .u8 (.ofNat 0)), (.int .u8 (.ofNat 0)), (.int .u8 (.ofNat 0)), (.int .u8 (.ofNat 0)), (.int .u8 (.ofNat 0)), (.int .u8 (.ofNat 0)), (.int .u8 (.ofNat 0)), (.int .u8 (.ofNat 0)), (.int .u8 (.ofNat 0)), (.int .u8 (.ofNat 0)), (.int .u8 (.ofNat 0)), (.int .u8 (.ofNat 0)), (.int .u8 (.ofNat 0)), (.int .u8 (.ofNat 0)), (.int .u8 (.ofNat 0)), (.int .u8 (.ofNat 0)), (.int .u8 (.ofNat 0)), (.int .u8 (.ofNat 0)), (.int .u8 (.ofNat 0)), (.int .u8 (.ofNat 0)), (.int .u8 (.ofNat 0)), (.int .u8 (.ofNat 0)), (.int .u8 (.ofNat 0)), (.int .u8 (.ofNat 0)), (.int .u8 (.ofNat 0)), (.int .u8 (.ofNat 0)), (.int .u8 (.ofNat 0)), (.int .u8 (.ofNat 0)), (.int .u8 (.ofNat 0)), (.int .u8 (.ofNat 0)), (.int .u8 (.ofNat 0)), (.int .u8 (.ofNat 0)), (.int .u8 (.ofNat 0)), (.int .u8 (.ofNat 0)), (.int .u8 (.ofNat 0)), (.int .u8 (.ofNat 0)), (.int .u8 (.ofNat 0)), (.int .u8 (.ofNat 0)), (.int .u8 (.ofNat 0)), (.int .u8 (.ofNat 0)), (.int .u8 (.ofNat 0)), (.int .u8 (.ofNat 0)), (.int .u8 (.ofNat 0)), (.int .u8 (.ofNat 0))] []) H fun v0 H => k (d0 E v0) H)
 (seqC (seqC (rg fun T E H k => k (d3 E (.int .i64 (.ofNat 0))) H)
 (blockC 0 (loopC (seqC (rg fun T E H k => bV (fLss (t3 E) (.int .i64 (.ofNat 26))) fun v4 => k (d4 E v4) H)
 (seqC (condF t4
 skipC
 (exitC 0))
 (seqC (blockC 1 (seqC (rg fun T E H k => k (d1 E (t3 E)) H)
 (rg fun T E H k => bV (fAdd (.int .i64 (.ofNat 97)) (t1 E)) fun v7 => bV (fAdd (.int .i64 (.ofNat 65)) (t1 E)) fun v9 => bV (fIaA 256 1 (t0 E) v7) fun v10 => bE (fSt 1 v10 (.int .u8 (.ofNat 2)) H) H fun _ H => bV (fIaA 256 1 (t0 E) v9) fun v11 => bE (fSt 1 v11 (.int .u8 (.ofNat 2)) H) H fun _ H => k E H)))
 (rg fun T E H k => bV (fAdd (t3 E) (.int .i64 (.ofNat 1))) fun v12 => k (d3 E v12) H)))))))
 (seqC (seqC (rg fun T E H k => k (d13 E (.int .i64 (.ofNat 0))) H)
 (blockC 2 (loopC (seqC (rg fun T E H k => bV (fLss (t13 E) (.int .i64 (.ofNat 10))) fun v14 => k (d14 E v14) H)
 (seqC (condF t14
 skipC
 (exitC 2))
 (seqC (blockC 3 (seqC (rg fun T E H k => k (d2 E (t13 E)) H)
 (rg fun T E H k => bV (fAdd (.int .i64 (.ofNat 48)) (t2 E)) fun v17 => bV (fIaA 256 1 (t0 E) v17) fun v18 => bE (fSt 1 v18 (.int .u8 (.ofNat 1)) H) H fun _ H => k E H)))
 (rg fun T E H k => bV (fAdd (t13 E) (.int .i64 (.ofNat 1))) fun v19 => k (d13 E v19) H)))))))
 (seqC (rg fun T E H k => bV (fIaA 256 1 (t0 E) (.int .i64 (.ofNat 45))) fun v20 => bE (fSt 1 v20 (.int .u8 (.ofNat 1)) H) H fun _ H => bV (fIaA 256 1 (t0 E) (.int .i64 (.ofNat 95))) fun v21 => bE (fSt 1 v21 (.int .u8 (.ofNat 1)) H) H fun _ H => bV (fIaA 256 1 (t0 E) (.int .i64 (.ofNat 46))) fun v22 => bE (fSt 1 v22 (.int .u8 (.ofNat 1)) H) H fun _ H => k E H)
 (seqC (rg fun T E H k => bV (fLdN 256 (t0 E) H) fun v23 => bE (fSt 256 (t0 E) v23 H) H fun _ H => k E H)
 retC)))))) [fun E H => onPtr (t0 E) fun id off => onOpt (loadN H id off 256) fun l => some (.agg l)]
def pl134 : Nat × List (Nat × Plan) := (16752608, [])
noncomputable def c135 : TT → FnC := fnC 2 ((seqC (rg fun T E H k => k (d3 E (.bool false)) H)
 (seqC (rg fun T E H k => T 79 [(t0 E)] H fun v6 H => gdH v6 true H (fun rest => bV (fLd1 (t1 E) H) fun v8 => rest v8 H) fun v8 H => gdH v6 true H (fun rest => bV (some (t0 E)) fun v9 => rest v9 H) fun v9 H => gdH v6 true H (fun rest => bV (oLk .s (.bool false) false v8 v9 H) fun v10 => rest v10 H) fun v10 H => gdH v6 true H (fun rest => bV (fNot v10) fun v11 => rest v11 H) fun v11 H => bV (fPick v6 v11 (.bool false)) fun v12 => k (d4 E v12) H)
 (seqC (rg fun T E H k => bV (fLd1 (t1 E) H) fun v13 => bE (oMu .s v13 (t0 E) (.bool true) H) H fun _ H => k E H)
 (seqC (rg fun T E H k => k (d3 E (t4 E)) H)
 retC))))) [fun E _ => some (t3 E)]
def pl135 : Nat × List (Nat × Plan) := (65504, [])
noncomputable def c136 : TT → FnC := fnC 2 ((seqC (rg fun T E H k => bM (fBox 46 5 (t0 E)) H fun v2 H => k (d3 (d2 E v2) (.bool false)) H)
 (seqC (rg fun T E H k => bV (fLd1 (t1 E) H) fun v4 => bV (fLdN 5 (t2 E) H) fun v5 => onFnV [v4, v5] fun f l => T f l H fun v6 H => bV (fNot v6) fun v7 => k (d3 E v7) H)
 retC))) [fun E _ => some (t3 E)]
def pl136 : Nat × List (Nat × Plan) := (240, [])
noncomputable def c137 : TT → FnC := fnC 2 ((seqC (rg fun T E H k => bM (fBox 67 11 (t0 E)) H fun v2 H => k (d3 (d2 E v2) (.bool false)) H)
 (seqC (rg fun T E H k => bV (fLd1 (t1 E) H) fun v4 => bV (fLdN 11 (t2 E) H) fun v5 => onFnV [v4, v5] fun f l => T f l H fun v6 H => bV (fNot v6) fun v7 => k (d3 E v7) H)
 retC))) [fun E _ => some (t3 E)]
def pl137 : Nat × List (Nat × Plan) := (240, [])
noncomputable def c138 : TT → FnC := fnC 2 ((seqC (rg fun T E H k => k (d4 E (.int .i64 (.ofNat 0))) H)
 (seqC (seqC (rg fun T E H k => bV (fLenV (t0 E)) fun v7 => k (d8 (d7 E v7) (.int .i64 (.ofNat 0))) H)
 (blockC 0 (loopC (seqC (rg fun T E H k => bV (fLss (t8 E) (t7 E)) fun v9 => k (d9 E v9) H)
 (seqC (condF t9
 skipC
 (exitC 0))
 (seqC (blockC 1 (seqC (rg fun T E H k => k (d5 E (t8 E)) H)
 (seqC (rg fun T E H k => bV (fIaS 4 (t0 E) (t5 E)) fun v14 => bV (fLdN 4 v14 H) fun v15 => onFnV [(t1 E), v15] fun f l => T f l H fun v16 H => k (d16 E v16) H)
 (condF t16
 (seqC (rg fun T E H k => k (d4 E (t5 E)) H)
 retC)
 skipC))))
 (rg fun T E H k => bV (fAdd (t8 E) (.int .i64 (.ofNat 1))) fun v18 => k (d8 E v18) H)))))))
 (seqC (rg fun T E H k => k (d4 E (.int .i64 (.negSucc 0))) H)
 retC)))) [fun E _ => some (t4 E)]
def pl138 : Nat × List (Nat × Plan) := (457792, [])
noncomputable def c139 : TT → FnC := fnC 2 ((seqC (rg fun T E H k => bM (fBox 70 4 (t0 E)) H fun v2 H => k (d3 (d2 E v2) (.bool false)) H)
 (seqC (rg fun T E H k => bV (fLd1 (t1 E) H) fun v4 => bV (fLdN 4 (t2 E) H) fun v5 => onFnV [v4, v5] fun f l => T f l H fun v6 H => bV (fNot v6) fun v7 => k (d3 E v7) H)
 retC))) [fun E _ => some (t3 E)]
def pl139 : Nat × List (Nat × Plan) := (240, [])
noncomputable def c140 : TT → FnC := fnC 1 ((seqC (rg fun T E H k => bM (fBox 67 11 (t0 E)) H fun v1 H => k (d2 (d1 E v1) (.bool false)) H)
 (seqC (seqC (rg fun T E H k => bV (fFad 6 (t1 E)) fun v3 => bV (fLd1 v3 H) fun v4 => k (d4 E v4) H)
 (blockC 0 (seqC (rg fun T E H k => bV (fEql true .i (t4 E) (.int .u8 (.ofNat 1))) fun v6 => k (d5 E v6) H)
 (condF t5
 (seqC (rg fun T E H k => bV (fFad 9 (t1 E)) fun v7 => bV (fLd1 v7 H) fun v8 => bV (fGeq v8 (.int .i64 (.ofNat 1))) fun v9 => gdH v9 true H (fun rest => bV (fFad 9 (t1 E)) fun v11 => rest v11 H) fun v11 H => gdH v9 true H (fun rest => bV (fLd1 v11 H) fun v12 => rest v12 H) fun v12 H => gdH v9 true H (fun rest => bV (fLeq v12 (.int .i64 (.ofNat 1048576))) fun v13 => rest v13 H) fun v13 H => bV (fPick v9 v13 (.bool false)) fun v14 => gdH v14 true H (fun rest => bV (fFad 7 (t1 E)) fun v16 => rest v16 H) fun v16 H => gdH v14 true H (fun rest => bV (fLd1 v16 H) fun v17 => rest v17 H) fun v17 H => gdH v14 true H (fun rest => bV (fEql true .s v17 (.str 0 0)) fun v18 => rest v18 H) fun v18 H => bV (fPick v14 v18 (.bool false)) fun v19 => gdH v19 true H (fun rest => bV (fFad 8 (t1 E)) fun v21 => rest v21 H) fun v21 H => gdH v19 true H (fun rest => bV (fLd1 v21 H) fun v22 => rest v22 H) fun v22 H => gdH v19 true H (fun rest => bV (fEql true .s v22 (.str 0 0)) fun v23 => rest v23 H) fun v23 H => bV (fPick v19 v23 (.bool false)) fun v24 => k (d2 E v24) H)
 retC)
 (seqC (rg fun T E H k => bV (fEql true .i (t4 E) (.int .u8 (.ofNat 2))) fun v26 => k (d25 E v26) H)
 (condF t25
 (seqC (rg fun T E H k => bV (fFad 9 (t1 E)) fun v27 => bV (fLd1 v27 H) fun v28 => bV (fEql true .i v28 (.int .i64 (.ofNat 0))) fun v29 => gdH v29 true H (fun rest => bV (fFad 7 (t1 E)) fun v31 => rest v31 H) fun v31 H => gdH v29 true H (fun rest => bV (fLd1 v31 H) fun v32 => rest v32 H) fun v32 H => gdH v29 true H (fun rest => T 79 [v32] H fun v33 H => rest v33 H) fun v33 H => bV (fPick v29 v33 (.bool false)) fun v34 => gdH v34 true H (fun rest => bV (fFad 8 (t1 E)) fun v36 => rest v36 H) fun v36 H => gdH v34 true H (fun rest => bV (fLd1 v36 H) fun v37 => rest v37 H) fun v37 H => gdH v34 true H (fun rest => T 79 [v37] H fun v38 H => rest v38 H) fun v38 H => bV (fPick v34 v38 (.bool false)) fun v39 => k (d2 E v39) H)
 retC)
 (seqC (rg fun T E H k => bV (fEql true .i (t4 E) (.int .u8 (.ofNat 3))) fun v41 => k (d40 E v41) H)
 (condF t40
 (seqC (rg fun T E H k => bV (fFad 9 (t1 E)) fun v42 => bV (fLd1 v42 H) fun v43 => bV (fEql true .i v43 (.int .i64 (.ofNat 0))) fun v44 => gdH v44 true H (fun rest => bV (fFad 7 (t1 E)) fun v46 => rest v46 H) fun v46 H => gdH v44 true H (fun rest => bV (fLd1 v46 H) fun v47 => rest v47 H) fun v47 H => gdH v44 true H (fun rest => T 79 [v47] H fun v48 H => rest v48 H) fun v48 H => bV (fPick v44 v48 (.bool false)) fun v49 => gdH v49 true H (fun rest => bV (fFad 8 (t1 E)) fun v51 => rest v51 H) fun v51 H => gdH v49 true H (fun rest => bV (fLd1 v51 H) fun v52 => rest v52 H) fun v52 H => gdH v49 true H (fun rest => bV (fEql true .s v52 (.str 0 0)) fun v53 => rest v53 H) fun v53 H => bV (fPick v49 v53 (.bool false)) fun v54 => k (d2 E v54) H)
 retC)
 skipC))))))))
 (seqC (rg fun T E H k => k (d2 E (.bool false)) H)
 retC)))) [fun E _ => some (t2 E)]
def pl140 : Nat × List (Nat × Plan) := (36027697473781704, [])
noncomputable def c141 : TT → FnC := fnC 2 ((seqC (rg fun T E H k => k (d3 E (.bool false)) H)
 (seqC (rg fun T E H k => bV (fLd1 (t1 E) H) fun v4 => onFnV [v4, (t0 E)] fun f l => T f l H fun v6 H => bV (fNot v6) fun v7 => k (d3 E v7) H)
 retC))) [fun E _ => some (t3 E)]
def pl141 : Nat × List (Nat × Plan) := (240, [])
noncomputable def c142 : TT → FnC := fnC 2 ((seqC (rg fun T E H k => bM (fBox 73 7 (t0 E)) H fun v2 H => k (d5 (d4 (d2 E v2) (.int .u8 (.ofNat 0))) (.int .i64 (.ofNat 0))) H)
 (seqC (seqC (rg fun T E H k => bV (fLdN 7 (t2 E) H) fun v6 => T 162 [v6] H fun v7 H => bV (fNot v7) fun v8 => k (d8 E v8) H)
 (condF t8
 (seqC (rg fun T E H k => k (d5 (d4 E (.int .u8 (.ofNat 0))) (.int .i64 (.ofNat 1))) H)
 retC)
 skipC))
 (seqC (rg fun T E H k => bV (fLdN 7 (t2 E) H) fun v9 => T 163 [v9, (t1 E)] H fun v11 H => bV (fExt 0 v11) fun v12 => bV (fExt 1 v11) fun v13 => k (d5 (d4 E v12) v13) H)
 retC)))) [fun E _ => some (t4 E), fun E _ => some (t5 E)]
def pl142 : Nat × List (Nat × Plan) := (16064, [])
noncomputable def c143 : TT → FnC := fnC 2 ((seqC (rg fun T E H k => k (d4 E (.str 0 0)) H)
 (seqC (blockC 0 (loopC (seqC (seqC (rg fun T E H k => bV (fLenS (t0 E)) fun v6 => bV (fGtr v6 (.int .i64 (.ofNat 0))) fun v7 => gdH v7 true H (fun rest => bV (some (t0 E)) fun v9 => rest v9 H) fun v9 H => gdH v7 true H (fun rest => bV (fIxS v9 (.int .i64 (.ofNat 0))) fun v10 => rest v10 H) fun v10 H => gdH v7 true H (fun rest => bV (some (t1 E)) fun v11 => rest v11 H) fun v11 H => gdH v7 true H (fun rest => bV (fEql false .i v10 v11) fun v12 => rest v12 H) fun v12 H => bV (fPick v7 v12 (.bool false)) fun v13 => k (d13 E v13) H)
 (condF t13
 skipC
 (exitC 0)))
 (blockC 1 (rg fun T E H k => bV (oSlS true false [(t0 E), (.int .i64 (.ofNat 1))]) fun v15 => k (d0 E v15) H)))))
 (seqC (rg fun T E H k => k (d4 E (t0 E)) H)
 retC)))) [fun E _ => some (t4 E)]
def pl143 : Nat × List (Nat × Plan) := (122848, [])
noncomputable def c147 : TT → FnC := fnC 2 ((seqC (rg fun T E H k => k (d4 E (.int .i64 (.ofNat 0))) H)
 (seqC (rg fun T E H k => T 167 [(t0 E), (t1 E), (.bool true)] H fun v7 H => k (d4 E v7) H)
 retC))) [fun E _ => some (t4 E)]
def pl147 : Nat × List (Nat × Plan) := (224, [])
noncomputable def c148 : TT → FnC := fnC 2 ((seqC (rg fun T E H k => k (d3 E (.bool false)) H)
 (seqC (rg fun T E H k => bV (fGtr (t0 E) (.int .i32 (.ofNat 127))) fun v5 => gdH v5 false H (fun rest => bV (fLd1 (t1 E) H) fun v7 => rest v7 H) fun v7 H => gdH v5 false H (fun rest => bV (some (t0 E)) fun v8 => rest v8 H) fun v8 H => gdH v5 false H (fun rest => bV (fInt .u8 v8) fun v9 => rest v9 H) fun v9 H => gdH v5 false H (fun rest => onFnV [v7, v9] fun f l => T f l H fun v10 H => rest v10 H) fun v10 H => gdH v5 false H (fun rest => bV (fNot v10) fun v11 => rest v11 H) fun v11 H => bV (fPick v5 (.bool true) v11) fun v12 => k (d3 E v12) H)
 retC))) [fun E _ => some (t3 E)]
def pl148 : Nat × List (Nat × Plan) := (8176, [])
noncomputable def c149 : TT → FnC := fnC 3 ((seqC (rg fun T E H k => k (d7 (d6 E (.int .i64 (.ofNat 0))) .nili) H)
 (seqC (rg fun T E H k => T 168 [(t0 E), (t1 E), (t2 E)] H fun v13 H => bV (fExt 0 v13) fun v14 => bV (fExt 1 v13) fun v15 => k (d7 (d8 E v14) v15) H)
 (seqC (seqC (rg fun T E H k => bV (fNeq true .f (t7 E) .nili) fun v17 => k (d17 E v17) H)
 (condF t17
 (seqC (rg fun T E H k => T 169 [(.str 8 5792036435721285236), (t0 E), (t1 E), (t2 E), (t7 E)] H fun v23 H => k (d7 (d6 E (t8 E)) v23) H)
 retC)
 skipC))
 (seqC (rg fun T E H k => k (d7 (d6 E (t8 E)) .nili) H)
 retC))))) [fun E _ => some (t6 E), fun E _ => some (t7 E)]
def pl149 : Nat × List (Nat × Plan) := (33422848, [])
noncomputable def c150 : TT → FnC := fnC 1 ((seqC (rg fun T E H k => k (d2 E (.bool false)) H)
 (seqC (rg fun T E H k => bM (fSlice 9 5 [(.str 0 0), (.str 0 0), (.str 0 0), (.str 0 0), (.str 0 0)] [(0, 1), (1, 1), (2, 1), (3, 1), (4, 1)] [(.str 3 6385252), (.str 2 28530), (.str 3 7237492), (.str 4 1953658213), (.str 5 439721161573)]) H fun v3 H => T 74 [v3, (t0 E)] H fun v5 H => k (d2 E v5) H)
 retC))) [fun E _ => some (t2 E)]
def pl150 : Nat × List (Nat × Plan) := (56, [])
noncomputable def c153 : TT → FnC := fnC 1 ((seqC (rg fun T E H k => k (d2 E (.bool false)) H)
 (seqC (blockC 0 (loopC (seqC (seqC (rg fun T E H k => bV (fLenS (t0 E)) fun v8 => bV (fGtr v8 (.int .i64 (.ofNat 0))) fun v9 => k (d9 E v9) H)
 (condF t9
 skipC
 (exitC 0)))
 (blockC 1 (seqC (rg fun T E H k => bV (fIxS (t0 E) (.int .i64 (.ofNat 0))) fun v11 => k (d3 E v11) H)
 (seqC (seqC (rg fun T E H k => bV (fLss (t3 E) (.int .u8 (.ofNat 128))) fun v13 => k (d13 E v13) H)
 (condF t13
 (seqC (rg fun T E H k => bV (oSlS true false [(t0 E), (.int .i64 (.ofNat 1))]) fun v15 => k (d0 E v15) H)
 (seqC (seqC (rg fun T E H k => bV (fLenS (t0 E)) fun v17 => bV (fGtr v17 (.int .i64 (.ofNat 8))) fun v18 => gdH v18 true H (fun rest => bV (some (t0 E)) fun v20 => rest v20 H) fun v20 H => gdH v18 true H (fun rest => T 171 [v20] H fun v21 H => rest v21 H) fun v21 H => gdH v18 true H (fun rest => bV (bAnd v21 (.int .u64 (.ofNat 9259542123273814144))) fun v22 => rest v22 H) fun v22 H => gdH v18 true H (fun rest => bV (fEql true .i v22 (.int .u64 (.ofNat 0))) fun v23 => rest v23 H) fun v23 H => bV (fPick v18 v23 (.bool false)) fun v24 => k (d24 E v24) H)
 (condF t24
 (seqC (rg fun T E H k => bV (oSlS true false [(t0 E), (.int .i64 (.ofNat 8))]) fun v26 => k (d0 E v26) H)
 (seqC (rg fun T E H k => bV (fLenS (t0 E)) fun v28 => bV (fGtr v28 (.int .i64 (.ofNat 16))) fun v29 => gdH v29 true H (fun rest => bV (some (t0 E)) fun v31 => rest v31 H) fun v31 H => gdH v29 true H (fun rest => bV (some (t0 E)) fun v33 => rest v33 H) fun v33 H => gdH v29 true H (fun rest => bV (oSlS true false [v33, (.int .i64 (.ofNat 8))]) fun v34 => rest v34 H) fun v34 H => gdH v29 true H (fun rest => T 171 [v31] H fun v32 H => rest v32 H) fun v32 H => gdH v29 true H (fun rest => T 171 [v34] H fun v35 H => rest v35 H) fun v35 H => gdH v29 true H (fun rest => bV (bOr v32 v35) fun v36 => rest v36 H) fun v36 H => gdH v29 true H (fun rest => bV (bAnd v36 (.int .u64 (.ofNat 9259542123273814144))) fun v37 => rest v37 H) fun v37 H => gdH v29 true H (fun rest => bV (fEql true .i v37 (.int .u64 (.ofNat 0))) fun v38 => rest v38 H) fun v38 H => bV (fPick v29 v38 (.bool false)) fun v39 => k (d39 E v39) H)
 (condF t39
 (seqC (rg fun T E H k => bV (oSlS true false [(t0 E), (.int .i64 (.ofNat 16))]) fun v41 => k (d0 E v41) H)
 (blockC 2 (loopC (seqC (seqC (rg fun T E H k => bV (fLenS (t0 E)) fun v43 => bV (fGtr v43 (.int .i64 (.ofNat 32))) fun v44 => gdH v44 true H (fun rest => bV (some (t0 E)) fun v46 => rest v46 H) fun v46 H => gdH v44 true H (fun rest => bV (some (t0 E)) fun v48 => rest v48 H) fun v48 H => gdH v44 true H (fun rest => bV (oSlS true false [v48, (.int .i64 (.ofNat 8))]) fun v49 => rest v49 H) fun v49 H => gdH v44 true H (fun rest => bV (some (t0 E)) fun v52 => rest v52 H) fun v52 H => gdH v44 true H (fun rest => bV (oSlS true false [v52, (.int .i64 (.ofNat 16))]) fun v53 => rest v53 H) fun v53 H => gdH v44 true H (fun rest => bV (some (t0 E)) fun v55 => rest v55 H) fun v55 H => gdH v44 true H (fun rest => bV (oSlS true false [v55, (.int .i64 (.ofNat 24))]) fun v56 => rest v56 H) fun v56 H => gdH v44 true H (fun rest => T 171 [v46] H fun v47 H => rest v47 H) fun v47 H => gdH v44 true H (fun rest => T 171 [v49] H fun v50 H => rest v50 H) fun v50 H => gdH v44 true H (fun rest => bV (bOr v47 v50) fun v51 => rest v51 H) fun v51 H => gdH v44 true H (fun rest => T 171 [v53] H fun v54 H => rest v54 H) fun v54 H => gdH v44 true H (fun rest => T 171 [v56] H fun v57 H => rest v57 H) fun v57 H => gdH v44 true H (fun rest => bV (bOr v54 v57) fun v58 => rest v58 H) fun v58 H => gdH v44 true H (fun rest => bV (bOr v51 v58) fun v59 => rest v59 H) fun v59 H => gdH v44 true H (fun rest => bV (bAnd v59 (.int .u64 (.ofNat 9259542123273814144))) fun v60 => rest v60 H) fun v60 H => gdH v44 true H (fun rest => bV (fEql true .i v60 (.int .u64 (.ofNat 0))) fun v61 => rest v61 H) fun v61 H => bV (fPick v44 v61 (.bool false)) fun v62 => k (d62 E v62) H)
 (condF t62
 skipC
 (exitC 2)))
 (blockC 3 (rg fun T E H k => bV (oSlS true false [(t0 E), (.int .i64 (.ofNat 32))]) fun v64 => k (d0 E v64) H))))))
 skipC)))
 skipC))
 (exitC 1)))
 skipC))
 (seqC (rg fun T E H k => bV (fIaA 256 1 (.ptr 0 0) (t3 E)) fun v66 => bV (fLd1 v66 H) fun v67 => k (d4 E v67) H)
 (seqC (rg fun T E H k => bV (bAnd (t4 E) (.int .u8 (.ofNat 7))) fun v69 => bV (fInt .i64 v69) fun v70 => k (d5 E v70) H)
 (seqC (rg fun T E H k => bV (bShr (t4 E) (.int .u64 (.ofNat 4))) fun v72 => bV (fIaA 16 2 (.ptr 1 0) v72) fun v73 => bV (fLdN 2 v73 H) fun v74 => bM (fNew 211 [(.int .u8 (.ofNat 0)), (.int .u8 (.ofNat 0))] []) H fun v6 H => bE (fSt 2 v6 v74 H) H fun _ H => k (d6 E v6) H)
 (seqC (rg fun T E H k => k (d75 E (t5 E)) H)
 (blockC 4 (seqC (rg fun T E H k => bV (fEql true .i (t75 E) (.int .i64 (.ofNat 2))) fun v77 => k (d76 E v77) H)
 (condF t76
 (seqC (seqC (rg fun T E H k => bV (fLenS (t0 E)) fun v79 => bV (fLss v79 (.int .i64 (.ofNat 2))) fun v80 => gdH v80 false H (fun rest => bV (some (t0 E)) fun v82 => rest v82 H) fun v82 H => gdH v80 false H (fun rest => bV (fIxS v82 (.int .i64 (.ofNat 1))) fun v83 => rest v83 H) fun v83 H => gdH v80 false H (fun rest => bV (fFad 0 (t6 E)) fun v84 => rest v84 H) fun v84 H => gdH v80 false H (fun rest => bV (fLd1 v84 H) fun v85 => rest v85 H) fun v85 H => gdH v80 false H (fun rest => bV (fLss v83 v85) fun v86 => rest v86 H) fun v86 H => bV (fPick v80 (.bool true) v86) fun v87 => gdH v87 false H (fun rest => bV (fFad 1 (t6 E)) fun v89 => rest v89 H) fun v89 H => gdH v87 false H (fun rest => bV (fLd1 v89 H) fun v90 => rest v90 H) fun v90 H => gdH v87 false H (fun rest => bV (some (t0 E)) fun v91 => rest v91 H) fun v91 H => gdH v87 false H (fun rest => bV (fIxS v91 (.int .i64 (.ofNat 1))) fun v92 => rest v92 H) fun v92 H => gdH v87 false H (fun rest => bV (fLss v90 v92) fun v93 => rest v93 H) fun v93 H => bV (fPick v87 (.bool true) v93) fun v94 => k (d94 E v94) H)
 (condF t94
 (seqC (rg fun T E H k => k (d2 E (.bool false)) H)
 retC)
 skipC))
 (rg fun T E H k => bV (oSlS true false [(t0 E), (.int .i64 (.ofNat 2))]) fun v96 => k (d0 E v96) H))
 (seqC (rg fun T E H k => bV (fEql true .i (t75 E) (.int .i64 (.ofNat 3))) fun v98 => k (d97 E v98) H)
 (condF t97
 (seqC (seqC (rg fun T E H k => bV (fLenS (t0 E)) fun v100 => bV (fLss v100 (.int .i64 (.ofNat 3))) fun v101 => gdH v101 false H (fun rest => bV (some (t0 E)) fun v103 => rest v103 H) fun v103 H => gdH v101 false H (fun rest => bV (fIxS v103 (.int .i64 (.ofNat 1))) fun v104 => rest v104 H) fun v104 H => gdH v101 false H (fun rest => bV (fFad 0 (t6 E)) fun v105 => rest v105 H) fun v105 H => gdH v101 false H (fun rest => bV (fLd1 v105 H) fun v106 => rest v106 H) fun v106 H => gdH v101 false H (fun rest => bV (fLss v104 v106) fun v107 => rest v107 H) fun v107 H => bV (fPick v101 (.bool true) v107) fun v108 => gdH v108 false H (fun rest => bV (fFad 1 (t6 E)) fun v110 => rest v110 H) fun v110 H => gdH v108 false H (fun rest => bV (fLd1 v110 H) fun v111 => rest v111 H) fun v111 H => gdH v108 false H (fun rest => bV (some (t0 E)) fun v112 => rest v112 H) fun v112 H => gdH v108 false H (fun rest => bV (fIxS v112 (.int .i64 (.ofNat 1))) fun v113 => rest v113 H) fun v113 H => gdH v108 false H (fun rest => bV (fLss v111 v113) fun v114 => rest v114 H) fun v114 H => bV (fPick v108 (.bool true) v114) fun v115 => gdH v115 false H (fun rest => bV (some (t0 E)) fun v117 => rest v117 H) fun v117 H => gdH v115 false H (fun rest => bV (fIxS v117 (.int .i64 (.ofNat 2))) fun v118 => rest v118 H) fun v118 H => gdH v115 false H (fun rest => bV (fLss v118 (.int .u8 (.ofNat 128))) fun v119 => rest v119 H) fun v119 H => bV (fPick v115 (.bool true) v119) fun v120 => gdH v120 false H (fun rest => bV (some (t0 E)) fun v122 => rest v122 H) fun v122 H => gdH v120 false H (fun rest => bV (fIxS v122 (.int .i64 (.ofNat 2))) fun v123 => rest v123 H) fun v123 H => gdH v120 false H (fun rest => bV (fLss (.int .u8 (.ofNat 191)) v123) fun v124 => rest v124 H) fun v124 H => bV (fPick v120 (.bool true) v124) fun v125 => k (d125 E v125) H)
 (condF t125
 (seqC (rg fun T E H k => k (d2 E (.bool false)) H)
 retC)
 skipC))
 (rg fun T E H k => bV (oSlS true false [(t0 E), (.int .i64 (.ofNat 3))]) fun v127 => k (d0 E v127) H))
 (seqC (rg fun T E H k => bV (fEql true .i (t75 E) (.int .i64 (.ofNat 4))) fun v129 => k (d128 E v129) H)
 (condF t128
 (seqC (seqC (rg fun T E H k => bV (fLenS (t0 E)) fun v131 => bV (fLss v131 (.int .i64 (.ofNat 4))) fun v132 => gdH v132 false H (fun rest => bV (some (t0 E)) fun v134 => rest v134 H) fun v134 H => gdH v132 false H (fun rest => bV (fIxS v134 (.int .i64 (.ofNat 1))) fun v135 => rest v135 H) fun v135 H => gdH v132 false H (fun rest => bV (fFad 0 (t6 E)) fun v136 => rest v136 H) fun v136 H => gdH v132 false H (fun rest => bV (fLd1 v136 H) fun v137 => rest v137 H) fun v137 H => gdH v132 false H (fun rest => bV (fLss v135 v137) fun v138 => rest v138 H) fun v138 H => bV (fPick v132 (.bool true) v138) fun v139 => gdH v139 false H (fun rest => bV (fFad 1 (t6 E)) fun v141 => rest v141 H) fun v141 H => gdH v139 false H (fun rest => bV (fLd1 v141 H) fun v142 => rest v142 H) fun v142 H => gdH v139 false H (fun rest => bV (some (t0 E)) fun v143 => rest v143 H) fun v143 H => gdH v139 false H (fun rest => bV (fIxS v143 (.int .i64 (.ofNat 1))) fun v144 => rest v144 H) fun v144 H => gdH v139 false H (fun rest => bV (fLss v142 v144) fun v145 => rest v145 H) fun v145 H => bV (fPick v139 (.bool true) v145) fun v146 => gdH v146 false H (fun rest => bV (some (t0 E)) fun v148 => rest v148 H) fun v148 H => gdH v146 false H (fun rest => bV (fIxS v148 (.int .i64 (.ofNat 2))) fun v149 => rest v149 H) fun v149 H => gdH v146 false H (fun rest => bV (fLss v149 (.int .u8 (.ofNat 128))) fun v150 => rest v150 H) fun v150 H => bV (fPick v146 (.bool true) v150) fun v151 => gdH v151 false H (fun rest => bV (some (t0 E)) fun v153 => rest v153 H) fun v153 H => gdH v151 false H (fun rest => bV (fIxS v153 (.int .i64 (.ofNat 2))) fun v154 => rest v154 H) fun v154 H => gdH v151 false H (fun rest => bV (fLss (.int .u8 (.ofNat 191)) v154) fun v155 => rest v155 H) fun v155 H => bV (fPick v151 (.bool true) v155) fun v156 => gdH v156 false H (fun rest => bV (some (t0 E)) fun v158 => rest v158 H) fun v158 H => gdH v156 false H (fun rest => bV (fIxS v158 (.int .i64 (.ofNat 3))) fun v159 => rest v159 H) fun v159 H => gdH v156 false H (fun rest => bV (fLss v159 (.int .u8 (.ofNat 128))) fun v160 => rest v160 H) fun v160 H => bV (fPick v156 (.bool true) v160) fun v161 => gdH v161 false H (fun rest => bV (some (t0 E)) fun v163 => rest v163 H) fun v163 H => gdH v161 false H (fun rest => bV (fIxS v163 (.int .i64 (.ofNat 3))) fun v164 => rest v164 H) fun v164 H => gdH v161 false H (fun rest => bV (fLss (.int .u8 (.ofNat 191)) v164) fun v165 => rest v165 H) fun v165 H => bV (fPick v161 (.bool true) v165) fun v166 => k (d166 E v166) H)
 (condF t166
 (seqC (rg fun T E H k => k (d2 E (.bool false)) H)
 retC)
 skipC))
 (rg fun T E H k => bV (oSlS true false [(t0 E), (.int .i64 (.ofNat 4))]) fun v168 => k (d0 E v168) H))
 (seqC (rg fun T E H k => k (d2 E (.bool false)) H)
 retC))))))))))))))))))
 (seqC (rg fun T E H k => k (d2 E (.bool true)) H)
 retC)))) [fun E _ => some (t2 E)]
def pl153 : Nat × List (Nat × Plan) := (654752733523861689692286485806499994337471881010560, [(7, ⟨[0, 1, 2, 3, 4, 6, 7, 5, 8, 9, 10, 11, 12], [0, 1, 3, 7, 15, 31, 15, 79, 255, 511, 1023, 2047, 4095]⟩), (9, ⟨[0, 1, 2, 3, 4, 6, 7, 10, 11, 13, 14, 5, 8, 9, 12, 15, 16, 17, 18, 19, 20], [0, 1, 3, 7, 15, 31, 15, 79, 255, 511, 15, 1039, 3583, 15, 8207, 32255, 65023, 131071, 262143, 524287, 1048575]⟩), (17, ⟨[0, 1, 2, 3, 4, 5, 6, 7, 8, 9, 10, 11, 12, 13, 14, 15, 16], [0, 1, 3, 7, 15, 31, 15, 79, 255, 511, 1023, 2047, 4095, 2047, 10239, 32767, 65535]⟩), (21, ⟨[0, 1, 2, 3, 4, 5, 6, 7, 8, 9, 10, 11, 12, 13, 14, 15, 16, 17, 18, 19, 20, 21, 22, 23, 24, 25, 26], [0, 1, 3, 7, 15, 31, 15, 79, 255, 511, 1023, 2047, 4095, 2047, 10239, 32767, 65535, 131071, 262143, 524287, 1048575, 2097151, 4194303, 8388607, 16777215, 33554431, 67108863]⟩), (25, ⟨[0, 1, 2, 3, 4, 5, 6, 7, 8, 9, 10, 11, 12, 13, 14, 15, 16, 17, 18, 19, 20, 21, 22, 23, 24, 25, 26, 27, 28, 29, 30, 31, 32, 33, 34, 35, 36], [0, 1, 3, 7, 15, 31, 15, 79, 255, 511, 1023, 2047, 4095, 2047, 10239, 32767, 65535, 131071, 262143, 524287, 1048575, 2097151, 4194303, 8388607, 16777215, 33554431, 67108863, 134217727, 268435455, 536870911, 1073741823, 2147483647, 4294967295, 8589934591, 17179869183, 34359738367, 68719476735]⟩)])
noncomputable def c154 : TT → FnC := fnC 3 ((seqC (rg fun T E H k => bM (fBox 67 11 (t2 E)) H fun v5 H => k (d6 (d5 E v5) (.bool false)) H)
 (seqC (rg fun T E H k => bV (fFad 0 (t5 E)) fun v9 => bV (fLd1 v9 H) fun v10 => bV (fAdd v10 (.str 1 43)) fun v11 => T 172 [(t0 E), v11] H fun v12 H => k E H)
 (seqC (rg fun T E H k => bV (fNilchk (t0 E)) fun v14 => bV (fFad 2 v14) fun v15 => bV (fLd1 v15 H) fun v16 => bV (fIaS 5 v16 (t1 E)) fun v18 => bV (fLdN 5 v18 H) fun v19 => bM (fNew 130 [(.str 0 0), (.int .i64 (.ofNat 0)), (.int .i64 (.ofNat 0)), (.str 0 0), (.bool false)] []) H fun v7 H => bE (fSt 5 v7 v19 H) H fun _ H => k (d7 E v7) H)
 (seqC (rg fun T E H k => bV (fFad 0 (t5 E)) fun v20 => bV (fLd1 v20 H) fun v21 => bV (fFad 3 (t7 E)) fun v22 => bE (fSt 1 v22 v21 H) H fun _ H => k E H)
 (seqC (rg fun T E H k => T 173 [(t0 E), (t1 E)] H fun v25 H => k E H)
 (seqC (rg fun T E H k => bV (fNilchk (t0 E)) fun v28 => bV (fFad 3 v28) fun v29 => bV (fLd1 v29 H) fun v30 => bV (fLdN 5 (t7 E) H) fun v31 => bM (fSlice 130 1 [(.str 0 0), (.int .i64 (.ofNat 0)), (.int .i64 (.ofNat 0)), (.str 0 0), (.bool false)] [(0, 5)] [v31]) H fun v32 H => bE (fApp 130 5 56 v30 v32 H) H fun v33 H => bV (fNilchk (t0 E)) fun v34 => bV (fFad 3 v34) fun v35 => bE (fSt 1 v35 v33 H) H fun _ H => k E H)
 (seqC (rg fun T E H k => k (d6 E (.bool true)) H)
 retC)))))))) [fun E _ => some (t6 E)]
def pl154 : Nat × List (Nat × Plan) := (68719476480, [(5, ⟨[0, 1, 2, 3, 4, 5, 6, 7, 8, 9, 10], [0, 0, 2, 6, 14, 0, 32, 126, 255, 511, 1023]⟩)])
noncomputable def c155 : TT → FnC := fnC 3 ((seqC (rg fun T E H k => bM (fBox 67 11 (t2 E)) H fun v5 H => k (d6 (d5 E v5) (.bool false)) H)
 (seqC (rg fun T E H k => bV (fFad 0 (t5 E)) fun v10 => bV (fLd1 v10 H) fun v11 => T 172 [(t0 E), v11] H fun v12 H => k E H)
 (seqC (rg fun T E H k => T 173 [(t0 E), (t1 E)] H fun v15 H => k E H)
 (seqC (seqC (rg fun T E H k => bV (fNilchk (t0 E)) fun v17 => bV (fFad 0 v17) fun v18 => bV (fLd1 v18 H) fun v19 => bV (fNilchk v19) fun v20 => bV (fFad 0 v20) fun v21 => bV (fFad 3 v21) fun v22 => bV (fLd1 v22 H) fun v23 => bV (fLenV v23) fun v24 => k (d25 (d24 (d23 E v23) v24) (.int .i64 (.ofNat 0))) H)
 (blockC 0 (loopC (seqC (rg fun T E H k => bV (fLss (t25 E) (t24 E)) fun v26 => k (d26 E v26) H)
 (seqC (condF t26
 skipC
 (exitC 0))
 (seqC (blockC 1 (seqC (rg fun T E H k => bV (fIaS 11 (t23 E) (t25 E)) fun v27 => bV (fLdN 11 v27 H) fun v28 => bM (fNew 67 [(.str 0 0), (.str 0 0), (.int .u8 (.ofNat 0)), (.str 0 0), (.str 0 0), (.str 0 0), (.int .u8 (.ofNat 0)), (.str 0 0), (.str 0 0), (.int .i64 (.ofNat 0)), (.int .i64 (.ofNat 0))] []) H fun v8 H => bE (fSt 11 v8 v28 H) H fun _ H => k (d8 E v8) H)
 (seqC (rg fun T E H k => bV (fFad 2 (t8 E)) fun v29 => bV (fLd1 v29 H) fun v30 => bV (fEql true .i v30 (.int .u8 (.ofNat 1))) fun v31 => gdH v31 true H (fun rest => bV (fFad 3 (t8 E)) fun v33 => rest v33 H) fun v33 H => gdH v31 true H (fun rest => bV (fLd1 v33 H) fun v34 => rest v34 H) fun v34 H => gdH v31 true H (fun rest => bV (fFad 0 (t5 E)) fun v35 => rest v35 H) fun v35 H => gdH v31 true H (fun rest => bV (fLd1 v35 H) fun v36 => rest v36 H) fun v36 H => gdH v31 true H (fun rest => bV (fEql false .s v34 v36) fun v37 => rest v37 H) fun v37 H => bV (fPick v31 v37 (.bool false)) fun v38 => k (d38 E v38) H)
 (condF t38
 (rg fun T E H k => bV (fNilchk (t0 E)) fun v41 => bV (fFad 0 v41) fun v42 => bV (fLd1 v42 H) fun v43 => bV (fNilchk v43) fun v44 => bV (fFad 8 v44) fun v45 => bV (fLd1 v45 H) fun v46 => bV (fFad 0 (t8 E)) fun v47 => bV (fLd1 v47 H) fun v48 => bV (oLk .s .nils false v46 v48 H) fun v49 => bV (fIaS 1 v49 (.int .i64 (.ofNat 0))) fun v50 => bV (fLd1 v50 H) fun v51 => T 71 [(t0 E), v51] H fun v52 H => k E H)
 skipC))))
 (rg fun T E H k => bV (fAdd (t25 E) (.int .i64 (.ofNat 1))) fun v53 => k (d25 E v53) H)))))))
 (seqC (rg fun T E H k => k (d6 E (.bool true)) H)
 retC)))))) [fun E _ => some (t6 E)]
def pl155 : Nat × List (Nat × Plan) := (18014123505745408, [(7, ⟨[0, 1, 2, 3, 4, 5, 6, 7, 8, 9, 10, 11, 12, 13], [0, 0, 2, 6, 14, 30, 62, 126, 0, 256, 1022, 2046, 4094, 8191]⟩)])
noncomputable def c156 : TT → FnC := fnC 3 ((seqC (rg fun T E H k => bM (fBox 67 11 (t2 E)) H fun v5 H => k (d6 (d5 E v5) (.bool false)) H)
 (seqC (rg fun T E H k => bV (fFad 0 (t5 E)) fun v8 => bV (fLd1 v8 H) fun v9 => T 172 [(t0 E), v9] H fun v10 H => k E H)
 (seqC (rg fun T E H k => T 173 [(t0 E), (t1 E)] H fun v13 H => k E H)
 (seqC (seqC (rg fun T E H k => bV (fFad 3 (t5 E)) fun v14 => bV (fLd1 v14 H) fun v15 => bV (fNeq true .s v15 (.str 0 0)) fun v16 => k (d16 E v16) H)
 (condF t16
 (rg fun T E H k => bV (fNilchk (t0 E)) fun v19 => bV (fFad 0 v19) fun v20 => bV (fLd1 v20 H) fun v21 => bV (fNilchk v21) fun v22 => bV (fFad 8 v22) fun v23 => bV (fLd1 v23 H) fun v24 => bV (fFad 3 (t5 E)) fun v25 => bV (fLd1 v25 H) fun v26 => bV (oLk .s .nils false v24 v26 H) fun v27 => bV (fIaS 1 v27 (.int .i64 (.ofNat 0))) fun v28 => bV (fLd1 v28 H) fun v29 => T 71 [(t0 E), v29] H fun v30 H => k E H)
 skipC))
 (seqC (rg fun T E H k => k (d6 E (.bool true)) H)
 retC)))))) [fun E _ => some (t6 E)]
def pl156 : Nat × List (Nat × Plan) := (2147417984, [(4, ⟨[0, 1, 2, 3, 4, 5, 6, 7, 8, 9, 10, 11, 12, 13], [0, 0, 2, 6, 14, 30, 62, 126, 0, 256, 1022, 2046, 4094, 8191]⟩)])
noncomputable def c157 : TT → FnC := fnC 3 ((seqC (rg fun T E H k => bM (fBox 67 11 (t2 E)) H fun v5 H => k (d6 (d5 E v5) (.bool false)) H)
 (seqC (rg fun T E H k => bV (fNilchk (t0 E)) fun v16 => bV (fFad 0 v16) fun v17 => bV (fLd1 v17 H) fun v18 => bV (fNilchk v18) fun v19 => bV (fFad 8 v19) fun v20 => bV (fLd1 v20 H) fun v21 => bV (fFad 0 (t5 E)) fun v22 => bV (fLd1 v22 H) fun v23 => bV (oLk .s .nils false v21 v23 H) fun v24 => k (d7 E v24) H)
 (seqC (rg fun T E H k => bV (fIaS 1 (t7 E) (.int .i64 (.ofNat 0))) fun v26 => bV (fLd1 v26 H) fun v27 => k (d8 E v27) H)
 (seqC (seqC (rg fun T E H k => bV (fLenV (t7 E)) fun v29 => bV (fGtr v29 (.int .i64 (.ofNat 1))) fun v30 => k (d30 E v30) H)
 (condF t30
 (seqC (rg fun T E H k => bV (fFad 4 (t5 E)) fun v31 => bV (fLd1 v31 H) fun v32 => k (d8 E v32) H)
 (seqC (rg fun T E H k => bV (fLenV (t7 E)) fun v34 => k (d35 (d34 (d33 E (t7 E)) v34) (.int .i64 (.ofNat 0))) H)
 (blockC 0 (loopC (seqC (rg fun T E H k => bV (fLss (t35 E) (t34 E)) fun v36 => k (d36 E v36) H)
 (seqC (condF t36
 skipC
 (exitC 0))
 (seqC (blockC 1 (seqC (rg fun T E H k => bV (fIaS 1 (t33 E) (t35 E)) fun v37 => bV (fLd1 v37 H) fun v38 => k (d10 E v38) H)
 (seqC (rg fun T E H k => bV (fNilchk (t0 E)) fun v41 => bV (fFad 0 v41) fun v42 => bV (fLd1 v42 H) fun v43 => bV (fNilchk v43) fun v44 => bV (fFad 9 v44) fun v45 => bV (fLd1 v45 H) fun v46 => bV (oLk .s (.agg [(.int .u8 (.ofNat 0)), (.int .u8 (.ofNat 0)), (.int .i64 (.ofNat 0)), (.bool false), (.str 0 0), (.str 0 0), .nils]) true v46 (t10 E) H) fun v48 => bV (fExt 0 v48) fun v49 => bV (fExt 1 v48) fun v50 => bM (fNew 73 [(.int .u8 (.ofNat 0)), (.int .u8 (.ofNat 0)), (.int .i64 (.ofNat 0)), (.bool false), (.str 0 0), (.str 0 0), .nils] []) H fun v11 H => bE (fSt 7 v11 v49 H) H fun _ H => k (d12 (d11 E v11) v50) H)
 (seqC (seqC (rg fun T E H k => bV (fNot (t12 E)) fun v52 => k (d52 E v52) H)
 (condF t52
 (exitC 1)
 skipC))
 (seqC (rg fun T E H k => bV (fLdN 7 (t11 E) H) fun v54 => bV (fNilchk (t0 E)) fun v56 => bV (fFad 1 v56) fun v57 => bV (fLd1 v57 H) fun v58 => T 174 [v54, v58] H fun v59 H => bV (fExt 0 v59) fun v60 => bV (fExt 1 v59) fun v61 => k (d14 (d13 E v60) v61) H)
 (seqC (seqC (rg fun T E H k => bV (fNeq true .i (t14 E) (.int .i64 (.ofNat 0))) fun v63 => k (d63 E v63) H)
 (condF t63
 (seqC (rg fun T E H k => bV (fNilchk (t0 E)) fun v65 => bV (fFad 2 v65) fun v66 => bV (fLd1 v66 H) fun v67 => bV (fIaS 5 v67 (t1 E)) fun v69 => bV (fFad 4 v69) fun v70 => bE (fSt 1 v70 (.bool true) H) H fun _ H => k E H)
 (seqC (rg fun T E H k => k (d6 E (.bool false)) H)
 retC))
 skipC))
 (seqC (rg fun T E H k => k (d71 E (t13 E)) H)
 (condF t71
 (seqC (rg fun T E H k => k (d8 E (t10 E)) H)
 (exitC 0))
 skipC))))))))
 (rg fun T E H k => bV (fAdd (t35 E) (.int .i64 (.ofNat 1))) fun v73 => k (d35 E v73) H))))))))
 skipC))
 (seqC (rg fun T E H k => bV (fFad 0 (t5 E)) fun v75 => bV (fLd1 v75 H) fun v76 => bV (fAdd v76 (.str 1 32)) fun v77 => bV (fNilchk (t0 E)) fun v79 => bV (fFad 2 v79) fun v80 => bV (fLd1 v80 H) fun v81 => bV (fIaS 5 v81 (t1 E)) fun v83 => bV (fFad 0 v83) fun v84 => bV (fLd1 v84 H) fun v85 => bV (fAdd v77 v85) fun v86 => bV (fAdd v86 (.str 1 32)) fun v87 => bV (fAdd v87 (t8 E)) fun v89 => T 172 [(t0 E), v89] H fun v90 H => k E H)
 (seqC (rg fun T E H k => T 173 [(t0 E), (t1 E)] H fun v93 H => k E H)
 (seqC (rg fun T E H k => T 71 [(t0 E), (t8 E)] H fun v96 H => k E H)
 (seqC (rg fun T E H k => k (d6 E (.bool true)) H)
 retC))))))))) [fun E _ => some (t6 E)]
def pl157 : Nat × List (Nat × Plan) := (158456322658117557985860354048, [(1, ⟨[0, 1, 2, 3, 4, 5, 6, 7, 8, 9, 10], [0, 1, 3, 7, 15, 31, 63, 0, 128, 511, 1023]⟩), (10, ⟨[0, 1, 2, 3, 4, 5, 6, 7, 8, 9, 10], [0, 0, 2, 6, 14, 31, 63, 127, 127, 255, 1023]⟩), (17, ⟨[0, 1, 2, 3, 4, 5, 6, 7, 8, 9, 10, 11, 12, 13, 14, 15, 16], [0, 0, 2, 6, 0, 16, 48, 112, 0, 496, 1008, 2032, 4094, 8190, 0, 32766, 65535]⟩)])
noncomputable def c158 : TT → FnC := fnC 3 ((seqC (rg fun T E H k => bM (fBox 67 11 (t2 E)) H fun v5 H => k (d6 (d5 E v5) (.bool false)) H)
 (seqC (rg fun T E H k => k (d7 E .nils) H)
 (seqC (seqC (rg fun T E H k => bV (fNilchk (t0 E)) fun v16 => bV (fFad 0 v16) fun v17 => bV (fLd1 v17 H) fun v18 => bV (fNilchk v18) fun v19 => bV (fFad 7 v19) fun v20 => bV (fLd1 v20 H) fun v21 => bV (fFad 0 (t5 E)) fun v22 => bV (fLd1 v22 H) fun v23 => bV (oLk .s .nils false v21 v23 H) fun v24 => bV (fLenV v24) fun v25 => k (d26 (d25 (d24 E v24) v25) (.int .i64 (.ofNat 0))) H)
 (blockC 0 (loopC (seqC (rg fun T E H k => bV (fLss (t26 E) (t25 E)) fun v27 => k (d27 E v27) H)
 (seqC (condF t27
 skipC
 (exitC 0))
 (seqC (blockC 1 (seqC (rg fun T E H k => bV (fIaS 1 (t24 E) (t26 E)) fun v28 => bV (fLd1 v28 H) fun v29 => bM (fNew 9 [(.str 0 0)] []) H fun v9 H => bE (fSt 1 v9 v29 H) H fun _ H => k (d9 E v9) H)
 (seqC (rg fun T E H k => bV (fNilchk (t0 E)) fun v31 => bV (fFad 2 v31) fun v32 => bV (fLd1 v32 H) fun v33 => bV (oFn (.func 176) 0 [(t9 E)]) fun v34 => T 175 [v33, v34] H fun v35 H => k (d10 E v35) H)
 (seqC (seqC (rg fun T E H k => bV (fLss (t10 E) (.int .i64 (.ofNat 0))) fun v37 => k (d37 E v37) H)
 (condF t37
 (seqC (rg fun T E H k => k (d6 E (.bool false)) H)
 retC)
 skipC))
 (rg fun T E H k => bM (fSlice 3 1 [(.int .i64 (.ofNat 0))] [(0, 1)] [(t10 E)]) H fun v40 H => bE (fApp 3 1 8 (t7 E) v40 H) H fun v41 H => k (d7 E v41) H)))))
 (rg fun T E H k => bV (fAdd (t26 E) (.int .i64 (.ofNat 1))) fun v42 => k (d26 E v42) H)))))))
 (seqC (rg fun T E H k => bV (fFad 0 (t5 E)) fun v44 => bV (fLd1 v44 H) fun v45 => T 172 [(t0 E), v45] H fun v46 H => k E H)
 (seqC (rg fun T E H k => T 177 [(t7 E)] H fun v48 H => k E H)
 (seqC (rg fun T E H k => T 178 [(t7 E)] H fun v50 H => k E H)
 (seqC (seqC (rg fun T E H k => bV (fLenV (t7 E)) fun v52 => k (d53 (d52 (d51 E (t7 E)) v52) (.int .i64 (.ofNat 0))) H)
 (blockC 2 (loopC (seqC (rg fun T E H k => bV (fLss (t53 E) (t52 E)) fun v54 => k (d54 E v54) H)
 (seqC (condF t54
 skipC
 (exitC 2))
 (seqC (blockC 3 (seqC (rg fun T E H k => bV (fIaS 1 (t51 E) (t53 E)) fun v55 => bV (fLd1 v55 H) fun v56 => k (d12 E v56) H)
 (rg fun T E H k => T 173 [(t0 E), (t12 E)] H fun v59 H => k E H)))
 (rg fun T E H k => bV (fAdd (t53 E) (.int .i64 (.ofNat 1))) fun v60 => k (d53 E v60) H)))))))
 (seqC (seqC (rg fun T E H k => bV (fNilchk (t0 E)) fun v62 => bV (fFad 0 v62) fun v63 => bV (fLd1 v63 H) fun v64 => bV (fNilchk v64) fun v65 => bV (fFad 8 v65) fun v66 => bV (fLd1 v66 H) fun v67 => bV (fFad 0 (t5 E)) fun v68 => bV (fLd1 v68 H) fun v69 => bV (oLk .s .nils false v67 v69 H) fun v70 => bV (fLenV v70) fun v71 => k (d72 (d71 (d70 E v70) v71) (.int .i64 (.ofNat 0))) H)
 (blockC 4 (loopC (seqC (rg fun T E H k => bV (fLss (t72 E) (t71 E)) fun v73 => k (d73 E v73) H)
 (seqC (condF t73
 skipC
 (exitC 4))
 (seqC (blockC 5 (seqC (rg fun T E H k => bV (fIaS 1 (t70 E) (t72 E)) fun v74 => bV (fLd1 v74 H) fun v75 => k (d14 E v75) H)
 (rg fun T E H k => T 71 [(t0 E), (t14 E)] H fun v78 H => k E H)))
 (rg fun T E H k => bV (fAdd (t72 E) (.int .i64 (.ofNat 1))) fun v79 => k (d72 E v79) H)))))))
 (seqC (rg fun T E H k => k (d6 E (.bool true)) H)
 retC)))))))))) [fun E _ => some (t6 E)]
def pl158 : Nat × List (Nat × Plan) := (1191216911526733109231616, [(2, ⟨[0, 1, 2, 3, 4, 5, 6, 7, 8, 9, 10, 11], [0, 1, 3, 7, 15, 31, 63, 0, 128, 511, 1023, 0]⟩), (18, ⟨[0, 1, 2, 3, 4, 5, 6, 7, 8, 9, 10, 11], [0, 1, 3, 7, 15, 31, 63, 0, 128, 511, 1023, 0]⟩)])
noncomputable def c159 : TT → FnC := fnC 3 ((seqC (rg fun T E H k => k (d6 E (.int .i64 (.ofNat 20))) H)
 (seqC (rg fun T E H k => k (d8 (d7 E (.int .i64 (.ofNat 0))) (t6 E)) H)
 (seqC (blockC 0 (loopC (seqC (seqC (rg fun T E H k => bV (fLeq (t8 E) (t1 E)) fun v13 => k (d13 E v13) H)
 (condF t13
 skipC
 (exitC 0)))
 (blockC 1 (seqC (rg fun T E H k => T 179 [(t0 E), (t7 E), (t8 E), (t2 E)] H fun v18 H => k E H)
 (seqC (rg fun T E H k => k (d7 E (t8 E)) H)
 (rg fun T E H k => bV (fAdd (t8 E) (t6 E)) fun v22 => k (d8 E v22) H)))))))
 (seqC (rg fun T E H k => T 179 [(t0 E), (t7 E), (t1 E), (t2 E)] H fun v27 H => k E H)
 (blockC 2 (loopC (seqC (seqC (rg fun T E H k => bV (fLss (t6 E) (t1 E)) fun v30 => k (d30 E v30) H)
 (condF t30
 skipC
 (exitC 2)))
 (blockC 3 (seqC (rg fun T E H k => bV (fMul (.int .i64 (.ofNat 2)) (t6 E)) fun v32 => k (d8 (d7 E (.int .i64 (.ofNat 0))) v32) H)
 (seqC (blockC 4 (loopC (seqC (seqC (rg fun T E H k => bV (fLeq (t8 E) (t1 E)) fun v35 => k (d35 E v35) H)
 (condF t35
 skipC
 (exitC 4)))
 (blockC 5 (seqC (rg fun T E H k => bV (fAdd (t7 E) (t6 E)) fun v40 => T 180 [(t0 E), (t7 E), v40, (t8 E), (t2 E)] H fun v43 H => k E H)
 (seqC (rg fun T E H k => k (d7 E (t8 E)) H)
 (rg fun T E H k => bV (fMul (.int .i64 (.ofNat 2)) (t6 E)) fun v47 => bV (fAdd (t8 E) v47) fun v48 => k (d8 E v48) H)))))))
 (seqC (seqC (rg fun T E H k => bV (fAdd (t7 E) (t6 E)) fun v51 => k (d9 E v51) H)
 (seqC (rg fun T E H k => bV (fLss (t9 E) (t1 E)) fun v54 => k (d54 E v54) H)
 (condF t54
 (rg fun T E H k => T 180 [(t0 E), (t7 E), (t9 E), (t1 E), (t2 E)] H fun v60 H => k E H)
 skipC)))
 (rg fun T E H k => bV (fMul (t6 E) (.int .i64 (.ofNat 2))) fun v62 => k (d6 E v62) H))))))))))))) []
def pl159 : Nat × List (Nat × Plan) := (9205357602911804416, [])
noncomputable def c160 : TT → FnC := fnC 1 ((seqC (rg fun T E H k => k (d2 E (.bool false)) H)
 (seqC (rg fun T E H k => bV (fNeq false .i (t0 E) (t0 E)) fun v5 => k (d2 E v5) H)
 retC))) [fun E _ => some (t2 E)]
def pl160 : Nat × List (Nat × Plan) := (56, [])
noncomputable def c161 : TT → FnC := fnC 2 ((seqC (rg fun T E H k => bM (fBox 67 11 (t0 E)) H fun v2 H => k (d3 (d2 E v2) (.bool false)) H)
 (seqC (rg fun T E H k => bV (fFad 0 (t2 E)) fun v4 => bV (fLd1 v4 H) fun v5 => bV (fLd1 (t1 E) H) fun v6 => bV (fEql false .s v5 v6) fun v7 => k (d3 E v7) H)
 retC))) [fun E _ => some (t3 E)]
def pl161 : Nat × List (Nat × Plan) := (240, [])
noncomputable def c162 : TT → FnC := fnC 1 ((seqC (rg fun T E H k => bM (fBox 73 7 (t0 E)) H fun v1 H => k (d2 (d1 E v1) (.bool false)) H)
 (seqC (seqC (rg fun T E H k => bV (fFad 6 (t1 E)) fun v3 => bV (fLd1 v3 H) fun v4 => bV (fLenV v4) fun v5 => bV (fFad 0 (t1 E)) fun v6 => bV (fLd1 v6 H) fun v7 => T 181 [v7] H fun v8 H => agn (fLd1 v3 H) v4 <| bV (fNeq false .i v5 v8) fun v9 => gdH v9 false H (fun rest => bV (fFad 0 (t1 E)) fun v11 => rest v11 H) fun v11 H => gdH v9 false H (fun rest => bV (fLd1 v11 H) fun v12 => rest v12 H) fun v12 H => gdH v9 false H (fun rest => bV (fNeq true .i v12 (.int .u8 (.ofNat 1))) fun v13 => rest v13 H) fun v13 H => gdH v9 false H (fun rest => bV (some v13) fun v14 => rest v14 H) fun v14 H => gdH v14 true H (fun rest => bV (fFad 1 (t1 E)) fun v15 => rest v15 H) fun v15 H => gdH v14 true H (fun rest => bV (fLdN 4 v15 H) fun v16 => rest v16 H) fun v16 H => gdH v14 true H (fun rest => bV (fAgg [(.int .u8 (.ofNat 0)), (.int .i64 (.ofNat 0)), (.bool false), (.str 0 0)] [] []) fun v17 => rest v17 H) fun v17 H => gdH v14 true H (fun rest => bV (fNeq false (.agg [.i, .i, .b, .s]) v16 v17) fun v18 => rest v18 H) fun v18 H => gdH v9 false H (fun rest => bV (fPick v14 v18 (.bool false)) fun v19 => rest v19 H) fun v19 H => bV (fPick v9 (.bool true) v19) fun v20 => gdH v20 false H (fun rest => bV (fFad 0 (t1 E)) fun v22 => rest v22 H) fun v22 H => gdH v20 false H (fun rest => bV (fLd1 v22 H) fun v23 => rest v23 H) fun v23 H => gdH v20 false H (fun rest => bV (fNeq true .i v23 (.int .u8 (.ofNat 2))) fun v24 => rest v24 H) fun v24 H => gdH v20 false H (fun rest => bV (some v24) fun v25 => rest v25 H) fun v25 H => gdH v25 true H (fun rest => bV (fFad 5 (t1 E)) fun v26 => rest v26 H) fun v26 H => gdH v25 true H (fun rest => bV (fLd1 v26 H) fun v27 => rest v27 H) fun v27 H => gdH v25 true H (fun rest => bV (fNeq true .s v27 (.str 0 0)) fun v28 => rest v28 H) fun v28 H => gdH v20 false H (fun rest => bV (fPick v25 v28 (.bool false)) fun v29 => rest v29 H) fun v29 H => bV (fPick v20 (.bool true) v29) fun v30 => k (d30 E v30) H)
 (condF t30
 (seqC (rg fun T E H k => k (d2 E (.bool false)) H)
 retC)
 skipC))
 (seqC (seqC (rg fun T E H k => bV (fFad 0 (t1 E)) fun v31 => bV (fLd1 v31 H) fun v32 => bV (fEql true .i v32 (.int .u8 (.ofNat 1))) fun v33 => gdH v33 true H (fun rest => bV (fFad 1 (t1 E)) fun v35 => rest v35 H) fun v35 H => gdH v33 true H (fun rest => bV (fLdN 4 v35 H) fun v36 => rest v36 H) fun v36 H => gdH v33 true H (fun rest => T 70 [v36] H fun v37 H => rest v37 H) fun v37 H => gdH v33 true H (fun rest => bV (fNeq true .i v37 (.int .i64 (.ofNat 0))) fun v38 => rest v38 H) fun v38 H => gdH v33 true H (fun rest => bV (some v38) fun v39 => rest v39 H) fun v39 H => gdH v39 false H (fun rest => bV (fFad 1 (t1 E)) fun v40 => rest v40 H) fun v40 H => gdH v39 false H (fun rest => bV (fFad 1 v40) fun v41 => rest v41 H) fun v41 H => gdH v39 false H (fun rest => bV (fLd1 v41 H) fun v42 => rest v42 H) fun v42 H => gdH v39 false H (fun rest => bV (fLss v42 (.int .i64 (.ofNat 0))) fun v43 => rest v43 H) fun v43 H => gdH v33 true H (fun rest => bV (fPick v39 (.bool true) v43) fun v44 => rest v44 H) fun v44 H => bV (fPick v33 v44 (.bool false)) fun v45 => gdH v45 false H (fun rest => bV (fFad 0 (t1 E)) fun v47 => rest v47 H) fun v47 H => gdH v45 false H (fun rest => bV (fLd1 v47 H) fun v48 => rest v48 H) fun v48 H => gdH v45 false H (fun rest => bV (fEql true .i v48 (.int .u8 (.ofNat 2))) fun v49 => rest v49 H) fun v49 H => gdH v45 false H (fun rest => bV (some v49) fun v50 => rest v50 H) fun v50 H => gdH v50 true H (fun rest => bV (fFad 5 (t1 E)) fun v51 => rest v51 H) fun v51 H => gdH v50 true H (fun rest => bV (fLd1 v51 H) fun v52 => rest v52 H) fun v52 H => gdH v50 true H (fun rest => T 79 [v52] H fun v53 H => rest v53 H) fun v53 H => gdH v50 true H (fun rest => bV (fNot v53) fun v54 => rest v54 H) fun v54 H => gdH v50 true H (fun rest => bV (some v54) fun v55 => rest v55 H) fun v55 H => gdH v55 false H (fun rest => bV (fFad 5 (t1 E)) fun v56 => rest v56 H) fun v56 H => gdH v55 false H (fun rest => bV (fLd1 v56 H) fun v57 => rest v57 H) fun v57 H => gdH v55 false H (fun rest => T 150 [v57] H fun v58 H => rest v58 H) fun v58 H => gdH v50 true H (fun rest => bV (fPick v55 (.bool true) v58) fun v59 => rest v59 H) fun v59 H => gdH v45 false H (fun rest => bV (fPick v50 v59 (.bool false)) fun v60 => rest v60 H) fun v60 H => bV (fPick v45 (.bool true) v60) fun v61 => k (d61 E v61) H)
 (condF t61
 (seqC (rg fun T E H k => k (d2 E (.bool false)) H)
 retC)
 skipC))
 (seqC (rg fun T E H k => bV (fFad 6 (t1 E)) fun v62 => bV (fLd1 v62 H) fun v63 => T 182 [v63, (.fn (.func 183) [] [])] H fun v64 H => bV (fNot v64) fun v65 => k (d2 E v65) H)
 retC))))) [fun E _ => some (t2 E)]
def pl162 : Nat × List (Nat × Plan) := (71481133284550770680, [(1, ⟨[0, 1, 2, 3, 4, 5, 6, 7, 8, 9, 10, 11, 12, 13, 14, 15, 16, 17, 18, 19, 20, 21, 22, 23, 24, 25, 26, 27], [0, 1, 3, 0, 8, 24, 63, 127, 255, 511, 1023, 2047, 4095, 8191, 4095, 32767, 65535, 131071, 262143, 524287, 1048575, 2097151, 4194303, 8388607, 16777215, 33554431, 67108863, 134217727]⟩)])
noncomputable def c163 : TT → FnC := fnC 2 ((seqC (rg fun T E H k => bM (fBox 73 7 (t0 E)) H fun v2 H => k (d5 (d4 (d2 E v2) (.int .u8 (.ofNat 0))) (.int .i64 (.ofNat 0))) H)
 (seqC (seqC (rg fun T E H k => bV (fFad 0 (t2 E)) fun v13 => bV (fLd1 v13 H) fun v14 => k (d14 E v14) H)
 (blockC 0 (seqC (rg fun T E H k => bV (fEql true .i (t14 E) (.int .u8 (.ofNat 1))) fun v16 => k (d15 E v16) H)
 (condF t15
 (seqC (rg fun T E H k => bV (fFad 1 (t2 E)) fun v17 => bV (fFad 0 v17) fun v18 => bV (fLd1 v18 H) fun v19 => k (d5 (d4 E v19) (.int .i64 (.ofNat 0))) H)
 retC)
 (seqC (rg fun T E H k => bV (fEql true .i (t14 E) (.int .u8 (.ofNat 2))) fun v21 => k (d20 E v21) H)
 (condF t20
 (seqC (rg fun T E H k => bV (oFn (.func 184) 0 [(t2 E)]) fun v23 => T 132 [(t1 E), v23] H fun v24 H => k (d6 E v24) H)
 (seqC (seqC (rg fun T E H k => bV (fLss (t6 E) (.int .i64 (.ofNat 0))) fun v26 => k (d26 E v26) H)
 (condF t26
 (seqC (rg fun T E H k => k (d5 (d4 E (.int .u8 (.ofNat 0))) (.int .i64 (.ofNat 100))) H)
 retC)
 skipC))
 (seqC (rg fun T E H k => bV (fIaS 5 (t1 E) (t6 E)) fun v29 => bV (fFad 1 v29) fun v30 => bV (fFad 0 v30) fun v31 => bV (fLd1 v31 H) fun v32 => k (d5 (d4 E v32) (.int .i64 (.ofNat 0))) H)
 retC)))
 skipC))))))
 (seqC (rg fun T E H k => k (d7 E .nils) H)
 (seqC (seqC (rg fun T E H k => bV (fFad 6 (t2 E)) fun v33 => bV (fLd1 v33 H) fun v34 => bV (fLenV v34) fun v35 => k (d36 (d35 (d34 E v34) v35) (.int .i64 (.ofNat 0))) H)
 (blockC 1 (loopC (seqC (rg fun T E H k => bV (fLss (t36 E) (t35 E)) fun v37 => k (d37 E v37) H)
 (seqC (condF t37
 skipC
 (exitC 1))
 (seqC (blockC 2 (seqC (rg fun T E H k => bV (fIaS 7 (t34 E) (t36 E)) fun v38 => bV (fLdN 7 v38 H) fun v39 => bM (fNew 73 [(.int .u8 (.ofNat 0)), (.int .u8 (.ofNat 0)), (.int .i64 (.ofNat 0)), (.bool false), (.str 0 0), (.str 0 0), .nils] []) H fun v9 H => bE (fSt 7 v9 v39 H) H fun _ H => k (d9 E v9) H)
 (seqC (rg fun T E H k => bV (fLdN 7 (t9 E) H) fun v41 => T 163 [v41, (t1 E)] H fun v43 H => bV (fExt 0 v43) fun v44 => bV (fExt 1 v43) fun v45 => k (d11 (d10 E v44) v45) H)
 (seqC (seqC (rg fun T E H k => bV (fNeq true .i (t11 E) (.int .i64 (.ofNat 0))) fun v47 => k (d47 E v47) H)
 (condF t47
 (seqC (rg fun T E H k => k (d5 (d4 E (.int .u8 (.ofNat 0))) (t11 E)) H)
 retC)
 skipC))
 (rg fun T E H k => bM (fSlice 5 1 [(.int .u8 (.ofNat 0))] [(0, 1)] [(t10 E)]) H fun v51 H => bE (fApp 5 1 1 (t7 E) v51 H) H fun v52 H => k (d7 E v52) H)))))
 (rg fun T E H k => bV (fAdd (t36 E) (.int .i64 (.ofNat 1))) fun v53 => k (d36 E v53) H)))))))
 (seqC (rg fun T E H k => bV (fIaS 1 (t7 E) (.int .i64 (.ofNat 0))) fun v55 => bV (fLd1 v55 H) fun v56 => bM (fNew 5 [(.int .u8 (.ofNat 0))] []) H fun v12 H => bE (fSt 1 v12 v56 H) H fun _ H => k (d12 E v12) H)
 (seqC (seqC (rg fun T E H k => bV (oFn (.func 186) 0 [(t12 E)]) fun v58 => T 185 [(t7 E), v58] H fun v59 H => k (d59 E v59) H)
 (condF t59
 (seqC (rg fun T E H k => k (d5 (d4 E (.int .u8 (.ofNat 0))) (.int .i64 (.ofNat 90))) H)
 retC)
 skipC))
 (seqC (blockC 3 (seqC (rg fun T E H k => bV (fFad 0 (t2 E)) fun v61 => bV (fLd1 v61 H) fun v62 => bV (fEql true .i v62 (.int .u8 (.ofNat 7))) fun v63 => gdH v63 false H (fun rest => bV (fFad 0 (t2 E)) fun v65 => rest v65 H) fun v65 H => gdH v63 false H (fun rest => bV (fLd1 v65 H) fun v66 => rest v66 H) fun v66 H => gdH v63 false H (fun rest => bV (fEql true .i v66 (.int .u8 (.ofNat 8))) fun v67 => rest v67 H) fun v67 H => bV (fPick v63 (.bool true) v67) fun v68 => k (d60 E v68) H)
 (condF t60
 (seqC (rg fun T E H k => k (d5 (d4 E (.int .u8 (.ofNat 2))) (.int .i64 (.ofNat 0))) H)
 retC)
 (seqC (rg fun T E H k => bV (fFad 0 (t2 E)) fun v70 => bV (fLd1 v70 H) fun v71 => bV (fEql true .i v71 (.int .u8 (.ofNat 3))) fun v72 => gdH v72 false H (fun rest => bV (fFad 0 (t2 E)) fun v74 => rest v74 H) fun v74 H => gdH v72 false H (fun rest => bV (fLd1 v74 H) fun v75 => rest v75 H) fun v75 H => gdH v72 false H (fun rest => bV (fEql true .i v75 (.int .u8 (.ofNat 5))) fun v76 => rest v76 H) fun v76 H => bV (fPick v72 (.bool true) v76) fun v77 => gdH v77 false H (fun rest => bV (fFad 0 (t2 E)) fun v79 => rest v79 H) fun v79 H => gdH v77 false H (fun rest => bV (fLd1 v79 H) fun v80 => rest v80 H) fun v80 H => gdH v77 false H (fun rest => bV (fEql true .i v80 (.int .u8 (.ofNat 6))) fun v81 => rest v81 H) fun v81 H => bV (fPick v77 (.bool true) v81) fun v82 => gdH v82 true H (fun rest => bV (fLd1 (t12 E) H) fun v84 => rest v84 H) fun v84 H => gdH v82 true H (fun rest => bV (fEql true .i v84 (.int .u8 (.ofNat 2))) fun v85 => rest v85 H) fun v85 H => bV (fPick v82 v85 (.bool false)) fun v86 => k (d69 E v86) H)
 (condF t69
 (seqC (rg fun T E H k => bV (fLd1 (t12 E) H) fun v87 => k (d5 (d4 E v87) (.int .i64 (.ofNat 0))) H)
 retC)
 (seqC (rg fun T E H k => bV (fFad 0 (t2 E)) fun v89 => bV (fLd1 v89 H) fun v90 => bV (fGeq v90 (.int .u8 (.ofNat 9))) fun v91 => gdH v91 true H (fun rest => bV (fFad 0 (t2 E)) fun v93 => rest v93 H) fun v93 H => gdH v91 true H (fun rest => bV (fLd1 v93 H) fun v94 => rest v94 H) fun v94 H => gdH v91 true H (fun rest => bV (fLeq v94 (.int .u8 (.ofNat 12))) fun v95 => rest v95 H) fun v95 H => bV (fPick v91 v95 (.bool false)) fun v96 => gdH v96 true H (fun rest => bV (fLd1 (t12 E) H) fun v98 => rest v98 H) fun v98 H => gdH v96 true H (fun rest => bV (fNeq true .i v98 (.int .u8 (.ofNat 2))) fun v99 => rest v99 H) fun v99 H => bV (fPick v96 v99 (.bool false)) fun v100 => k (d88 E v100) H)
 (condF t88
 (seqC (rg fun T E H k => k (d5 (d4 E (.int .u8 (.ofNat 2))) (.int .i64 (.ofNat 0))) H)
 retC)
 (seqC (rg fun T E H k => bV (fFad 0 (t2 E)) fun v102 => bV (fLd1 v102 H) fun v103 => bV (fEql true .i v103 (.int .u8 (.ofNat 4))) fun v104 => gdH v104 false H (fun rest => bV (fFad 0 (t2 E)) fun v106 => rest v106 H) fun v106 H => gdH v104 false H (fun rest => bV (fLd1 v106 H) fun v107 => rest v107 H) fun v107 H => gdH v104 false H (fun rest => bV (fGeq v107 (.int .u8 (.ofNat 13))) fun v108 => rest v108 H) fun v108 H => bV (fPick v104 (.bool true) v108) fun v109 => gdH v109 true H (fun rest => bV (fLd1 (t12 E) H) fun v111 => rest v111 H) fun v111 H => gdH v109 true H (fun rest => bV (fEql true .i v111 (.int .u8 (.ofNat 1))) fun v112 => rest v112 H) fun v112 H => bV (fPick v109 v112 (.bool false)) fun v113 => gdH v113 false H (fun rest => bV (fFad 0 (t2 E)) fun v115 => rest v115 H) fun v115 H => gdH v113 false H (fun rest => bV (fLd1 v115 H) fun v116 => rest v116 H) fun v116 H => gdH v113 false H (fun rest => bV (fEql true .i v116 (.int .u8 (.ofNat 13))) fun v117 => rest v117 H) fun v117 H => gdH v113 false H (fun rest => bV (some v117) fun v118 => rest v118 H) fun v118 H => gdH v118 true H (fun rest => bV (fLd1 (t12 E) H) fun v119 => rest v119 H) fun v119 H => gdH v118 true H (fun rest => bV (fEql true .i v119 (.int .u8 (.ofNat 3))) fun v120 => rest v120 H) fun v120 H => gdH v113 false H (fun rest => bV (fPick v118 v120 (.bool false)) fun v121 => rest v121 H) fun v121 H => bV (fPick v113 (.bool true) v121) fun v122 => k (d101 E v122) H)
 (condF t101
 (seqC (rg fun T E H k => bV (fLd1 (t12 E) H) fun v123 => k (d5 (d4 E v123) (.int .i64 (.ofNat 0))) H)
 retC)
 skipC)))))))))
 (seqC (rg fun T E H k => k (d5 (d4 E (.int .u8 (.ofNat 0))) (.int .i64 (.ofNat 90))) H)
 retC))))))))) [fun E _ => some (t4 E), fun E _ => some (t5 E)]
def pl163 : Nat × List (Nat × Plan) := (21267645396947967908155431291483791360, [])
noncomputable def c167 : TT → FnC := fnC 3 ((seqC (rg fun T E H k => k (d6 E (.int .i64 (.ofNat 0))) H)
 (seqC (seqC (rg fun T E H k => bM (aIter (t0 E)) H fun v10 H => k (d10 E v10) H)
 (blockC 0 (loopC (seqC (rg fun T E H k => bE (oNxt (t10 E) H) H fun v11 H => bV (fExt 0 v11) fun v12 => k (d12 (d11 E v11) v12) H)
 (seqC (condF t12
 skipC
 (exitC 0))
 (blockC 1 (seqC (rg fun T E H k => bV (fExt 1 (t11 E)) fun v13 => bV (fExt 2 (t11 E)) fun v14 => k (d8 (d7 E v13) v14) H)
 (seqC (rg fun T E H k => onFnV [(t1 E), (t8 E)] fun f l => T f l H fun v17 H => bV (fEql false .b v17 (t2 E)) fun v19 => k (d19 E v19) H)
 (condF t19
 (seqC (rg fun T E H k => k (d6 E (t7 E)) H)
 retC)
 skipC)))))))))
 (seqC (rg fun T E H k => k (d6 E (.int .i64 (.negSucc 0))) H)
 retC)))) [fun E _ => some (t6 E)]
def pl167 : Nat × List (Nat × Plan) := (1565184, [])
noncomputable def c168 : TT → FnC := fnC 3 ((seqC (rg fun T E H k => k (d7 (d6 E (.int .i64 (.ofNat 0))) .nili) H)
 (seqC (seqC (rg fun T E H k => bV (fEql true .s (t0 E) (.str 0 0)) fun v13 => k (d13 E v13) H)
 (condF t13
 (seqC (rg fun T E H k => bV (oIfc 228 (.int .i64 (.ofNat 2))) fun v14 => k (d7 (d6 E (.int .i64 (.ofNat 0))) v14) H)
 retC)
 skipC))
 (seqC (rg fun T E H k => k (d8 E (.bool false)) H)
 (seqC (seqC (rg fun T E H k => bV (fIxS (t0 E) (.int .i64 (.ofNat 0))) fun v16 => k (d16 E v16) H)
 (blockC 0 (seqC (rg fun T E H k => bV (fEql true .i (t16 E) (.int .u8 (.ofNat 43))) fun v18 => k (d17 E v18) H)
 (condF t17
 (rg fun T E H k => bV (oSlS true false [(t0 E), (.int .i64 (.ofNat 1))]) fun v20 => k (d0 E v20) H)
 (seqC (rg fun T E H k => bV (fEql true .i (t16 E) (.int .u8 (.ofNat 45))) fun v22 => k (d21 E v22) H)
 (condF t21
 (seqC (rg fun T E H k => bV (oSlS true false [(t0 E), (.int .i64 (.ofNat 1))]) fun v24 => k (d0 E v24) H)
 (rg fun T E H k => k (d8 E (.bool true)) H))
 skipC))))))
 (seqC (rg fun T E H k => k (d9 E (.int .u64 (.ofNat 0))) H)
 (seqC (rg fun T E H k => T 189 [(t0 E), (t1 E), (t2 E)] H fun v29 H => bV (fExt 0 v29) fun v30 => bV (fExt 1 v29) fun v31 => k (d7 (d9 E v30) v31) H)
 (seqC (seqC (rg fun T E H k => bV (fNeq true .f (t7 E) .nili) fun v33 => gdH v33 true H (fun rest => bV (some (t7 E)) fun v35 => rest v35 H) fun v35 H => gdH v33 true H (fun rest => bV (oIfc 228 (.int .i64 (.ofNat 1))) fun v36 => rest v36 H) fun v36 H => gdH v33 true H (fun rest => bV (fNeq false .f v35 v36) fun v37 => rest v37 H) fun v37 H => bV (fPick v33 v37 (.bool false)) fun v38 => k (d38 E v38) H)
 (condF t38
 (seqC (rg fun T E H k => k (d7 (d6 E (.int .i64 (.ofNat 0))) (t7 E)) H)
 retC)
 skipC))
 (seqC (seqC (rg fun T E H k => bV (fEql true .i (t2 E) (.int .i64 (.ofNat 0))) fun v41 => k (d41 E v41) H)
 (condF t41
 (rg fun T E H k => k (d2 E (.int .i64 (.ofNat 64))) H)
 skipC))
 (seqC (rg fun T E H k => bV (fSub (t2 E) (.int .i64 (.ofNat 1))) fun v43 => bV (fInt .u64 v43) fun v44 => bV (bShl (.int .u64 (.ofNat 1)) v44) fun v45 => k (d10 E v45) H)
 (seqC (seqC (rg fun T E H k => bV (fNot (t8 E)) fun v47 => gdH v47 true H (fun rest => bV (some (t9 E)) fun v49 => rest v49 H) fun v49 H => gdH v47 true H (fun rest => bV (some (t10 E)) fun v50 => rest v50 H) fun v50 H => gdH v47 true H (fun rest => bV (fGeq v49 v50) fun v51 => rest v51 H) fun v51 H => bV (fPick v47 v51 (.bool false)) fun v52 => k (d52 E v52) H)
 (condF t52
 (seqC (rg fun T E H k => bV (fSub (t10 E) (.int .u64 (.ofNat 1))) fun v54 => bV (fInt .i64 v54) fun v55 => bV (oIfc 228 (.int .i64 (.ofNat 1))) fun v56 => k (d7 (d6 E v55) v56) H)
 retC)
 skipC))
 (seqC (seqC (rg fun T E H k => gdH (t8 E) true H (fun rest => bV (some (t9 E)) fun v59 => rest v59 H) fun v59 H => gdH (t8 E) true H (fun rest => bV (some (t10 E)) fun v60 => rest v60 H) fun v60 H => gdH (t8 E) true H (fun rest => bV (fGtr v59 v60) fun v61 => rest v61 H) fun v61 H => bV (fPick (t8 E) v61 (.bool false)) fun v62 => k (d62 E v62) H)
 (condF t62
 (seqC (rg fun T E H k => bV (fInt .i64 (t10 E)) fun v64 => bV (uNeg v64) fun v65 => bV (oIfc 228 (.int .i64 (.ofNat 1))) fun v66 => k (d7 (d6 E v65) v66) H)
 retC)
 skipC))
 (seqC (rg fun T E H k => bV (fInt .i64 (t9 E)) fun v68 => k (d11 E v68) H)
 (seqC (seqC (rg fun T E H k => k (d69 E (t8 E)) H)
 (condF t69
 (rg fun T E H k => bV (uNeg (t11 E)) fun v71 => k (d11 E v71) H)
 skipC))
 (seqC (rg fun T E H k => k (d7 (d6 E (t11 E)) .nili) H)
 retC))))))))))))))) [fun E _ => some (t6 E), fun E _ => some (t7 E)]
def pl168 : Nat × List (Nat × Plan) := (8849820963288626548736, [])
noncomputable def c172 : TT → FnC := fnC 2 ((rg fun T E H k => bV (fNilchk (t0 E)) fun v6 => bV (fFad 4 v6) fun v7 => bV (fLd1 v7 H) fun v8 => bM (fSlice 9 1 [(.str 0 0)] [(0, 1)] [(t1 E)]) H fun v10 H => bE (fApp 9 1 16 v8 v10 H) H fun v11 H => bV (fNilchk (t0 E)) fun v12 => bV (fFad 4 v12) fun v13 => bE (fSt 1 v13 v11 H) H fun _ H => k E H)) []
def pl172 : Nat × List (Nat × Plan) := (16368, [])
noncomputable def c173 : TT → FnC := fnC 2 ((rg fun T E H k => bV (fNilchk (t0 E)) fun v6 => bV (fFad 2 v6) fun v7 => bV (fLd1 v7 H) fun v8 => T 126 [v8] H fun v9 H => bV (fAdd (t1 E) (.int .i64 (.ofNat 1))) fun v12 => T 195 [v9, (t1 E), v12] H fun v13 H => bV (fNilchk (t0 E)) fun v14 => bV (fFad 2 v14) fun v15 => bE (fSt 1 v15 v13 H) H fun _ H => k E H)) []
def pl173 : Nat × List (Nat × Plan) := (65520, [])
noncomputable def c174 : TT → FnC := fnC 2 ((seqC (rg fun T E H k => bM (fBox 73 7 (t0 E)) H fun v2 H => k (d5 (d4 (d2 E v2) (.bool false)) (.int .i64 (.ofNat 0))) H)
 (seqC (rg fun T E H k => bV (fLdN 7 (t2 E) H) fun v9 => T 196 [v9, (t1 E)] H fun v11 H => bV (fExt 0 v11) fun v12 => bV (fExt 1 v11) fun v13 => bM (fNew 43 [(.int .u8 (.ofNat 0)), (.int .i64 (.ofNat 0)), (.bool false), (.str 0 0)] []) H fun v6 H => bE (fSt 4 v6 v12 H) H fun _ H => k (d7 (d6 E v6) v13) H)
 (seqC (blockC 0 (seqC (rg fun T E H k => bV (fNeq true .i (t7 E) (.int .i64 (.ofNat 0))) fun v16 => k (d14 E v16) H)
 (condF t14
 (seqC (rg fun T E H k => k (d5 (d4 E (.bool false)) (t7 E)) H)
 retC)
 (seqC (rg fun T E H k => bV (fFad 0 (t6 E)) fun v19 => bV (fLd1 v19 H) fun v20 => bV (fNeq true .i v20 (.int .u8 (.ofNat 2))) fun v21 => k (d18 E v21) H)
 (condF t18
 (seqC (rg fun T E H k => k (d5 (d4 E (.bool false)) (.int .i64 (.ofNat 90))) H)
 retC)
 skipC)))))
 (seqC (rg fun T E H k => bV (fFad 2 (t6 E)) fun v22 => bV (fLd1 v22 H) fun v23 => k (d5 (d4 E v23) (.int .i64 (.ofNat 0))) H)
 retC))))) [fun E _ => some (t4 E), fun E _ => some (t5 E)]
def pl174 : Nat × List (Nat × Plan) := (16498432, [])
noncomputable def c175 : TT → FnC := fnC 2 ((seqC (rg fun T E H k => k (d4 E (.int .i64 (.ofNat 0))) H)
 (seqC (seqC (rg fun T E H k => bV (fLenV (t0 E)) fun v7 => k (d8 (d7 E v7) (.int .i64 (.ofNat 0))) H)
 (blockC 0 (loopC (seqC (rg fun T E H k => bV (fLss (t8 E) (t7 E)) fun v9 => k (d9 E v9) H)
 (seqC (condF t9
 skipC
 (exitC 0))
 (seqC (blockC 1 (seqC (rg fun T E H k => k (d5 E (t8 E)) H)
 (seqC (rg fun T E H k => bV (fIaS 5 (t0 E) (t5 E)) fun v14 => bV (fLdN 5 v14 H) fun v15 => onFnV [(t1 E), v15] fun f l => T f l H fun v16 H => k (d16 E v16) H)
 (condF t16
 (seqC (rg fun T E H k => k (d4 E (t5 E)) H)
 retC)
 skipC))))
 (rg fun T E H k => bV (fAdd (t8 E) (.int .i64 (.ofNat 1))) fun v18 => k (d8 E v18) H)))))))
 (seqC (rg fun T E H k => k (d4 E (.int .i64 (.negSucc 0))) H)
 retC)))) [fun E _ => some (t4 E)]
def pl175 : Nat × List (Nat × Plan) := (457792, [])
noncomputable def c176 : TT → FnC := fnC 2 ((seqC (rg fun T E H k => bM (fBox 130 5 (t0 E)) H fun v2 H => k (d3 (d2 E v2) (.bool false)) H)
 (seqC (rg fun T E H k => bV (fFad 0 (t2 E)) fun v4 => bV (fLd1 v4 H) fun v5 => bV (fLd1 (t1 E) H) fun v6 => bV (fEql false .s v5 v6) fun v7 => k (d3 E v7) H)
 retC))) [fun E _ => some (t3 E)]
def pl176 : Nat × List (Nat × Plan) := (240, [])
noncomputable def c177 : TT → FnC := fnC 1 ((seqC (rg fun T E H k => bV (fLenV (t0 E)) fun v4 => k (d2 E v4) H)
 (rg fun T E H k => bV (fInt .u64 (t2 E)) fun v8 => T 198 [v8] H fun v9 H => T 197 [(t0 E), (.int .i64 (.ofNat 0)), (t2 E), v9] H fun v10 H => k E H))) []
def pl177 : Nat × List (Nat × Plan) := (2040, [])
noncomputable def c178 : TT → FnC := fnC 1 ((seqC (rg fun T E H k => bV (fLenV (t0 E)) fun v5 => bV (fSub v5 (.int .i64 (.ofNat 1))) fun v6 => k (d3 (d2 E (.int .i64 (.ofNat 0))) v6) H)
 (blockC 0 (loopC (seqC (seqC (rg fun T E H k => bV (fLss (t2 E) (t3 E)) fun v9 => k (d9 E v9) H)
 (condF t9
 skipC
 (exitC 0)))
 (seqC (blockC 1 (rg fun T E H k => bV (fIaS 1 (t0 E) (t3 E)) fun v20 => bV (fLd1 v20 H) fun v21 => bV (fIaS 1 (t0 E) (t2 E)) fun v24 => bV (fLd1 v24 H) fun v25 => bV (fIaS 1 (t0 E) (t2 E)) fun v26 => bE (fSt 1 v26 v21 H) H fun _ H => bV (fIaS 1 (t0 E) (t3 E)) fun v27 => bE (fSt 1 v27 v25 H) H fun _ H => k E H))
 (rg fun T E H k => bV (fAdd (t2 E) (.int .i64 (.ofNat 1))) fun v11 => bV (fSub (t3 E) (.int .i64 (.ofNat 1))) fun v13 => k (d3 (d2 E v11) v13) H))))))) []
def pl178 : Nat × List (Nat × Plan) := (268434928, [(3, ⟨[0, 1, 2, 3, 4, 5, 6, 7, 8, 9, 10, 11, 12, 13, 14, 15], [0, 0, 0, 0, 0, 0, 48, 112, 0, 0, 768, 1792, 4083, 8179, 16383, 32767]⟩)])
noncomputable def c179 : TT → FnC := fnC 4 ((seqC (rg fun T E H k => bV (fAdd (t1 E) (.int .i64 (.ofNat 1))) fun v11 => k (d8 E v11) H)
 (blockC 0 (loopC (seqC (seqC (rg fun T E H k => bV (fLss (t8 E) (t2 E)) fun v14 => k (d14 E v14) H)
 (condF t14
 skipC
 (exitC 0)))
 (seqC (blockC 1 (seqC (rg fun T E H k => k (d9 E (t8 E)) H)
 (blockC 2 (loopC (seqC (seqC (rg fun T E H k => bV (fGtr (t9 E) (t1 E)) fun v20 => gdH v20 true H (fun rest => bV (some (t3 E)) fun v22 => rest v22 H) fun v22 H => gdH v20 true H (fun rest => bV (some (t0 E)) fun v23 => rest v23 H) fun v23 H => gdH v20 true H (fun rest => bV (some (t9 E)) fun v24 => rest v24 H) fun v24 H => gdH v20 true H (fun rest => bV (fIaS 5 v23 v24) fun v25 => rest v25 H) fun v25 H => gdH v20 true H (fun rest => bV (fLdN 5 v25 H) fun v26 => rest v26 H) fun v26 H => gdH v20 true H (fun rest => bV (some (t0 E)) fun v27 => rest v27 H) fun v27 H => gdH v20 true H (fun rest => bV (some (t9 E)) fun v28 => rest v28 H) fun v28 H => gdH v20 true H (fun rest => bV (fSub v28 (.int .i64 (.ofNat 1))) fun v29 => rest v29 H) fun v29 H => gdH v20 true H (fun rest => bV (fIaS 5 v27 v29) fun v30 => rest v30 H) fun v30 H => gdH v20 true H (fun rest => bV (fLdN 5 v30 H) fun v31 => rest v31 H) fun v31 H => gdH v20 true H (fun rest => onFnV [v22, v26, v31] fun f l => T f l H fun v32 H => rest v32 H) fun v32 H => gdH v20 true H (fun rest => bV (fLss v32 (.int .i64 (.ofNat 0))) fun v33 => rest v33 H) fun v33 H => bV (fPick v20 v33 (.bool false)) fun v34 => k (d34 E v34) H)
 (condF t34
 skipC
 (exitC 2)))
 (seqC (blockC 3 (rg fun T E H k => bV (fSub (t9 E) (.int .i64 (.ofNat 1))) fun v41 => bV (fSub (t9 E) (.int .i64 (.ofNat 1))) fun v44 => bV (fIaS 5 (t0 E) v44) fun v45 => bV (fLdN 5 v45 H) fun v46 => bV (fIaS 5 (t0 E) (t9 E)) fun v49 => bV (fLdN 5 v49 H) fun v50 => bV (fIaS 5 (t0 E) (t9 E)) fun v51 => bE (fSt 5 v51 v46 H) H fun _ H => bV (fIaS 5 (t0 E) v41) fun v52 => bE (fSt 5 v52 v50 H) H fun _ H => k E H))
 (rg fun T E H k => bV (fSub (t9 E) (.int .i64 (.ofNat 1))) fun v36 => k (d9 E v36) H)))))))
 (rg fun T E H k => bV (fAdd (t8 E) (.int .i64 (.ofNat 1))) fun v16 => k (d8 E v16) H))))))) []
def pl179 : Nat × List (Nat × Plan) := (9007182074854400, [(4, ⟨[0, 1, 2, 3, 4, 5, 6, 7, 8, 9, 10, 11, 12, 13, 14, 15, 16], [0, 0, 3, 7, 15, 15, 15, 111, 239, 15, 15, 1039, 3599, 7695, 16383, 32767, 65535]⟩), (6, ⟨[0, 1, 2, 3, 4, 5, 6, 7, 8, 9, 10, 11, 12, 13, 14, 15, 16, 17], [0, 0, 0, 0, 8, 0, 0, 64, 224, 480, 0, 0, 3072, 7168, 16355, 32739, 65535, 131071]⟩)])
noncomputable def c181 : TT → FnC := fnC 1 ((seqC (rg fun T E H k => k (d2 E (.int .i64 (.ofNat 0))) H)
 (seqC (blockC 0 (seqC (rg fun T E H k => bV (fLss (t0 E) (.int .u8 (.ofNat 1))) fun v5 => gdH v5 false H (fun rest => bV (some (t0 E)) fun v7 => rest v7 H) fun v7 H => gdH v5 false H (fun rest => bV (fGtr v7 (.int .u8 (.ofNat 17))) fun v8 => rest v8 H) fun v8 H => bV (fPick v5 (.bool true) v8) fun v9 => k (d3 E v9) H)
 (condF t3
 (seqC (rg fun T E H k => k (d2 E (.int .i64 (.negSucc 0))) H)
 retC)
 (seqC (rg fun T E H k => bV (fLeq (t0 E) (.int .u8 (.ofNat 2))) fun v12 => k (d10 E v12) H)
 (condF t10
 (seqC (rg fun T E H k => k (d2 E (.int .i64 (.ofNat 0))) H)
 retC)
 (seqC (rg fun T E H k => bV (fLeq (t0 E) (.int .u8 (.ofNat 4))) fun v15 => k (d13 E v15) H)
 (condF t13
 (seqC (rg fun T E H k => k (d2 E (.int .i64 (.ofNat 1))) H)
 retC)
 skipC)))))))
 (seqC (rg fun T E H k => k (d2 E (.int .i64 (.ofNat 2))) H)
 retC)))) [fun E _ => some (t2 E)]
def pl181 : Nat × List (Nat × Plan) := (56304, [])
noncomputable def c182 : TT → FnC := fnC 2 ((seqC (rg fun T E H k => k (d4 E (.bool false)) H)
 (seqC (rg fun T E H k => T 200 [(t0 E), (t1 E)] H fun v7 H => bV (fGeq v7 (.int .i64 (.ofNat 0))) fun v8 => k (d4 E v8) H)
 retC))) [fun E _ => some (t4 E)]
def pl182 : Nat × List (Nat × Plan) := (480, [])
noncomputable def c183 : TT → FnC := fnC 1 ((seqC (rg fun T E H k => bM (fBox 73 7 (t0 E)) H fun v1 H => k (d2 (d1 E v1) (.bool false)) H)
 (seqC (rg fun T E H k => bV (fLdN 7 (t1 E) H) fun v3 => T 162 [v3] H fun v4 H => bV (fNot v4) fun v5 => k (d2 E v5) H)
 retC))) [fun E _ => some (t2 E)]
def pl183 : Nat × List (Nat × Plan) := (56, [])
noncomputable def c184 : TT → FnC := fnC 2 ((seqC (rg fun T E H k => bM (fBox 46 5 (t0 E)) H fun v2 H => k (d3 (d2 E v2) (.bool false)) H)
 (seqC (rg fun T E H k => bV (fFad 0 (t2 E)) fun v4 => bV (fLd1 v4 H) fun v5 => bV (fFad 5 (t1 E)) fun v6 => bV (fLd1 v6 H) fun v7 => bV (fEql false .s v5 v7) fun v8 => k (d3 E v8) H)
 retC))) [fun E _ => some (t3 E)]
def pl184 : Nat × List (Nat × Plan) := (496, [])
noncomputable def c185 : TT → FnC := fnC 2 ((seqC (rg fun T E H k => k (d4 E (.bool false)) H)
 (seqC (rg fun T E H k => T 201 [(t0 E), (t1 E)] H fun v7 H => bV (fGeq v7 (.int .i64 (.ofNat 0))) fun v8 => k (d4 E v8) H)
 retC))) [fun E _ => some (t4 E)]
def pl185 : Nat × List (Nat × Plan) := (480, [])
noncomputable def c186 : TT → FnC := fnC 2 ((seqC (rg fun T E H k => k (d3 E (.bool false)) H)
 (seqC (rg fun T E H k => bV (fLd1 (t1 E) H) fun v5 => bV (fNeq false .i (t0 E) v5) fun v6 => k (d3 E v6) H)
 retC))) [fun E _ => some (t3 E)]
def pl186 : Nat × List (Nat × Plan) := (112, [])
noncomputable def c189 : TT → FnC := fnC 3 ((seqC (rg fun T E H k => k (d7 (d6 E (.int .u64 (.ofNat 0))) .nili) H)
 (seqC (seqC (rg fun T E H k => bV (fEql true .s (t0 E) (.str 0 0)) fun v19 => k (d19 E v19) H)
 (condF t19
 (seqC (rg fun T E H k => bV (oIfc 228 (.int .i64 (.ofNat 2))) fun v20 => k (d7 (d6 E (.int .u64 (.ofNat 0))) v20) H)
 retC)
 skipC))
 (seqC (rg fun T E H k => bV (fEql true .i (t1 E) (.int .i64 (.ofNat 0))) fun v22 => k (d8 E v22) H)
 (seqC (rg fun T E H k => k (d9 E (t0 E)) H)
 (seqC (blockC 0 (seqC (rg fun T E H k => bV (fLeq (.int .i64 (.ofNat 2)) (t1 E)) fun v27 => gdH v27 true H (fun rest => bV (some (t1 E)) fun v29 => rest v29 H) fun v29 H => gdH v27 true H (fun rest => bV (fLeq v29 (.int .i64 (.ofNat 36))) fun v30 => rest v30 H) fun v30 H => bV (fPick v27 v30 (.bool false)) fun v31 => k (d25 E v31) H)
 (condF t25
 skipC
 (seqC (rg fun T E H k => bV (fEql true .i (t1 E) (.int .i64 (.ofNat 0))) fun v34 => k (d32 E v34) H)
 (condF t32
 (seqC (rg fun T E H k => k (d1 E (.int .i64 (.ofNat 10))) H)
 (seqC (rg fun T E H k => bV (fIxS (t0 E) (.int .i64 (.ofNat 0))) fun v36 => bV (fEql true .i v36 (.int .u8 (.ofNat 48))) fun v37 => k (d37 E v37) H)
 (condF t37
 (blockC 1 (seqC (rg fun T E H k => bV (fLenS (t0 E)) fun v42 => bV (fGeq v42 (.int .i64 (.ofNat 3))) fun v43 => gdH v43 true H (fun rest => bV (some (t0 E)) fun v45 => rest v45 H) fun v45 H => gdH v43 true H (fun rest => bV (fIxS v45 (.int .i64 (.ofNat 1))) fun v46 => rest v46 H) fun v46 H => gdH v43 true H (fun rest => T 206 [v46] H fun v47 H => rest v47 H) fun v47 H => gdH v43 true H (fun rest => bV (fEql true .i v47 (.int .u8 (.ofNat 98))) fun v48 => rest v48 H) fun v48 H => bV (fPick v43 v48 (.bool false)) fun v49 => k (d40 E v49) H)
 (condF t40
 (seqC (rg fun T E H k => k (d1 E (.int .i64 (.ofNat 2))) H)
 (rg fun T E H k => bV (oSlS true false [(t0 E), (.int .i64 (.ofNat 2))]) fun v51 => k (d0 E v51) H))
 (seqC (rg fun T E H k => bV (fLenS (t0 E)) fun v54 => bV (fGeq v54 (.int .i64 (.ofNat 3))) fun v55 => gdH v55 true H (fun rest => bV (some (t0 E)) fun v57 => rest v57 H) fun v57 H => gdH v55 true H (fun rest => bV (fIxS v57 (.int .i64 (.ofNat 1))) fun v58 => rest v58 H) fun v58 H => gdH v55 true H (fun rest => T 206 [v58] H fun v59 H => rest v59 H) fun v59 H => gdH v55 true H (fun rest => bV (fEql true .i v59 (.int .u8 (.ofNat 111))) fun v60 => rest v60 H) fun v60 H => bV (fPick v55 v60 (.bool false)) fun v61 => k (d52 E v61) H)
 (condF t52
 (seqC (rg fun T E H k => k (d1 E (.int .i64 (.ofNat 8))) H)
 (rg fun T E H k => bV (oSlS true false [(t0 E), (.int .i64 (.ofNat 2))]) fun v63 => k (d0 E v63) H))
 (seqC (rg fun T E H k => bV (fLenS (t0 E)) fun v66 => bV (fGeq v66 (.int .i64 (.ofNat 3))) fun v67 => gdH v67 true H (fun rest => bV (some (t0 E)) fun v69 => rest v69 H) fun v69 H => gdH v67 true H (fun rest => bV (fIxS v69 (.int .i64 (.ofNat 1))) fun v70 => rest v70 H) fun v70 H => gdH v67 true H (fun rest => T 206 [v70] H fun v71 H => rest v71 H) fun v71 H => gdH v67 true H (fun rest => bV (fEql true .i v71 (.int .u8 (.ofNat 120))) fun v72 => rest v72 H) fun v72 H => bV (fPick v67 v72 (.bool false)) fun v73 => k (d64 E v73) H)
 (condF t64
 (seqC (rg fun T E H k => k (d1 E (.int .i64 (.ofNat 16))) H)
 (rg fun T E H k => bV (oSlS true false [(t0 E), (.int .i64 (.ofNat 2))]) fun v75 => k (d0 E v75) H))
 (seqC (rg fun T E H k => k (d1 E (.int .i64 (.ofNat 8))) H)
 (rg fun T E H k => bV (oSlS true false [(t0 E), (.int .i64 (.ofNat 1))]) fun v39 => k (d0 E v39) H)))))))))
 skipC)))
 (seqC (rg fun T E H k => bV (oIfc 228 (.int .i64 (.ofNat 3))) fun v24 => k (d7 (d6 E (.int .u64 (.ofNat 0))) v24) H)
 retC))))))
 (seqC (seqC (rg fun T E H k => bV (fEql true .i (t2 E) (.int .i64 (.ofNat 0))) fun v77 => k (d77 E v77) H)
 (condF t77
 (rg fun T E H k => k (d2 E (.int .i64 (.ofNat 64))) H)
 (seqC (rg fun T E H k => bV (fLss (t2 E) (.int .i64 (.ofNat 0))) fun v79 => gdH v79 false H (fun rest => bV (some (t2 E)) fun v81 => rest v81 H) fun v81 H => gdH v79 false H (fun rest => bV (fGtr v81 (.int .i64 (.ofNat 64))) fun v82 => rest v82 H) fun v82 H => bV (fPick v79 (.bool true) v82) fun v83 => k (d83 E v83) H)
 (condF t83
 (seqC (rg fun T E H k => bV (oIfc 228 (.int .i64 (.ofNat 4))) fun v84 => k (d7 (d6 E (.int .u64 (.ofNat 0))) v84) H)
 retC)
 skipC))))
 (seqC (rg fun T E H k => k (d10 E (.int .u64 (.ofNat 0))) H)
 (seqC (seqC (rg fun T E H k => k (d85 E (t1 E)) H)
 (blockC 2 (seqC (rg fun T E H k => bV (fEql true .i (t85 E) (.int .i64 (.ofNat 10))) fun v91 => k (d90 E v91) H)
 (condF t90
 (rg fun T E H k => k (d10 E (.int .u64 (.ofNat 1844674407370955162))) H)
 (seqC (rg fun T E H k => bV (fEql true .i (t85 E) (.int .i64 (.ofNat 16))) fun v93 => k (d92 E v93) H)
 (condF t92
 (rg fun T E H k => k (d10 E (.int .u64 (.ofNat 1152921504606846976))) H)
 (rg fun T E H k => bV (fInt .u64 (t1 E)) fun v87 => bV (bQuo (.int .u64 (.ofNat 18446744073709551615)) v87) fun v88 => bV (fAdd v88 (.int .u64 (.ofNat 1))) fun v89 => k (d10 E v89) H)))))))
 (seqC (rg fun T E H k => bV (fInt .u64 (t2 E)) fun v95 => bV (bShl (.int .u64 (.ofNat 1)) v95) fun v96 => bV (fSub v96 (.int .u64 (.ofNat 1))) fun v97 => k (d11 E v97) H)
 (seqC (rg fun T E H k => k (d12 E (.bool false)) H)
 (seqC (rg fun T E H k => k (d13 E (.int .u64 (.ofNat 0))) H)
 (seqC (seqC (rg fun T E H k => bM (aBytes 5 (t0 E)) H fun v99 H => bV (fLenV v99) fun v100 => k (d101 (d100 (d99 E v99) v100) (.int .i64 (.ofNat 0))) H)
 (blockC 3 (loopC (seqC (rg fun T E H k => bV (fLss (t101 E) (t100 E)) fun v102 => k (d102 E v102) H)
 (seqC (condF t102
 skipC
 (exitC 3))
 (seqC (blockC 4 (seqC (rg fun T E H k => bV (fIaS 1 (t99 E) (t101 E)) fun v103 => bV (fLd1 v103 H) fun v104 => k (d15 E v104) H)
 (seqC (rg fun T E H k => k (d16 E (.int .u8 (.ofNat 0))) H)
 (seqC (blockC 5 (seqC (rg fun T E H k => bV (fEql true .i (t15 E) (.int .u8 (.ofNat 95))) fun v108 => gdH v108 true H (fun rest => bV (some (t8 E)) fun v110 => rest v110 H) fun v110 H => bV (fPick v108 v110 (.bool false)) fun v111 => k (d106 E v111) H)
 (condF t106
 (seqC (rg fun T E H k => k (d12 E (.bool true)) H)
 (exitC 4))
 (seqC (rg fun T E H k => bV (fLeq (.int .u8 (.ofNat 48)) (t15 E)) fun v114 => gdH v114 true H (fun rest => bV (some (t15 E)) fun v116 => rest v116 H) fun v116 H => gdH v114 true H (fun rest => bV (fLeq v116 (.int .u8 (.ofNat 57))) fun v117 => rest v117 H) fun v117 H => bV (fPick v114 v117 (.bool false)) fun v118 => k (d112 E v118) H)
 (condF t112
 (rg fun T E H k => bV (fSub (t15 E) (.int .u8 (.ofNat 48))) fun v120 => k (d16 E v120) H)
 (seqC (rg fun T E H k => T 206 [(t15 E)] H fun v123 H => bV (fLeq (.int .u8 (.ofNat 97)) v123) fun v124 => gdH v124 true H (fun rest => bV (some (t15 E)) fun v126 => rest v126 H) fun v126 H => gdH v124 true H (fun rest => T 206 [v126] H fun v127 H => rest v127 H) fun v127 H => gdH v124 true H (fun rest => bV (fLeq v127 (.int .u8 (.ofNat 122))) fun v128 => rest v128 H) fun v128 H => bV (fPick v124 v128 (.bool false)) fun v129 => k (d121 E v129) H)
 (condF t121
 (rg fun T E H k => T 206 [(t15 E)] H fun v131 H => bV (fSub v131 (.int .u8 (.ofNat 97))) fun v132 => bV (fAdd v132 (.int .u8 (.ofNat 10))) fun v133 => k (d16 E v133) H)
 (seqC (rg fun T E H k => bV (oIfc 228 (.int .i64 (.ofNat 2))) fun v105 => k (d7 (d6 E (.int .u64 (.ofNat 0))) v105) H)
 retC))))))))
 (seqC (seqC (rg fun T E H k => bV (fInt .u8 (t1 E)) fun v136 => bV (fGeq (t16 E) v136) fun v137 => k (d137 E v137) H)
 (condF t137
 (seqC (rg fun T E H k => bV (oIfc 228 (.int .i64 (.ofNat 2))) fun v138 => k (d7 (d6 E (.int .u64 (.ofNat 0))) v138) H)
 retC)
 skipC))
 (seqC (seqC (rg fun T E H k => bV (fGeq (t13 E) (t10 E)) fun v141 => k (d141 E v141) H)
 (condF t141
 (seqC (rg fun T E H k => bV (oIfc 228 (.int .i64 (.ofNat 1))) fun v143 => k (d7 (d6 E (t11 E)) v143) H)
 retC)
 skipC))
 (seqC (rg fun T E H k => bV (fInt .u64 (t1 E)) fun v146 => bV (fMul (t13 E) v146) fun v147 => k (d13 E v147) H)
 (seqC (rg fun T E H k => bV (fInt .u64 (t16 E)) fun v150 => bV (fAdd (t13 E) v150) fun v151 => k (d17 E v151) H)
 (seqC (seqC (rg fun T E H k => bV (fLss (t17 E) (t13 E)) fun v154 => gdH v154 false H (fun rest => bV (some (t17 E)) fun v156 => rest v156 H) fun v156 H => gdH v154 false H (fun rest => bV (some (t11 E)) fun v157 => rest v157 H) fun v157 H => gdH v154 false H (fun rest => bV (fGtr v156 v157) fun v158 => rest v158 H) fun v158 H => bV (fPick v154 (.bool true) v158) fun v159 => k (d159 E v159) H)
 (condF t159
 (seqC (rg fun T E H k => bV (oIfc 228 (.int .i64 (.ofNat 1))) fun v161 => k (d7 (d6 E (t11 E)) v161) H)
 retC)
 skipC))
 (rg fun T E H k => k (d13 E (t17 E)) H))))))))))
 (rg fun T E H k => bV (fAdd (t101 E) (.int .i64 (.ofNat 1))) fun v163 => k (d101 E v163) H)))))))
 (seqC (seqC (rg fun T E H k => gdH (t12 E) true H (fun rest => bV (some (t9 E)) fun v166 => rest v166 H) fun v166 H => gdH (t12 E) true H (fun rest => T 207 [v166] H fun v167 H => rest v167 H) fun v167 H => gdH (t12 E) true H (fun rest => bV (fNot v167) fun v168 => rest v168 H) fun v168 H => bV (fPick (t12 E) v168 (.bool false)) fun v169 => k (d169 E v169) H)
 (condF t169
 (seqC (rg fun T E H k => bV (oIfc 228 (.int .i64 (.ofNat 2))) fun v170 => k (d7 (d6 E (.int .u64 (.ofNat 0))) v170) H)
 retC)
 skipC))
 (seqC (rg fun T E H k => k (d7 (d6 E (t13 E)) .nili) H)
 retC))))))))))))))) [fun E _ => some (t6 E), fun E _ => some (t7 E)]
def pl189 : Nat × List (Nat × Plan) := (5237291114413470221964124527562332389312007838629888, [])
noncomputable def c195 : TT → FnC := fnC 3 ((seqC (rg fun T E H k => k (d6 E .nils) H)
 (seqC (rg fun T E H k => bV (fLenV (t0 E)) fun v12 => bV (oSlV 5 true true true [(t0 E), v12, (t2 E), (t1 E)]) fun v13 => k E H)
 (seqC (seqC (rg fun T E H k => bV (fEql false .i (t1 E) (t2 E)) fun v16 => k (d16 E v16) H)
 (condF t16
 (seqC (rg fun T E H k => k (d6 E (t0 E)) H)
 retC)
 skipC))
 (seqC (rg fun T E H k => bV (fLenV (t0 E)) fun v19 => k (d7 E v19) H)
 (seqC (rg fun T E H k => bV (oSlV 5 false true false [(t0 E), (t1 E)]) fun v22 => bV (oSlV 5 true false false [(t0 E), (t2 E)]) fun v25 => bE (fApp 130 5 56 v22 v25 H) H fun v26 H => k (d0 E v26) H)
 (seqC (rg fun T E H k => bV (fLenV (t0 E)) fun v29 => bV (oSlV 5 true true false [(t0 E), (t7 E), v29]) fun v31 => bE (fClr [(.str 0 0), (.int .i64 (.ofNat 0)), (.int .i64 (.ofNat 0)), (.str 0 0), (.bool false)] v31 H) H fun _ H => k E H)
 (seqC (rg fun T E H k => k (d6 E (t0 E)) H)
 retC)))))))) [fun E _ => some (t6 E)]
def pl195 : Nat × List (Nat × Plan) := (8589868800, [(5, ⟨[0, 1, 2, 3, 4, 5, 6, 7], [0, 0, 3, 0, 0, 24, 63, 127]⟩)])
noncomputable def c196 : TT → FnC := fnC 2 ((seqC (rg fun T E H k => bM (fBox 73 7 (t0 E)) H fun v2 H => bM (fNew 43 [(.int .u8 (.ofNat 0)), (.int .i64 (.ofNat 0)), (.bool false), (.str 0 0)] []) H fun v4 H => k (d5 (d4 (d2 E v2) v4) (.int .i64 (.ofNat 0))) H)
 (seqC (rg fun T E H k => bV (fLdN 7 (t2 E) H) fun v6 => T 211 [v6, (t1 E), (.fn (.func 212) [] [])] H fun v8 H => bV (fExt 0 v8) fun v9 => bV (fExt 1 v8) fun v10 => bE (fSt 4 (t4 E) v9 H) H fun _ H => k (d5 E v10) H)
 retC))) [fun E H => onPtr (t4 E) fun id off => onOpt (loadN H id off 4) fun l => some (.agg l), fun E _ => some (t5 E)]
def pl196 : Nat × List (Nat × Plan) := (1984, [])
noncomputable def c197 : TT → FnC := fnC 4 ((seqC (rg fun T E H k => k (d8 E (.bool true)) H)
 (seqC (rg fun T E H k => k (d9 E (.bool true)) H)
 (blockC 0 (loopC (blockC 1 (seqC (rg fun T E H k => bV (fSub (t2 E) (t1 E)) fun v21 => k (d10 E v21) H)
 (seqC (seqC (rg fun T E H k => bV (fLeq (t10 E) (.int .i64 (.ofNat 12))) fun v23 => k (d23 E v23) H)
 (condF t23
 (seqC (rg fun T E H k => T 213 [(t0 E), (t1 E), (t2 E)] H fun v27 H => k E H)
 retC)
 skipC))
 (seqC (seqC (rg fun T E H k => bV (fEql true .i (t3 E) (.int .i64 (.ofNat 0))) fun v29 => k (d29 E v29) H)
 (condF t29
 (seqC (rg fun T E H k => T 214 [(t0 E), (t1 E), (t2 E)] H fun v33 H => k E H)
 retC)
 skipC))
 (seqC (seqC (rg fun T E H k => bV (fNot (t8 E)) fun v35 => k (d35 E v35) H)
 (condF t35
 (seqC (rg fun T E H k => T 215 [(t0 E), (t1 E), (t2 E)] H fun v39 H => k E H)
 (rg fun T E H k => bV (fSub (t3 E) (.int .i64 (.ofNat 1))) fun v41 => k (d3 E v41) H))
 skipC))
 (seqC (rg fun T E H k => T 216 [(t0 E), (t1 E), (t2 E)] H fun v46 H => bV (fExt 0 v46) fun v47 => bV (fExt 1 v46) fun v48 => k (d12 (d11 E v47) v48) H)
 (seqC (seqC (rg fun T E H k => bV (fEql true .i (t12 E) (.int .i64 (.ofNat 2))) fun v50 => k (d50 E v50) H)
 (condF t50
 (seqC (rg fun T E H k => T 217 [(t0 E), (t1 E), (t2 E)] H fun v54 H => k E H)
 (seqC (rg fun T E H k => bV (fSub (t2 E) (.int .i64 (.ofNat 1))) fun v56 => bV (fSub (t11 E) (t1 E)) fun v59 => bV (fSub v56 v59) fun v60 => k (d11 E v60) H)
 (rg fun T E H k => k (d12 E (.int .i64 (.ofNat 1))) H)))
 skipC))
 (seqC (seqC (rg fun T E H k => gdH (t8 E) true H (fun rest => bV (some (t9 E)) fun v63 => rest v63 H) fun v63 H => bV (fPick (t8 E) v63 (.bool false)) fun v64 => gdH v64 true H (fun rest => bV (some (t12 E)) fun v66 => rest v66 H) fun v66 H => gdH v64 true H (fun rest => bV (fEql true .i v66 (.int .i64 (.ofNat 1))) fun v67 => rest v67 H) fun v67 H => bV (fPick v64 v67 (.bool false)) fun v68 => k (d68 E v68) H)
 (condF t68
 (seqC (rg fun T E H k => T 218 [(t0 E), (t1 E), (t2 E)] H fun v72 H => k (d72 E v72) H)
 (condF t72
 retC
 skipC))
 skipC))
 (seqC (seqC (rg fun T E H k => bV (fGtr (t1 E) (.int .i64 (.ofNat 0))) fun v74 => gdH v74 true H (fun rest => bV (some (t0 E)) fun v76 => rest v76 H) fun v76 H => gdH v74 true H (fun rest => bV (some (t1 E)) fun v77 => rest v77 H) fun v77 H => gdH v74 true H (fun rest => bV (fSub v77 (.int .i64 (.ofNat 1))) fun v78 => rest v78 H) fun v78 H => gdH v74 true H (fun rest => bV (fIaS 1 v76 v78) fun v79 => rest v79 H) fun v79 H => gdH v74 true H (fun rest => bV (fLd1 v79 H) fun v80 => rest v80 H) fun v80 H => gdH v74 true H (fun rest => bV (some (t0 E)) fun v81 => rest v81 H) fun v81 H => gdH v74 true H (fun rest => bV (some (t11 E)) fun v82 => rest v82 H) fun v82 H => gdH v74 true H (fun rest => bV (fIaS 1 v81 v82) fun v83 => rest v83 H) fun v83 H => gdH v74 true H (fun rest => bV (fLd1 v83 H) fun v84 => rest v84 H) fun v84 H => gdH v74 true H (fun rest => T 219 [v80, v84] H fun v85 H => rest v85 H) fun v85 H => gdH v74 true H (fun rest => bV (fNot v85) fun v86 => rest v86 H) fun v86 H => bV (fPick v74 v86 (.bool false)) fun v87 => k (d87 E v87) H)
 (condF t87
 (seqC (rg fun T E H k => T 220 [(t0 E), (t1 E), (t2 E), (t11 E)] H fun v92 H => k (d13 E v92) H)
 (seqC (rg fun T E H k => k (d1 E (t13 E)) H)
 (exitC 1)))
 skipC))
 (seqC (rg fun T E H k => T 221 [(t0 E), (t1 E), (t2 E), (t11 E)] H fun v99 H => bV (fExt 0 v99) fun v100 => bV (fExt 1 v99) fun v101 => k (d15 (d14 E v100) v101) H)
 (seqC (rg fun T E H k => k (d9 E (t15 E)) H)
 (seqC (rg fun T E H k => bV (fSub (t14 E) (t1 E)) fun v105 => bV (fSub (t2 E) (t14 E)) fun v108 => k (d17 (d16 E v105) v108) H)
 (seqC (rg fun T E H k => bV (bQuo (t10 E) (.int .i64 (.ofNat 8))) fun v110 => k (d18 E v110) H)
 (seqC (rg fun T E H k => bV (fLss (t16 E) (t17 E)) fun v113 => k (d113 E v113) H)
 (condF t113
 (seqC (rg fun T E H k => bV (fGeq (t16 E) (t18 E)) fun v116 => k (d8 E v116) H)
 (seqC (rg fun T E H k => T 197 [(t0 E), (t1 E), (t14 E), (t3 E)] H fun v121 H => k E H)
 (rg fun T E H k => bV (fAdd (t14 E) (.int .i64 (.ofNat 1))) fun v123 => k (d1 E v123) H)))
 (seqC (rg fun T E H k => bV (fGeq (t17 E) (t18 E)) fun v126 => k (d8 E v126) H)
 (seqC (rg fun T E H k => bV (fAdd (t14 E) (.int .i64 (.ofNat 1))) fun v129 => T 197 [(t0 E), v129, (t2 E), (t3 E)] H fun v132 H => k E H)
 (rg fun T E H k => k (d2 E (t14 E)) H))))))))))))))))))))))) []
def pl197 : Nat × List (Nat × Plan) := (21778061098346189844478291628122334298112, [(17, ⟨[0, 1, 2, 3, 4, 5, 6, 7, 8, 9, 10, 11, 12, 13, 14], [0, 1, 3, 7, 7, 23, 63, 127, 7, 7, 775, 1799, 4095, 8191, 16383]⟩)])
noncomputable def c198 : TT → FnC := fnC 1 ((seqC (rg fun T E H k => k (d2 E (.int .i64 (.ofNat 0))) H)
 (seqC (condF (fun _ => (.bool false))
 (seqC (rg fun T E H k => bV (fInt .u32 (t0 E)) fun v4 => T 222 [v4] H fun v5 H => k (d2 E v5) H)
 retC)
 skipC)
 (seqC (rg fun T E H k => T 223 [(t0 E)] H fun v7 H => k (d2 E v7) H)
 retC)))) [fun E _ => some (t2 E)]
def pl198 : Nat × List (Nat × Plan) := (248, [])
noncomputable def c200 : TT → FnC := fnC 2 ((seqC (rg fun T E H k => k (d4 E (.int .i64 (.ofNat 0))) H)
 (seqC (seqC (rg fun T E H k => bV (fLenV (t0 E)) fun v7 => k (d8 (d7 E v7) (.int .i64 (.ofNat 0))) H)
 (blockC 0 (loopC (seqC (rg fun T E H k => bV (fLss (t8 E) (t7 E)) fun v9 => k (d9 E v9) H)
 (seqC (condF t9
 skipC
 (exitC 0))
 (seqC (blockC 1 (seqC (rg fun T E H k => k (d5 E (t8 E)) H)
 (seqC (rg fun T E H k => bV (fIaS 7 (t0 E) (t5 E)) fun v14 => bV (fLdN 7 v14 H) fun v15 => onFnV [(t1 E), v15] fun f l => T f l H fun v16 H => k (d16 E v16) H)
 (condF t16
 (seqC (rg fun T E H k => k (d4 E (t5 E)) H)
 retC)
 skipC))))
 (rg fun T E H k => bV (fAdd (t8 E) (.int .i64 (.ofNat 1))) fun v18 => k (d8 E v18) H)))))))
 (seqC (rg fun T E H k => k (d4 E (.int .i64 (.negSucc 0))) H)
 retC)))) [fun E _ => some (t4 E)]
def pl200 : Nat × List (Nat × Plan) := (457792, [])
noncomputable def c201 : TT → FnC := fnC 2 ((seqC (rg fun T E H k => k (d4 E (.int .i64 (.ofNat 0))) H)
 (seqC (seqC (rg fun T E H k => bV (fLenV (t0 E)) fun v7 => k (d8 (d7 E v7) (.int .i64 (.ofNat 0))) H)
 (blockC 0 (loopC (seqC (rg fun T E H k => bV (fLss (t8 E) (t7 E)) fun v9 => k (d9 E v9) H)
 (seqC (condF t9
 skipC
 (exitC 0))
 (seqC (blockC 1 (seqC (rg fun T E H k => k (d5 E (t8 E)) H)
 (seqC (rg fun T E H k => bV (fIaS 1 (t0 E) (t5 E)) fun v14 => bV (fLd1 v14 H) fun v15 => onFnV [(t1 E), v15] fun f l => T f l H fun v16 H => k (d16 E v16) H)
 (condF t16
 (seqC (rg fun T E H k => k (d4 E (t5 E)) H)
 retC)
 skipC))))
 (rg fun T E H k => bV (fAdd (t8 E) (.int .i64 (.ofNat 1))) fun v18 => k (d8 E v18) H)))))))
 (seqC (rg fun T E H k => k (d4 E (.int .i64 (.negSucc 0))) H)
 retC)))) [fun E _ => some (t4 E)]
def pl201 : Nat × List (Nat × Plan) := (457792, [])
noncomputable def c211 : TT → FnC := fnC 3 ((seqC (rg fun T E H k => bM (fBox 73 7 (t0 E)) H fun v3 H => bM (fNew 43 [(.int .u8 (.ofNat 0)), (.int .i64 (.ofNat 0)), (.bool false), (.str 0 0)] []) H fun v6 H => k (d7 (d6 (d3 E v3) v6) (.int .i64 (.ofNat 0))) H)
 (seqC (seqC (rg fun T E H k => bV (fLdN 7 (t3 E) H) fun v9 => T 162 [v9] H fun v10 H => bV (fNot v10) fun v11 => k (d11 E v11) H)
 (condF t11
 (seqC (rg fun T E H k => bV (fAgg [(.int .u8 (.ofNat 0)), (.int .i64 (.ofNat 0)), (.bool false), (.str 0 0)] [] []) fun v12 => bE (fSt 4 (t6 E) v12 H) H fun _ H => k (d7 E (.int .i64 (.ofNat 1))) H)
 retC)
 skipC))
 (seqC (rg fun T E H k => T 227 [] H fun v15 H => bV (fAgg [.nils, .nilf, .nilm] [(0, 1), (1, 1), (2, 1)] [(t1 E), (t2 E), v15]) fun v16 => bM (fBox 272 3 v16) H fun v17 H => k (d8 E v17) H)
 (seqC (rg fun T E H k => bV (fLdN 7 (t3 E) H) fun v19 => T 228 [(t8 E), v19] H fun v20 H => bV (fExt 0 v20) fun v21 => bV (fExt 1 v20) fun v22 => bE (fSt 4 (t6 E) v21 H) H fun _ H => k (d7 E v22) H)
 retC))))) [fun E H => onPtr (t6 E) fun id off => onOpt (loadN H id off 4) fun l => some (.agg l), fun E _ => some (t7 E)]
def pl211 : Nat × List (Nat × Plan) := (8386048, [])
noncomputable def c212 : TT → FnC := fnC 1 (skipC) []
def pl212 : Nat × List (Nat × Plan) := (0, [])
noncomputable def c213 : TT → FnC := fnC 3 ((seqC (rg fun T E H k => bV (fAdd (t1 E) (.int .i64 (.ofNat 1))) fun v9 => k (d6 E v9) H)
 (blockC 0 (loopC (seqC (seqC (rg fun T E H k => bV (fLss (t6 E) (t2 E)) fun v12 => k (d12 E v12) H)
 (condF t12
 skipC
 (exitC 0)))
 (seqC (blockC 1 (seqC (rg fun T E H k => k (d7 E (t6 E)) H)
 (blockC 2 (loopC (seqC (seqC (rg fun T E H k => bV (fGtr (t7 E) (t1 E)) fun v18 => gdH v18 true H (fun rest => bV (some (t0 E)) fun v20 => rest v20 H) fun v20 H => gdH v18 true H (fun rest => bV (some (t7 E)) fun v21 => rest v21 H) fun v21 H => gdH v18 true H (fun rest => bV (fIaS 1 v20 v21) fun v22 => rest v22 H) fun v22 H => gdH v18 true H (fun rest => bV (fLd1 v22 H) fun v23 => rest v23 H) fun v23 H => gdH v18 true H (fun rest => bV (some (t0 E)) fun v24 => rest v24 H) fun v24 H => gdH v18 true H (fun rest => bV (some (t7 E)) fun v25 => rest v25 H) fun v25 H => gdH v18 true H (fun rest => bV (fSub v25 (.int .i64 (.ofNat 1))) fun v26 => rest v26 H) fun v26 H => gdH v18 true H (fun rest => bV (fIaS 1 v24 v26) fun v27 => rest v27 H) fun v27 H => gdH v18 true H (fun rest => bV (fLd1 v27 H) fun v28 => rest v28 H) fun v28 H => gdH v18 true H (fun rest => T 219 [v23, v28] H fun v29 H => rest v29 H) fun v29 H => bV (fPick v18 v29 (.bool false)) fun v30 => k (d30 E v30) H)
 (condF t30
 skipC
 (exitC 2)))
 (seqC (blockC 3 (rg fun T E H k => bV (fSub (t7 E) (.int .i64 (.ofNat 1))) fun v37 => bV (fSub (t7 E) (.int .i64 (.ofNat 1))) fun v40 => bV (fIaS 1 (t0 E) v40) fun v41 => bV (fLd1 v41 H) fun v42 => bV (fIaS 1 (t0 E) (t7 E)) fun v45 => bV (fLd1 v45 H) fun v46 => bV (fIaS 1 (t0 E) (t7 E)) fun v47 => bE (fSt 1 v47 v42 H) H fun _ H => bV (fIaS 1 (t0 E) v37) fun v48 => bE (fSt 1 v48 v46 H) H fun _ H => k E H))
 (rg fun T E H k => bV (fSub (t7 E) (.int .i64 (.ofNat 1))) fun v32 => k (d7 E v32) H)))))))
 (rg fun T E H k => bV (fAdd (t6 E) (.int .i64 (.ofNat 1))) fun v14 => k (d6 E v14) H))))))) []
def pl213 : Nat × List (Nat × Plan) := (562948879675136, [(4, ⟨[0, 1, 2, 3, 4, 5, 6, 7, 8, 9, 10, 11, 12, 13, 14], [0, 0, 3, 7, 15, 15, 63, 127, 15, 15, 527, 1807, 3855, 8191, 16383]⟩), (6, ⟨[0, 1, 2, 3, 4, 5, 6, 7, 8, 9, 10, 11, 12, 13, 14, 15, 16, 17], [0, 0, 0, 0, 8, 0, 0, 64, 224, 480, 0, 0, 3072, 7168, 16355, 32739, 65535, 131071]⟩)])
noncomputable def c219 : TT → FnC := fnC 2 ((seqC (rg fun T E H k => k (d4 E (.bool false)) H)
 (seqC (rg fun T E H k => T 160 [(t0 E)] H fun v6 H => gdH v6 true H (fun rest => bV (some (t1 E)) fun v8 => rest v8 H) fun v8 H => gdH v6 true H (fun rest => T 160 [v8] H fun v9 H => rest v9 H) fun v9 H => gdH v6 true H (fun rest => bV (fNot v9) fun v10 => rest v10 H) fun v10 H => bV (fPick v6 v10 (.bool false)) fun v11 => gdH v11 false H (fun rest => bV (some (t0 E)) fun v13 => rest v13 H) fun v13 H => gdH v11 false H (fun rest => bV (some (t1 E)) fun v14 => rest v14 H) fun v14 H => gdH v11 false H (fun rest => bV (fLss v13 v14) fun v15 => rest v15 H) fun v15 H => bV (fPick v11 (.bool true) v15) fun v16 => k (d4 E v16) H)
 retC))) [fun E _ => some (t4 E)]
def pl219 : Nat × List (Nat × Plan) := (131040, [])
noncomputable def c223 : TT → FnC := fnC 1 ((seqC (rg fun T E H k => k (d2 E (.int .i64 (.ofNat 0))) H)
 (seqC (seqC (rg fun T E H k => bV (fGeq (t0 E) (.int .u64 (.ofNat 4294967296))) fun v4 => k (d4 E v4) H)
 (condF t4
 (seqC (rg fun T E H k => bV (bShr (t0 E) (.int .u64 (.ofNat 32))) fun v6 => k (d0 E v6) H)
 (rg fun T E H k => k (d2 E (.int .i64 (.ofNat 32))) H))
 skipC))
 (seqC (seqC (rg fun T E H k => bV (fGeq (t0 E) (.int .u64 (.ofNat 65536))) fun v8 => k (d8 E v8) H)
 (condF t8
 (seqC (rg fun T E H k => bV (bShr (t0 E) (.int .u64 (.ofNat 16))) fun v10 => k (d0 E v10) H)
 (rg fun T E H k => bV (fAdd (t2 E) (.int .i64 (.ofNat 16))) fun v12 => k (d2 E v12) H))
 skipC))
 (seqC (seqC (rg fun T E H k => bV (fGeq (t0 E) (.int .u64 (.ofNat 256))) fun v14 => k (d14 E v14) H)
 (condF t14
 (seqC (rg fun T E H k => bV (bShr (t0 E) (.int .u64 (.ofNat 8))) fun v16 => k (d0 E v16) H)
 (rg fun T E H k => bV (fAdd (t2 E) (.int .i64 (.ofNat 8))) fun v18 => k (d2 E v18) H))
 skipC))
 (seqC (rg fun T E H k => bV (fInt .u8 (t0 E)) fun v21 => bV (fIxS (.str 256 496986003408712215933005303621146343841837811690876167382323004466384420695090407243345123874780946046625255262057845613767806773758184921447759720770971536008171983842311960805720366577116933250839345203839274948261284255908394484732272583221484877694546905335834403051067785895034095251181560891789708940188598129052595634438001880866652824740680664595948164050600812232986714152902334120417949232733424961741260388658846598210939813666227264727603044226856020347194099943897342244906131705541414413428559898943151040826816076322978570758226444464494629814583418847495712557856038296917933182380796641777551368) v21) fun v22 => bV (fInt .i64 v22) fun v23 => bV (fAdd (t2 E) v23) fun v24 => k (d2 E v24) H)
 retC)))))) [fun E _ => some (t2 E)]
def pl223 : Nat × List (Nat × Plan) := (33537768, [])
noncomputable def c227 : TT → FnC := fnC 0 ((seqC (rg fun T E H k => k (d0 E .nilm) H)
 (seqC (rg fun T E H k => bM (aMap []) H fun v1 H => bE (oMu .i v1 (.int .u8 (.ofNat 7)) (.fn (.func 236) [] []) H) H fun _ H => bE (oMu .i v1 (.int .u8 (.ofNat 8)) (.fn (.func 238) [] []) H) H fun _ H => bE (oMu .i v1 (.int .u8 (.ofNat 9)) (.fn (.func 239) [] []) H) H fun _ H => bE (oMu .i v1 (.int .u8 (.ofNat 12)) (.fn (.func 241) [] []) H) H fun _ H => bE (oMu .i v1 (.int .u8 (.ofNat 11)) (.fn (.func 242) [] []) H) H fun _ H => bE (oMu .i v1 (.int .u8 (.ofNat 10)) (.fn (.func 243) [] []) H) H fun _ H => bE (oMu .i v1 (.int .u8 (.ofNat 13)) (.fn (.func 244) [] []) H) H fun _ H => bE (oMu .i v1 (.int .u8 (.ofNat 14)) (.fn (.func 245) [] []) H) H fun _ H => bE (oMu .i v1 (.int .u8 (.ofNat 15)) (.fn (.func 246) [] []) H) H fun _ H => bE (oMu .i v1 (.int .u8 (.ofNat 16)) (.fn (.func 247) [] []) H) H fun _ H => bE (oMu .i v1 (.int .u8 (.ofNat 17)) (.fn (.func 248) [] []) H) H fun _ H => k (d0 E v1) H)
 retC))) [fun E _ => some (t0 E)]
def pl227 : Nat × List (Nat × Plan) := (6, [])
noncomputable def c228 : TT → FnC := fnC 2 ((seqC (rg fun T E H k => bM (fBox 73 7 (t1 E)) H fun v3 H => bM (fNew 43 [(.int .u8 (.ofNat 0)), (.int .i64 (.ofNat 0)), (.bool false), (.str 0 0)] []) H fun v4 H => k (d5 (d4 (d3 E v3) v4) (.int .i64 (.ofNat 0))) H)
 (seqC (seqC (rg fun T E H k => bV (fFad 0 (t3 E)) fun v13 => bV (fLd1 v13 H) fun v14 => k (d14 E v14) H)
 (blockC 0 (seqC (rg fun T E H k => bV (fEql true .i (t14 E) (.int .u8 (.ofNat 1))) fun v16 => k (d15 E v16) H)
 (condF t15
 (seqC (rg fun T E H k => bV (fFad 1 (t3 E)) fun v17 => bV (fLdN 4 v17 H) fun v18 => bE (fSt 4 (t4 E) v18 H) H fun _ H => k (d5 E (.int .i64 (.ofNat 0))) H)
 retC)
 (seqC (rg fun T E H k => bV (fEql true .i (t14 E) (.int .u8 (.ofNat 2))) fun v20 => k (d19 E v20) H)
 (condF t19
 (seqC (rg fun T E H k => bV (fNilchk (t0 E)) fun v23 => bV (fFad 0 v23) fun v24 => bV (fLd1 v24 H) fun v25 => bV (fFad 5 (t3 E)) fun v26 => bV (fLd1 v26 H) fun v27 => T 78 [v25, v27] H fun v28 H => bV (fExt 0 v28) fun v29 => bV (fExt 1 v28) fun v30 => bM (fNew 43 [(.int .u8 (.ofNat 0)), (.int .i64 (.ofNat 0)), (.bool false), (.str 0 0)] []) H fun v6 H => bE (fSt 4 v6 v29 H) H fun _ H => k (d7 (d6 E v6) v30) H)
 (seqC (blockC 1 (seqC (rg fun T E H k => bV (fNot (t7 E)) fun v33 => k (d31 E v33) H)
 (condF t31
 (seqC (rg fun T E H k => bV (fAgg [(.int .u8 (.ofNat 0)), (.int .i64 (.ofNat 0)), (.bool false), (.str 0 0)] [] []) fun v34 => bE (fSt 4 (t4 E) v34 H) H fun _ H => k (d5 E (.int .i64 (.ofNat 100))) H)
 retC)
 (seqC (rg fun T E H k => bV (fLdN 4 (t6 E) H) fun v36 => T 70 [v36] H fun v37 H => bV (fNeq true .i v37 (.int .i64 (.ofNat 0))) fun v38 => k (d35 E v38) H)
 (condF t35
 (seqC (rg fun T E H k => bV (fAgg [(.int .u8 (.ofNat 0)), (.int .i64 (.ofNat 0)), (.bool false), (.str 0 0)] [] []) fun v39 => bE (fSt 4 (t4 E) v39 H) H fun _ H => k (d5 E (.int .i64 (.ofNat 1))) H)
 retC)
 skipC)))))
 (seqC (rg fun T E H k => bV (fNilchk (t0 E)) fun v41 => bV (fFad 1 v41) fun v42 => bV (fLd1 v42 H) fun v43 => bV (fFad 5 (t3 E)) fun v44 => bV (fLd1 v44 H) fun v45 => onFnV [v43, v45] fun f l => T f l H fun v46 H => k E H)
 (seqC (rg fun T E H k => bV (fLdN 4 (t6 E) H) fun v47 => bE (fSt 4 (t4 E) v47 H) H fun _ H => k (d5 E (.int .i64 (.ofNat 0))) H)
 retC))))
 skipC))))))
 (seqC (rg fun T E H k => bV (fFad 6 (t3 E)) fun v50 => bV (fLd1 v50 H) fun v51 => bV (fIaS 7 v51 (.int .i64 (.ofNat 0))) fun v52 => bV (fLdN 7 v52 H) fun v53 => T 228 [(t0 E), v53] H fun v54 H => bV (fExt 0 v54) fun v55 => bV (fExt 1 v54) fun v56 => bM (fNew 43 [(.int .u8 (.ofNat 0)), (.int .i64 (.ofNat 0)), (.bool false), (.str 0 0)] []) H fun v8 H => bE (fSt 4 v8 v55 H) H fun _ H => k (d9 (d8 E v8) v56) H)
 (seqC (seqC (rg fun T E H k => bV (fNeq true .i (t9 E) (.int .i64 (.ofNat 0))) fun v58 => k (d58 E v58) H)
 (condF t58
 (seqC (rg fun T E H k => bV (fAgg [(.int .u8 (.ofNat 0)), (.int .i64 (.ofNat 0)), (.bool false), (.str 0 0)] [] []) fun v59 => bE (fSt 4 (t4 E) v59 H) H fun _ H => k (d5 E (t9 E)) H)
 retC)
 skipC))
 (seqC (seqC (rg fun T E H k => bV (fFad 0 (t3 E)) fun v61 => bV (fLd1 v61 H) fun v62 => k (d62 E v62) H)
 (blockC 2 (seqC (rg fun T E H k => bV (fEql true .i (t62 E) (.int .u8 (.ofNat 4))) fun v64 => k (d63 E v64) H)
 (condF t63
 (seqC (rg fun T E H k => bV (fLdN 4 (t8 E) H) fun v65 => T 249 [v65] H fun v66 H => bV (fExt 0 v66) fun v67 => bV (fExt 1 v66) fun v68 => bE (fSt 4 (t4 E) v67 H) H fun _ H => k (d5 E v68) H)
 retC)
 (seqC (seqC (rg fun T E H k => bV (fEql true .i (t62 E) (.int .u8 (.ofNat 3))) fun v70 => k (d69 E v70) H)
 (condF t69
 skipC
 (seqC (rg fun T E H k => bV (fEql true .i (t62 E) (.int .u8 (.ofNat 5))) fun v71 => k (d69 E v71) H)
 (condF t69
 skipC
 (rg fun T E H k => bV (fEql true .i (t62 E) (.int .u8 (.ofNat 6))) fun v72 => k (d69 E v72) H)))))
 (condF t69
 (seqC (seqC (rg fun T E H k => bV (fFad 0 (t8 E)) fun v73 => bV (fLd1 v73 H) fun v74 => bV (fNeq true .i v74 (.int .u8 (.ofNat 2))) fun v75 => k (d75 E v75) H)
 (condF t75
 (seqC (rg fun T E H k => bV (fAgg [(.int .u8 (.ofNat 0)), (.int .i64 (.ofNat 0)), (.bool false), (.str 0 0)] [] []) fun v76 => bE (fSt 4 (t4 E) v76 H) H fun _ H => k (d5 E (.int .i64 (.ofNat 90))) H)
 retC)
 skipC))
 (seqC (seqC (rg fun T E H k => bV (fFad 0 (t3 E)) fun v77 => bV (fLd1 v77 H) fun v78 => bV (fEql true .i v78 (.int .u8 (.ofNat 3))) fun v79 => k (d79 E v79) H)
 (condF t79
 (seqC (rg fun T E H k => bV (fFad 2 (t8 E)) fun v80 => bV (fLd1 v80 H) fun v81 => bV (fNot v81) fun v82 => T 123 [v82] H fun v83 H => bE (fSt 4 (t4 E) v83 H) H fun _ H => k (d5 E (.int .i64 (.ofNat 0))) H)
 retC)
 skipC))
 (seqC (rg fun T E H k => bV (fFad 2 (t8 E)) fun v84 => bV (fLd1 v84 H) fun v85 => bV (fFad 0 (t3 E)) fun v86 => bV (fLd1 v86 H) fun v87 => bV (fEql true .i v87 (.int .u8 (.ofNat 6))) fun v88 => bV (fEql false .b v85 v88) fun v89 => k (d89 E v89) H)
 (condF t89
 (seqC (rg fun T E H k => bV (fLdN 4 (t8 E) H) fun v90 => bE (fSt 4 (t4 E) v90 H) H fun _ H => k (d5 E (.int .i64 (.ofNat 0))) H)
 retC)
 skipC))))
 skipC))))))
 (seqC (rg fun T E H k => bV (fFad 6 (t3 E)) fun v93 => bV (fLd1 v93 H) fun v94 => bV (fIaS 7 v94 (.int .i64 (.ofNat 1))) fun v95 => bV (fLdN 7 v95 H) fun v96 => T 228 [(t0 E), v96] H fun v97 H => bV (fExt 0 v97) fun v98 => bV (fExt 1 v97) fun v99 => bM (fNew 43 [(.int .u8 (.ofNat 0)), (.int .i64 (.ofNat 0)), (.bool false), (.str 0 0)] []) H fun v10 H => bE (fSt 4 v10 v98 H) H fun _ H => k (d9 (d10 E v10) v99) H)
 (seqC (seqC (rg fun T E H k => bV (fNeq true .i (t9 E) (.int .i64 (.ofNat 0))) fun v101 => k (d101 E v101) H)
 (condF t101
 (seqC (rg fun T E H k => bV (fAgg [(.int .u8 (.ofNat 0)), (.int .i64 (.ofNat 0)), (.bool false), (.str 0 0)] [] []) fun v102 => bE (fSt 4 (t4 E) v102 H) H fun _ H => k (d5 E (t9 E)) H)
 retC)
 skipC))
 (seqC (rg fun T E H k => bV (fNilchk (t0 E)) fun v106 => bV (fFad 2 v106) fun v107 => bV (fLd1 v107 H) fun v108 => bV (fFad 0 (t3 E)) fun v109 => bV (fLd1 v109 H) fun v110 => bV (oLk .i .nilf true v108 v110 H) fun v111 => bV (fExt 0 v111) fun v112 => bV (fExt 1 v111) fun v113 => k (d12 (d11 E v112) v113) H)
 (seqC (blockC 3 (seqC (rg fun T E H k => k (d114 E (t12 E)) H)
 (condF t114
 (seqC (rg fun T E H k => bV (fLdN 4 (t8 E) H) fun v117 => bV (fLdN 4 (t10 E) H) fun v118 => onFnV [(t11 E), v117, v118] fun f l => T f l H fun v119 H => bV (fExt 0 v119) fun v120 => bV (fExt 1 v119) fun v121 => bE (fSt 4 (t4 E) v120 H) H fun _ H => k (d5 E v121) H)
 retC)
 (seqC (rg fun T E H k => bV (fFad 0 (t10 E)) fun v123 => bV (fLd1 v123 H) fun v124 => bV (fNeq true .i v124 (.int .u8 (.ofNat 2))) fun v125 => k (d122 E v125) H)
 (condF t122
 (seqC (rg fun T E H k => bV (fAgg [(.int .u8 (.ofNat 0)), (.int .i64 (.ofNat 0)), (.bool false), (.str 0 0)] [] []) fun v126 => bE (fSt 4 (t4 E) v126 H) H fun _ H => k (d5 E (.int .i64 (.ofNat 90))) H)
 retC)
 skipC)))))
 (seqC (rg fun T E H k => bV (fLdN 4 (t10 E) H) fun v127 => bE (fSt 4 (t4 E) v127 H) H fun _ H => k (d5 E (.int .i64 (.ofNat 0))) H)
 retC))))))))))) [fun E H => onPtr (t4 E) fun id off => onOpt (loadN H id off 4) fun l => some (.agg l), fun E _ => some (t5 E)]
def pl228 : Nat × List (Nat × Plan) := (334944683214443847338882994976077586432, [(5, ⟨[0, 1, 2, 3, 4, 5, 6, 7, 8, 9, 10, 11, 12], [0, 1, 3, 7, 0, 16, 63, 127, 255, 255, 0, 1535, 4095]⟩), (10, ⟨[0, 1, 2, 3, 4, 5, 6], [0, 1, 3, 7, 0, 16, 63]⟩), (30, ⟨[0, 1, 2, 3, 4, 5, 6, 7, 8, 9, 10, 11], [0, 1, 3, 7, 0, 16, 63, 127, 255, 255, 511, 2047]⟩)])
noncomputable def c236 : TT → FnC := fnC 2 ((seqC (rg fun T E H k => bM (fBox 43 4 (t0 E)) H fun v2 H => bM (fBox 43 4 (t1 E)) H fun v3 H => bM (fNew 43 [(.int .u8 (.ofNat 0)), (.int .i64 (.ofNat 0)), (.bool false), (.str 0 0)] []) H fun v4 H => k (d5 (d4 (d3 (d2 E v2) v3) v4) (.int .i64 (.ofNat 0))) H)
 (seqC (rg fun T E H k => bV (fLdN 4 (t2 E) H) fun v6 => bV (fLdN 4 (t3 E) H) fun v7 => T 237 [v6, v7, (.bool true)] H fun v8 H => bV (fExt 0 v8) fun v9 => bV (fExt 1 v8) fun v10 => bE (fSt 4 (t4 E) v9 H) H fun _ H => k (d5 E v10) H)
 retC))) [fun E H => onPtr (t4 E) fun id off => onOpt (loadN H id off 4) fun l => some (.agg l), fun E _ => some (t5 E)]
def pl236 : Nat × List (Nat × Plan) := (1984, [])
noncomputable def c237 : TT → FnC := fnC 3 ((seqC (rg fun T E H k => bM (fBox 43 4 (t0 E)) H fun v3 H => bM (fBox 43 4 (t1 E)) H fun v4 H => bM (fNew 43 [(.int .u8 (.ofNat 0)), (.int .i64 (.ofNat 0)), (.bool false), (.str 0 0)] []) H fun v6 H => k (d7 (d6 (d4 (d3 E v3) v4) v6) (.int .i64 (.ofNat 0))) H)
 (seqC (seqC (rg fun T E H k => bV (fFad 0 (t3 E)) fun v8 => bV (fLd1 v8 H) fun v9 => bV (fFad 0 (t4 E)) fun v10 => bV (fLd1 v10 H) fun v11 => bV (fNeq false .i v9 v11) fun v12 => k (d12 E v12) H)
 (condF t12
 (seqC (rg fun T E H k => bV (fAgg [(.int .u8 (.ofNat 0)), (.int .i64 (.ofNat 0)), (.bool false), (.str 0 0)] [] []) fun v13 => bE (fSt 4 (t6 E) v13 H) H fun _ H => k (d7 E (.int .i64 (.ofNat 90))) H)
 retC)
 skipC))
 (seqC (rg fun T E H k => bV (fLdN 4 (t3 E) H) fun v14 => bV (fLdN 4 (t4 E) H) fun v15 => T 256 [v14, v15] H fun v16 H => bV (fEql false .b v16 (t2 E)) fun v18 => T 255 [v18, (.int .i64 (.ofNat 0))] H fun v19 H => bV (fExt 0 v19) fun v20 => bV (fExt 1 v19) fun v21 => bE (fSt 4 (t6 E) v20 H) H fun _ H => k (d7 E v21) H)
 retC)))) [fun E H => onPtr (t6 E) fun id off => onOpt (loadN H id off 4) fun l => some (.agg l), fun E _ => some (t7 E)]
def pl237 : Nat × List (Nat × Plan) := (4189952, [])
noncomputable def c247 : TT → FnC := fnC 2 ((seqC (rg fun T E H k => bM (fBox 43 4 (t0 E)) H fun v2 H => bM (fBox 43 4 (t1 E)) H fun v3 H => bM (fNew 43 [(.int .u8 (.ofNat 0)), (.int .i64 (.ofNat 0)), (.bool false), (.str 0 0)] []) H fun v4 H => k (d5 (d4 (d3 (d2 E v2) v3) v4) (.int .i64 (.ofNat 0))) H)
 (seqC (seqC (rg fun T E H k => bV (fLdN 4 (t2 E) H) fun v7 => bV (fLdN 4 (t3 E) H) fun v8 => bM (fSlice 43 2 [(.int .u8 (.ofNat 0)), (.int .i64 (.ofNat 0)), (.bool false), (.str 0 0), (.int .u8 (.ofNat 0)), (.int .i64 (.ofNat 0)), (.bool false), (.str 0 0)] [(0, 4), (4, 4)] [v7, v8]) H fun v9 H => T 259 [v9] H fun v10 H => k (d6 E v10) H)
 (seqC (rg fun T E H k => bV (fNeq true .i (t6 E) (.int .i64 (.ofNat 0))) fun v12 => k (d12 E v12) H)
 (condF t12
 (seqC (rg fun T E H k => bV (fAgg [(.int .u8 (.ofNat 0)), (.int .i64 (.ofNat 0)), (.bool false), (.str 0 0)] [] []) fun v13 => bE (fSt 4 (t4 E) v13 H) H fun _ H => k (d5 E (t6 E)) H)
 retC)
 skipC)))
 (seqC (seqC (rg fun T E H k => bV (fFad 1 (t3 E)) fun v15 => bV (fLd1 v15 H) fun v16 => bV (fEql true .i v16 (.int .i64 (.ofNat 0))) fun v17 => gdH v17 false H (fun rest => bV (fFad 1 (t2 E)) fun v19 => rest v19 H) fun v19 H => gdH v17 false H (fun rest => bV (fLd1 v19 H) fun v20 => rest v20 H) fun v20 H => gdH v17 false H (fun rest => bV (fEql true .i v20 (.int .i64 (.negSucc 9223372036854775807))) fun v21 => rest v21 H) fun v21 H => gdH v17 false H (fun rest => bV (some v21) fun v22 => rest v22 H) fun v22 H => gdH v22 true H (fun rest => bV (fFad 1 (t3 E)) fun v23 => rest v23 H) fun v23 H => gdH v22 true H (fun rest => bV (fLd1 v23 H) fun v24 => rest v24 H) fun v24 H => gdH v22 true H (fun rest => bV (fEql true .i v24 (.int .i64 (.negSucc 0))) fun v25 => rest v25 H) fun v25 H => gdH v17 false H (fun rest => bV (fPick v22 v25 (.bool false)) fun v26 => rest v26 H) fun v26 H => bV (fPick v17 (.bool true) v26) fun v27 => k (d27 E v27) H)
 (condF t27
 (seqC (rg fun T E H k => T 260 [(.int .i64 (.ofNat 0)), (.bool false)] H fun v28 H => bV (fExt 0 v28) fun v29 => bV (fExt 1 v28) fun v30 => bE (fSt 4 (t4 E) v29 H) H fun _ H => k (d5 E v30) H)
 retC)
 skipC))
 (seqC (rg fun T E H k => bV (fFad 1 (t2 E)) fun v31 => bV (fLd1 v31 H) fun v32 => bV (fFad 1 (t3 E)) fun v33 => bV (fLd1 v33 H) fun v34 => bV (bQuo v32 v34) fun v35 => T 260 [v35, (.bool true)] H fun v36 H => bV (fExt 0 v36) fun v37 => bV (fExt 1 v36) fun v38 => bE (fSt 4 (t4 E) v37 H) H fun _ H => k (d5 E v38) H)
 retC))))) [fun E H => onPtr (t4 E) fun id off => onOpt (loadN H id off 4) fun l => some (.agg l), fun E _ => some (t5 E)]
def pl247 : Nat × List (Nat × Plan) := (549621591936, [])
noncomputable def c255 : TT → FnC := fnC 2 ((seqC (rg fun T E H k => bM (fNew 43 [(.int .u8 (.ofNat 0)), (.int .i64 (.ofNat 0)), (.bool false), (.str 0 0)] []) H fun v4 H => k (d5 (d4 E v4) (.int .i64 (.ofNat 0))) H)
 (seqC (seqC (rg fun T E H k => bV (fNeq true .i (t1 E) (.int .i64 (.ofNat 0))) fun v7 => k (d7 E v7) H)
 (condF t7
 (seqC (rg fun T E H k => bV (fAgg [(.int .u8 (.ofNat 0)), (.int .i64 (.ofNat 0)), (.bool false), (.str 0 0)] [] []) fun v8 => bE (fSt 4 (t4 E) v8 H) H fun _ H => k (d5 E (t1 E)) H)
 retC)
 skipC))
 (seqC (rg fun T E H k => T 123 [(t0 E)] H fun v11 H => bE (fSt 4 (t4 E) v11 H) H fun _ H => k (d5 E (.int .i64 (.ofNat 0))) H)
 retC)))) [fun E H => onPtr (t4 E) fun id off => onOpt (loadN H id off 4) fun l => some (.agg l), fun E _ => some (t5 E)]
def pl255 : Nat × List (Nat × Plan) := (3904, [])
noncomputable def c256 : TT → FnC := fnC 2 ((seqC (rg fun T E H k => bM (fBox 43 4 (t0 E)) H fun v2 H => bM (fBox 43 4 (t1 E)) H fun v3 H => k (d4 (d3 (d2 E v2) v3) (.bool false)) H)
 (seqC (rg fun T E H k => bV (fLdN 4 (t2 E) H) fun v5 => bV (fLdN 4 (t3 E) H) fun v6 => bV (fEql false (.agg [.i, .i, .b, .s]) v5 v6) fun v7 => k (d4 E v7) H)
 retC))) [fun E _ => some (t4 E)]
def pl256 : Nat × List (Nat × Plan) := (224, [])
noncomputable def c259 : TT → FnC := fnC 1 ((seqC (rg fun T E H k => k (d2 E (.int .i64 (.ofNat 0))) H)
 (seqC (seqC (rg fun T E H k => bV (fLenV (t0 E)) fun v6 => k (d7 (d6 (d5 E (t0 E)) v6) (.int .i64 (.ofNat 0))) H)
 (blockC 0 (loopC (seqC (rg fun T E H k => bV (fLss (t7 E) (t6 E)) fun v8 => k (d8 E v8) H)
 (seqC (condF t8
 skipC
 (exitC 0))
 (seqC (blockC 1 (seqC (rg fun T E H k => bV (fIaS 4 (t5 E) (t7 E)) fun v9 => bV (fLdN 4 v9 H) fun v10 => bM (fNew 43 [(.int .u8 (.ofNat 0)), (.int .i64 (.ofNat 0)), (.bool false), (.str 0 0)] []) H fun v4 H => bE (fSt 4 v4 v10 H) H fun _ H => k (d4 E v4) H)
 (seqC (rg fun T E H k => bV (fFad 0 (t4 E)) fun v11 => bV (fLd1 v11 H) fun v12 => bV (fNeq true .i v12 (.int .u8 (.ofNat 1))) fun v13 => gdH v13 false H (fun rest => bV (fLdN 4 (t4 E) H) fun v15 => rest v15 H) fun v15 H => gdH v13 false H (fun rest => T 70 [v15] H fun v16 H => rest v16 H) fun v16 H => gdH v13 false H (fun rest => bV (fNeq true .i v16 (.int .i64 (.ofNat 0))) fun v17 => rest v17 H) fun v17 H => bV (fPick v13 (.bool true) v17) fun v18 => k (d18 E v18) H)
 (condF t18
 (seqC (rg fun T E H k => k (d2 E (.int .i64 (.ofNat 90))) H)
 retC)
 skipC))))
 (rg fun T E H k => bV (fAdd (t7 E) (.int .i64 (.ofNat 1))) fun v19 => k (d7 E v19) H)))))))
 (seqC (rg fun T E H k => k (d2 E (.int .i64 (.ofNat 0))) H)
 retC)))) [fun E _ => some (t2 E)]
def pl259 : Nat × List (Nat × Plan) := (785920, [])
noncomputable def c260 : TT → FnC := fnC 2 ((seqC (rg fun T E H k => bM (fNew 43 [(.int .u8 (.ofNat 0)), (.int .i64 (.ofNat 0)), (.bool false), (.str 0 0)] []) H fun v4 H => k (d5 (d4 E v4) (.int .i64 (.ofNat 0))) H)
 (seqC (seqC (rg fun T E H k => bV (fNot (t1 E)) fun v7 => k (d7 E v7) H)
 (condF t7
 (seqC (rg fun T E H k => bV (fAgg [(.int .u8 (.ofNat 0)), (.int .i64 (.ofNat 0)), (.bool false), (.str 0 0)] [] []) fun v8 => bE (fSt 4 (t4 E) v8 H) H fun _ H => k (d5 E (.int .i64 (.ofNat 91))) H)
 retC)
 skipC))
 (seqC (rg fun T E H k => T 9 [(t0 E)] H fun v10 H => bE (fSt 4 (t4 E) v10 H) H fun _ H => k (d5 E (.int .i64 (.ofNat 0))) H)
 retC)))) [fun E H => onPtr (t4 E) fun id off => onOpt (loadN H id off 4) fun l => some (.agg l), fun E _ => some (t5 E)]
def pl260 : Nat × List (Nat × Plan) := (1856, [])
end Go.Am
