/-
  The code of functions, as terms: printed by a program, proved to be what the seat has.
-/
import Derived.Test.YtmnmandpdadedaaGreatDoorV10
import Derived.KernelRfl
import Derived.Test.YtmnmandpdadedaaGreatDoorProg
import Derived.Test.YtmnmandpdadedaaGreatDoorV13
import Derived.Shelf.Strings.Search2
import Derived.Shelf.Lay
set_option linter.unusedSimpArgs false
set_option linter.unusedVariables false
namespace Go.Proofs.YtmnmandpdadedaaGreatDoor
open Go Go.V
set_option maxRecDepth 100000
def F121 : FIR := laid (X := ⟨21, [.tmp 2],
 (qS [qz 2 false] [0]
 (qS [qm 3 0,qo 4 (.bin .leq (.const (Value.int IntKind.u8 97)) (.tmp 3)),qm 5 4,qt 5 (qm 6 0),
  qt 5 (qo 7 (.bin .leq (.tmp 6) (.const (Value.int IntKind.u8 122)))),qa 8 5 7,qm 9 8,qu 9 (qm 10 0),
  qu 9 (qo 11 (.bin .leq (.const (Value.int IntKind.u8 65)) (.tmp 10))),qu 9 (qm 12 11),qt 12 (qm 13 0),
  qt 12 (qo 14 (.bin .leq (.tmp 13) (.const (Value.int IntKind.u8 90)))),qu 9 (qa 15 12 14),qr 16 9 15,qm 17 16,qu 17 (qm 18 0),
  qu 17 (qo 19 (.bin .eql (.tmp 18) (.const (Value.int IntKind.u8 95)))),qr 20 17 19,qm 2 20] [2]
 .ret))⟩)
theorem n121 : F121.n = 21 := rfl
theorem low121 : lowF Tryz.prog (kpO F121) (assoc []) 121 = some F121 := by kernel_rfl
def F126 : FIR := laid (X := ⟨9, [.tmp 2],
 (qS [qz 2 false] [0]
 (qS [qm 3 0,qo 4 (.bin .leq (.const (Value.int IntKind.u8 48)) (.tmp 3)),qm 5 4,qt 5 (qm 6 0),
  qt 5 (qo 7 (.bin .leq (.tmp 6) (.const (Value.int IntKind.u8 57)))),qa 8 5 7,qm 2 8] [2]
 .ret))⟩)
theorem n126 : F126.n = 9 := rfl
theorem low126 : lowF Tryz.prog (kpO F126) (assoc []) 126 = some F126 := by kernel_rfl
def F123 : FIR := laid (X := ⟨9, [.tmp 2],
 (qS [qz 2 false] [0]
 (qS [qm 3 0,qx 4 121 [3],qm 5 4,qu 5 (qm 6 0),qu 5 (qx 7 126 [6]),qr 8 5 7,qm 2 8] [2]
 .ret))⟩)
theorem n123 : F123.n = 9 := rfl
theorem low123 : lowF Tryz.prog (kpO F123) (assoc []) 123 = some F123 := by kernel_rfl
def F122 : FIR := laid (X := ⟨21, [.tmp 6],
 (qS [qk 6 0] [0,1,2]
 (.seq (.block 0 (.loop (.seq (qS [qm 7 1,qm 8 0,qo 9 (.lenS (.tmp 8)),qb 10 .lss 7 9,qm 11 10,qt 11 (qm 12 2),qt 11 (qm 13 0),qt 11 (qm 14 1),
  qt 11 (qo 15 (.idxS (.tmp 13) (.tmp 14))),qt 11 (qo 16 (.callv (.tmp 12) [(.tmp 15)])),qa 17 11 16] [0,1,2,17]
 (qC 17 .skip
 (.exit 0)))
 (.block 1 (.reg [qm 18 1,qc 19 .add 18 1,qm 1 19] [0,1,2])))))
 (qS [qm 20 1,qm 6 20] [6]
 .ret)))⟩)
theorem n122 : F122.n = 21 := rfl
theorem low122 : lowF Tryz.prog (kpO F122) (assoc []) 122 = some F122 := by kernel_rfl
def F88 : FIR := laid (X := ⟨22, [.tmp 2],
 (qS [qz 2 false] [0]
 (qS [qm 3 0,qo 4 (.bin .neq (.tmp 3) (.const (Value.string ⟨#[]⟩))),qm 5 4,qt 5 (qm 6 0),qt 5 (qo 7 (.lenS (.tmp 6))),
  qt 5 (qc 8 .leq 7 40),qa 9 5 8,qm 10 9,qt 10 (qm 11 0),qt 10 (qo 12 (.idxS (.tmp 11) (.const (Value.int IntKind.i64 0)))),qt 10 (qx 13 121 [12]),
  qa 14 10 13,qm 15 14,qt 15 (qm 16 0),qt 15 (qo 17 (.call 122 [(.tmp 16), (.const (Value.int IntKind.i64 0)), (.func 123)])),qt 15 (qm 18 0),
  qt 15 (qo 19 (.lenS (.tmp 18))),qt 15 (qb 20 .eql 17 19),qa 21 15 20,qm 2 21] [2]
 .ret))⟩)
theorem n88 : F88.n = 22 := rfl
theorem low88 : lowF Tryz.prog (kpO F88) (assoc []) 88 = some F88 := by kernel_rfl
def F89 : FIR := laid (X := ⟨6, [.tmp 2],
 (qS [qz 2 false] [0]
 (qS [qm 3 0,qo 4 (.call 124 [(.const (Value.string ⟨#[43, 45, 42, 47, 92, 126, 60, 62, 61, 64, 37, 38, 63, 44, 33]⟩)), (.tmp 3)]),
  qc 5 .geq 4 0,qm 2 5] [2]
 .ret))⟩)
theorem n89 : F89.n = 6 := rfl
theorem low89 : lowF Tryz.prog (kpO F89) (assoc []) 89 = some F89 := by kernel_rfl
def F127 : FIR := laid (X := ⟨12, [.tmp 4],
 (qS [qo 4 (.mv (.const (Value.int IntKind.u8 0)))] [0,1]
 (.seq (qS [qm 5 1,qm 6 0,qo 7 (.lenS (.tmp 6)),qb 8 .lss 5 7] [0,1,8]
 (qC 8 (qS [qm 9 0,qm 10 1,qo 11 (.idxS (.tmp 9) (.tmp 10)),qm 4 11] [4]
 .ret)
 .skip))
 (qS [qo 4 (.mv (.const (Value.int IntKind.u8 0)))] [4]
 .ret)))⟩)
theorem n127 : F127.n = 12 := rfl
theorem low127 : lowF Tryz.prog (kpO F127) (assoc []) 127 = some F127 := by kernel_rfl
def F90 : FIR := laid (X := ⟨17, [.tmp 4],
 (qS [qB 2 9 0,qB 3 3 1,qk 4 0] [2,3]
 (.seq (qS [ql 6 2,ql 7 3,qo 8 (.idxS (.tmp 6) (.tmp 7)),qo 9 (.bin .eql (.tmp 8) (.const (Value.int IntKind.u8 124)))] [2,3,9]
 (qC 9 (qS [ql 10 3,qc 11 .add 10 1,qm 4 11] [4]
 .ret)
 .skip))
 (qS [ql 12 3,qo 5 (.alloc 3 [(Value.int IntKind.i64 0)]),qs 1 5 12] [2,3,5]
 (qS [ql 13 2,ql 14 3,qo 15 (.clos (.func 125) [] [(.tmp 3), (.tmp 5), (.tmp 2)]),qx 16 122 [13,14,15],qm 4 16] [4]
 .ret))))⟩)
theorem n90 : F90.n = 17 := rfl
theorem low90 : lowF Tryz.prog (kpO F90) (assoc []) 90 = some F90 := by kernel_rfl
def F125 : FIR := laid (X := ⟨29, [.tmp 5],
 (qS [qz 5 false] [0,1,2,3]
 (qS [qm 7 0,qx 8 89 [7],qm 9 8,qt 9 (ql 10 1),qt 9 (ql 11 2),qt 9 (qb 12 .eql 10 11),qt 9 (qm 13 12),qu 13 (qm 14 0),
  qu 13 (qo 15 (.bin .neq (.tmp 14) (.const (Value.int IntKind.u8 45)))),qt 9 (qr 16 13 15),qt 9 (qm 17 16),qu 17 (ql 18 3),qu 17 (ql 19 1),
  qu 17 (qc 20 .add 19 1),qu 17 (qx 21 127 [18,20]),qu 17 (qx 22 126 [21]),qu 17 (qo 23 (.un .not (.tmp 22))),qt 9 (qr 24 17 23),qa 25 9 24,qm 6 25] [1,6]
 (qS [ql 26 1,qc 27 .add 26 1,qs 1 1 27] [6]
 (qS [qm 28 6,qm 5 28] [5]
 .ret))))⟩)
theorem n125 : F125.n = 29 := rfl
theorem low125 : lowF Tryz.prog (kpO F125) (assoc []) 125 = some F125 := by kernel_rfl
def F124 : FIR := laid (X := ⟨8, [.tmp 4],
 (qS [qk 4 0] [0,1]
 (qS [qm 5 0,qm 6 1,qx 7 143 [5,6],qm 4 7] [4]
 .ret))⟩)
theorem n124 : F124.n = 8 := rfl
theorem low124 : lowF Tryz.prog (kpO F124) (assoc []) 124 = some F124 := by kernel_rfl
def F91 : FIR := laid (X := ⟨10, [.tmp 4],
 (qS [qo 4 (.mv (.const Value.nilFunc))] [0,1]
 (qS [qm 5 0,qm 6 1,qm 7 1,qo 8 (.lenS (.tmp 7)),qx 9 128 [5,6,8],qm 4 9] [4]
 .ret))⟩)
theorem n91 : F91.n = 10 := rfl
theorem low91 : lowF Tryz.prog (kpO F91) (assoc []) 91 = some F91 := by kernel_rfl
def F128 : FIR := laid (X := ⟨8, [.tmp 6],
 (qS [qB 3 9 0,qB 4 9 1,qB 5 3 2,qo 6 (.mv (.const Value.nilFunc))] [3,4,5]
 (qS [qo 7 (.clos (.func 144) [] [(.tmp 4), (.tmp 3), (.tmp 5)]),qm 6 7] [6]
 .ret))⟩)
theorem n128 : F128.n = 8 := rfl
theorem low128 : lowF Tryz.prog (kpO F128) (assoc []) 128 = some F128 := by kernel_rfl
def F144 : FIR := laid (X := ⟨52, [],
 (.seq (qS [ql 9 1,qo 10 (.lenS (.tmp 9)),qc 11 .eql 10 0] [0,1,2,3,11]
 (qC 11 (.seq (.block 0 (.loop (.seq (qS [ql 12 2,qo 13 (.lenS (.tmp 12)),qc 14 .gtr 13 0] [0,2,14]
 (qC 14 .skip
 (.exit 0)))
 (.block 1 (qS [ql 16 2,qx 17 145 [16],qm 15 17,qe 18 15 0,qe 19 15 1,qm 5 18,qm 6 19] [0,2,6]
 (.seq (qS [qm 20 0,ql 21 2,qm 22 6,qo 23 (.slcS (.tmp 21) none (some (.tmp 22))),qo 24 (.callv (.tmp 20) [(.tmp 23)]),
  qo 25 (.un .not (.tmp 24))] [0,2,6,25]
 (qC 25 .ret
 .skip))
 (.reg [ql 26 2,qm 27 6,qo 28 (.slcS (.tmp 26) (some (.tmp 27)) none),qs 1 2 28] [0,2])))))))
 .ret)
 .skip))
 (.seq (.block 2 (.loop (.block 3 (qS [ql 29 2,ql 30 1,qx 31 146 [29,30],qm 7 31] [0,1,2,3,7]
 (.seq (qS [qm 32 7,qc 33 .lss 32 0] [0,1,2,3,7,33]
 (qC 33 (.exit 2)
 .skip))
 (qS [ql 34 2,qm 35 7,ql 36 3,qb 37 .add 35 36,qo 38 (.slcS (.tmp 34) none (some (.tmp 37))),qm 8 38] [0,1,2,3,7,8]
 (.seq (qS [qm 39 0,qm 40 8,qo 41 (.callv (.tmp 39) [(.tmp 40)]),qo 42 (.un .not (.tmp 41))] [0,1,2,3,7,42]
 (qC 42 .ret
 .skip))
 (.reg [ql 43 2,qm 44 7,ql 45 1,qo 46 (.lenS (.tmp 45)),qb 47 .add 44 46,qo 48 (.slcS (.tmp 43) (some (.tmp 47)) none),qs 1 2 48] [0,1,2,3]))))))))
 (.reg [qm 49 0,ql 50 2,qo 51 (.callv (.tmp 49) [(.tmp 50)])] [])))⟩)
theorem n144 : F144.n = 52 := rfl
theorem low144 : lowF Tryz.prog (kpO F144) (assoc []) 144 = some F144 := by kernel_rfl
def F146 : FIR := laid (X := ⟨8, [.tmp 4],
 (qS [qk 4 0] [0,1]
 (qS [qm 5 0,qm 6 1,qx 7 155 [5,6],qm 4 7] [4]
 .ret))⟩)
theorem n146 : F146.n = 8 := rfl
theorem low146 : lowF Tryz.prog (kpO F146) (assoc []) 146 = some F146 := by kernel_rfl
def F92 : FIR := laid (X := ⟨11, [.tmp 4, .tmp 5],
 (qS [qo 4 (.mv (.const (Value.string ⟨#[]⟩))),qz 5 false] [0,1]
 (qS [qm 6 0,qm 7 1,qx 8 129 [6,7],qe 9 8 0,qe 10 8 1,qm 4 9,qm 5 10] [4,5]
 .ret))⟩)
theorem n92 : F92.n = 11 := rfl
theorem low92 : lowF Tryz.prog (kpO F92) (assoc []) 92 = some F92 := by kernel_rfl
def F129 : FIR := laid (X := ⟨18, [.tmp 4, .tmp 5],
 (qS [qo 4 (.mv (.const (Value.string ⟨#[]⟩))),qz 5 false] [0,1]
 (.seq (qS [qm 6 0,qm 7 1,qx 8 147 [6,7],qo 9 (.un .not (.tmp 8))] [0,1,9]
 (qC 9 (qS [qm 10 0,qm 4 10,qz 5 false] [4,5]
 .ret)
 .skip))
 (qS [qm 11 0,qm 12 0,qo 13 (.lenS (.tmp 12)),qm 14 1,qo 15 (.lenS (.tmp 14)),qb 16 .sub 13 15,
  qo 17 (.slcS (.tmp 11) none (some (.tmp 16))),qm 4 17,qz 5 true] [4,5]
 .ret)))⟩)
theorem n129 : F129.n = 18 := rfl
theorem low129 : lowF Tryz.prog (kpO F129) (assoc []) 129 = some F129 := by kernel_rfl
def F147 : FIR := laid (X := ⟨21, [.tmp 4],
 (qS [qz 4 false] [0,1]
 (qS [qm 5 0,qo 6 (.lenS (.tmp 5)),qm 7 1,qo 8 (.lenS (.tmp 7)),qb 9 .geq 6 8,qm 10 9,qt 10 (qm 11 0),qt 10 (qm 12 0),
  qt 10 (qo 13 (.lenS (.tmp 12))),qt 10 (qm 14 1),qt 10 (qo 15 (.lenS (.tmp 14))),qt 10 (qb 16 .sub 13 15),
  qt 10 (qo 17 (.slcS (.tmp 11) (some (.tmp 16)) none)),qt 10 (qm 18 1),qt 10 (qb 19 .eql 17 18),qa 20 10 19,qm 4 20] [4]
 .ret))⟩)
theorem n147 : F147.n = 21 := rfl
theorem low147 : lowF Tryz.prog (kpO F147) (assoc []) 147 = some F147 := by kernel_rfl
def F48 : FIR := laid (X := ⟨47, [.cell1 2],
 (qS [qo 2 (.alloc 3 [(Value.int IntKind.i64 0)])] [0,2]
 (.seq (.block 0 (qS [qm 8 0,qx 9 88 [8],qm 7 9] [0,2,7]
 (qC 7 (qS [⟨none,none,.store 1 (.tmp 2) (.const (Value.int IntKind.i64 0))⟩] [2]
 .ret)
 (qS [qm 11 0,qo 12 (.bin .eql (.tmp 11) (.const (Value.string ⟨#[]⟩))),qm 10 12] [0,2,10]
 (qC 10 (qS [⟨none,none,.store 1 (.tmp 2) (.const (Value.int IntKind.i64 (-1)))⟩] [2]
 .ret)
 (qS [qm 14 0,qo 15 (.idxS (.tmp 14) (.const (Value.int IntKind.i64 0))),qx 16 89 [15],qm 17 16,qu 17 (qm 18 0),
  qu 17 (qo 19 (.idxS (.tmp 18) (.const (Value.int IntKind.i64 0)))),qu 17 (qo 20 (.bin .eql (.tmp 19) (.const (Value.int IntKind.u8 124)))),qr 21 17 20,
  qm 13 21] [0,2,13]
 (qC 13 (.seq (qS [qm 22 0,qo 23 (.call 90 [(.tmp 22), (.const (Value.int IntKind.i64 0))]),qm 24 0,qo 25 (.lenS (.tmp 24)),qb 26 .eql 23 25] [2,26]
 (qC 26 (qS [⟨none,none,.store 1 (.tmp 2) (.const (Value.int IntKind.i64 1))⟩] [2]
 .ret)
 .skip))
 (qS [⟨none,none,.store 1 (.tmp 2) (.const (Value.int IntKind.i64 (-1)))⟩] [2]
 .ret))
 .skip)))))))
 (qS [qo 3 (.alloc 3 [(Value.int IntKind.i64 0)]),⟨none,none,.store 1 (.tmp 3) (.const (Value.int IntKind.i64 0))⟩] [0,2,3]
 (.seq (qS [qm 27 0,qo 28 (.call 91 [(.tmp 27), (.const (Value.string ⟨#[58]⟩))])] [2,3,28]
 (.block 1 (.rangef (.tmp 28) [29] (.reg [qm 4 29] [2,3,4])
 (.block 2 (.seq (qS [qm 30 4,qo 31 (.bin .eql (.tmp 30) (.const (Value.string ⟨#[]⟩)))] [2,3,4,31]
 (qC 31 (.exit 1)
 .skip))
 (qS [qm 33 4,qo 34 (.call 92 [(.tmp 33), (.const (Value.string ⟨#[58]⟩))]),qm 32 34,qe 35 32 0,qe 36 32 1,qm 5 35,qm 6 36] [2,3,5,6]
 (.seq (qS [qm 37 6,qo 38 (.un .not (.tmp 37)),qm 39 38,qu 39 (qm 40 5),qu 39 (qx 41 88 [40]),qu 39 (qo 42 (.un .not (.tmp 41))),qr 43 39 42] [2,3,43]
 (qC 43 (qS [⟨none,none,.store 1 (.tmp 2) (.const (Value.int IntKind.i64 (-1)))⟩] [2]
 .ret)
 .skip))
 (.reg [ql 44 3,qc 45 .add 44 1,qs 1 3 45] []))))))))
 (qS [ql 46 3,qs 1 2 46] [2]
 .ret)))))⟩)
theorem n48 : F48.n = 47 := rfl
theorem low48 : lowF Tryz.prog (kpO F48) (assoc []) 48 = some F48 := by kernel_rfl
open Go Go.V Go.Shelf
set_option maxHeartbeats 3200000
shelf_lay Lays.n217 Nm 217 at Tryz as Tryz.sl217
shelf_lay Lays.n219 Nm 219 at Tryz as Tryz.sl219
theorem ixb_spec (s : ByteArray) (c : Nat) (hc : c < 256) : Fun Tryz.prog 143 [.string s, cv c] [] (fun v Post => v = vi (ixN (bytesN s) c) ∧ Post = []) := by
  refine Fun.of_calls (by kernel_rfl) (fun w => (Any.stringslite_IndexByte Tryz.sl217 s c w).mono ?_)
  rintro e w' ⟨rfl, rfl⟩
  refine ⟨_, rfl, ?_, rfl⟩
  have hx : ((c : Int).toNat.toUInt8).toNat = c := by
    rw [Int.toNat_natCast]
    exact Nat.mod_eq_of_lt hc
  rw [ix_eq, hx]; rfl
theorem ixs_spec (s : ByteArray) : Fun Tryz.prog 155 [.string s, .string ⟨#[58]⟩] [] (fun v Post => v = vi (ixN (bytesN s) 58) ∧ Post = []) := by
  refine Fun.of_calls (by kernel_rfl) (fun w => (Any.stringslite_Index_one Tryz.sl219 s 58 w).mono ?_)
  rintro e w' ⟨rfl, rfl⟩
  exact ⟨_, rfl, by rw [ix_eq]; rfl, rfl⟩
theorem letter_spec (c : Nat) (hc : c < 256) : Fun Tryz.prog 121 [cv c] [] (fun v Post => v = .bool (letB c) ∧ Post = []) := by
  refine Fun.intro low121 (by simp [n121]) ?_
  (repeat' (first | refine GOPH ?_ | refine st_gcase (by rfl) (fun _ => ?_) (fun _ => ?_) | refine st_pcase (by rfl) (fun _ => ?_) (fun _ => ?_) | refine VC.seq_cond (by rfl) (fun _ => ?_) (fun _ => ?_) | refine VC.cond (by rfl) (fun _ => ?_) (fun _ => ?_)))
  all_goals refine ⟨.inr rfl, _, _, .tmp (by rfl) .nil, by exact IMx, ?_, rfl⟩
  all_goals (simp only [tup, letB, Value.bool.injEq, decide_eq_true_eq, decide_eq_false_iff_not] at *)
  all_goals (rw [Bool.eq_iff_iff]; simp only [Bool.or_eq_true, Bool.and_eq_true, Bool.not_eq_true', decide_eq_true_eq, decide_eq_false_iff_not, true_iff, iff_true, reduceCtorEq, false_iff, iff_false]; omega)
theorem digit_spec (c : Nat) (hc : c < 256) : Fun Tryz.prog 126 [cv c] [] (fun v Post => v = .bool (digB c) ∧ Post = []) := by
  refine Fun.intro low126 (by simp [n126]) ?_
  (repeat' (first | refine GOPH ?_ | refine st_gcase (by rfl) (fun _ => ?_) (fun _ => ?_) | refine st_pcase (by rfl) (fun _ => ?_) (fun _ => ?_) | refine VC.seq_cond (by rfl) (fun _ => ?_) (fun _ => ?_) | refine VC.cond (by rfl) (fun _ => ?_) (fun _ => ?_)))
  all_goals refine ⟨.inr rfl, _, _, .tmp (by rfl) .nil, by exact IMx, ?_, rfl⟩
  all_goals (simp only [tup, digB, Value.bool.injEq, decide_eq_true_eq, decide_eq_false_iff_not] at *)
  all_goals (rw [Bool.eq_iff_iff]; simp only [Bool.or_eq_true, Bool.and_eq_true, Bool.not_eq_true', decide_eq_true_eq, decide_eq_false_iff_not, true_iff, iff_true, reduceCtorEq, false_iff, iff_false]; omega)
theorem inner_spec (c : Nat) (hc : c < 256) : Fun Tryz.prog 123 [cv c] [] (fun v Post => v = .bool (innB c) ∧ Post = []) := by
  refine Fun.intro low123 (by simp [n123]) ?_
  refine GOH ?_
  refine st_callP (letter_spec c hc) (by rfl) ?_
  cases hl : letB c with
  | true =>
    refine GOH ?_
    refine ⟨.inr rfl, _, _, .tmp (by rfl) .nil, by exact IMx, ?_, rfl⟩
    simp [tup, innB, hl]
  | false =>
    refine GOH ?_
    refine st_callP (digit_spec c hc) (by rfl) ?_
    refine GOH ?_
    refine ⟨.inr rfl, _, _, .tmp (by rfl) .nil, by exact IMx, ?_, rfl⟩
    simp [tup, innB, hl]
theorem binary_spec (c : Nat) (hc : c < 256) : Fun Tryz.prog 89 [cv c] [] (fun v Post => v = .bool (binB c) ∧ Post = []) := by
  refine Fun.intro low89 (by simp [n89]) ?_
  have hb := ixN_bin hc
  have h : Fun Tryz.prog 124 [.string ⟨#[43, 45, 42, 47, 92, 126, 60, 62, 61, 64, 37, 38, 63, 44, 33]⟩, cv c] [] (fun v Post => v = vi (ixN [43, 45, 42, 47, 92, 126, 60, 62, 61, 64, 37, 38, 63, 44, 33] c) ∧ Post = []) := by
    refine Fun.intro low124 (by simp [n124]) ?_
    refine GOH ?_
    refine st_callP (ixb_spec _ c hc) (by rfl) ?_
    refine GOH ?_
    refine ⟨.inr rfl, _, _, .tmp (by rfl) .nil, by exact IMx, ?_, rfl⟩
    rfl
  generalize ixN [43, 45, 42, 47, 92, 126, 60, 62, 61, 64, 37, 38, 63, 44, 33] c = z at h hb
  refine GOH ?_
  refine st_callP h (by rfl) ?_
  refine GOH ?_
  refine ⟨.inr rfl, _, _, .tmp (by rfl) .nil, by exact IMx, ?_, rfl⟩
  simp only [tup, ← hb]
theorem peek_spec (s : ByteArray) (hs : s.size ≤ 140737488355328) (k : Nat) : Fun Tryz.prog 127 [.string s, vi k] [] (fun v Post => v = cv ((bytesN s).getD k 0) ∧ Post = []) := by
  refine Fun.intro low127 (by simp [n127]) ?_
  refine GOH ?_
  by_cases h : k < s.size
  · rw [decide_eq_true (by omega)]
    obtain ⟨c, hc, hc2⟩ := bytesN_ex h
    refine GOH ?_
    refine st_idxS (by rfl) (by rfl) (j := k) rfl hc ?_
    refine GOH ?_
    refine ⟨.inr rfl, _, _, .tmp (by rfl) .nil, by exact IMx, ?_, rfl⟩
    simp [tup, List.getD_eq_getElem?_getD, hc2]
  · rw [decide_eq_false (by omega)]
    refine GOH ?_
    refine ⟨.inr rfl, _, _, .tmp (by rfl) .nil, by exact IMx, ?_, rfl⟩
    have : (bytesN s)[k]? = none := List.getElem?_eq_none (by rw [bytesN_len]; omega)
    simp [tup, List.getD_eq_getElem?_getD, this]
theorem run_spec (s : ByteArray) (hs : s.size ≤ 140737488355328) (a : Nat) (ha : a ≤ s.size) (fv : Value) (I : Nat → SH) (on : Nat → Bool)
    (h : ∀ k c, a ≤ k → (bytesN s)[k]? = some c → FunV Tryz.prog fv [cv c] (I k) (fun v Post => v = .bool (on k) ∧ Post = I (k + 1))) :
    Fun Tryz.prog 122 [.string s, vi a, fv] (I a) (fun v Post => ∃ e j : Nat, v = vi e ∧ a ≤ e ∧ e ≤ s.size ∧ (∀ k, a ≤ k → k < e → on k = true) ∧ (e < s.size → on e = false) ∧ Post = I j) := by
  refine Fun.intro low122 (by simp [n122]) ?_
  refine GOH ?_
  refine VC.loop (α := Nat) (Γf := fun k => [(0, .string s), (1, vi k), (2, fv)]) (Hf := fun k => I k) (I := fun k => a ≤ k ∧ k ≤ s.size ∧ ∀ i, a ≤ i → i < k → on i = true) (μ := fun k => s.size - k) a ⟨Nat.le_refl _, ha, fun i _ _ => by omega⟩ (by exact SUx) (Imp.refl _) ?_
  rintro k ⟨i1, i2, i3⟩
  refine GOH ?_
  by_cases hk : k < s.size
  · rw [decide_eq_true (by omega)]
    obtain ⟨c, hc, hc2⟩ := bytesN_ex hk
    refine GOH ?_
    refine st_idxS (by rfl) (by rfl) (j := k) rfl hc ?_
    refine GOH ?_
    refine st_callV (by rfl) (h k _ i1 hc2) (by rfl) (R := []) (by simp [V.Spl]) ?_
    rintro v Post ⟨rfl, rfl⟩
    rw [List.append_nil]
    cases ho : on k with
    | true =>
      refine GOH ?_
      refine ⟨k + 1, ⟨by omega, by omega, fun i g1 g2 => ?_⟩, by omega, by exact SUx, Imp.refl _⟩
      by_cases e : i = k
      · subst e; exact ho
      · exact i3 i g1 (by omega)
    | false =>
      refine GOH ?_
      exact endQ_mk (Post := I (k + 1)) (.inr rfl) (.tmp (by rfl) .nil) ⟨k, k + 1, rfl, i1, i2, i3, fun _ => ho, rfl⟩ (Imp.refl _)
  · rw [decide_eq_false (by omega)]
    refine GOH ?_
    exact endQ_mk (Post := I k) (.inr rfl) (.tmp (by rfl) .nil) ⟨k, k, rfl, i1, i2, i3, fun hh => absurd hh hk, rfl⟩ (Imp.refl _)
theorem name_spec (s : ByteArray) (hs : s.size ≤ 140737488355328) : Fun Tryz.prog 88 [.string s] [] (fun v Post => v = .bool (nameS s) ∧ Post = []) := by
  refine Fun.intro low88 (by simp [n88]) ?_
  have hlen := bytesN_len s
  unfold nameS nameL
  refine GOH ?_
  by_cases h0 : s = ⟨#[]⟩
  · subst h0
    refine GOH ?_
    refine ⟨.inr rfl, _, _, .tmp (by rfl) .nil, by exact IMx, ?_, rfl⟩
    rfl
  obtain ⟨c, r, hc, hr, hc256, hpos⟩ := bytesN_cons h0
  rw [decide_eq_false h0, Bool.not_false]
  refine GOH ?_
  by_cases h40 : s.size ≤ 40
  rotate_left
  · rw [decide_eq_false (by omega)]
    refine GOH ?_
    refine ⟨.inr rfl, _, _, .tmp (by rfl) .nil, by exact IMx, ?_, rfl⟩
    have h2 : ¬ (c.toNat :: r).length ≤ 40 := by rw [← hr]; omega
    simp only [tup, hr, decide_eq_false h2, Bool.false_and]
  rw [decide_eq_true (by omega)]
  refine GOH ?_
  refine st_idxS (by rfl) (by rfl) (j := 0) rfl hc ?_
  refine GOH ?_
  refine st_callP (letter_spec _ hc256) (by rfl) ?_
  cases hl : letB c.toNat with
  | false =>
    refine GOH ?_
    refine ⟨.inr rfl, _, _, .tmp (by rfl) .nil, by exact IMx, ?_, rfl⟩
    simp [tup, hr, hl]
  | true =>
    refine GOH ?_
    refine st_call (run_spec s hs 0 (by omega) (.func (.func 123) #[] #[]) (fun _ => []) (fun k => innB ((bytesN s).getD k 0)) (fun k x _ hx => FunV.of_fun ?_)) (by rfl) (by exact SPx) (fun v Post hv => ?_)
    · rw [List.getD_eq_getElem?_getD, hx]
      exact inner_spec _ (bytesN_lt s _ (List.mem_of_getElem? hx))
    obtain ⟨e, j, rfl, e1, e2, e3, e4, rfl⟩ := hv
    have hall := all_run (l := bytesN s) (p := innB) (e := e) (by omega) (fun k hk => e3 k (by omega) hk) (fun hk => e4 (by omega))
    have h2 : (c.toNat :: r).length ≤ 40 := by rw [← hr]; omega
    simp only [List.nil_append]
    refine GOH ?_
    refine ⟨.inr rfl, _, _, .tmp (by rfl) .nil, by exact IMx, ?_, rfl⟩
    rw [hr] at hall
    simp only [tup, hr, decide_eq_true h2, hl, hall, Bool.true_and, Value.bool.injEq]
    rw [← hr, hlen]
    (rw [Bool.eq_iff_iff]; simp only [Bool.or_eq_true, Bool.and_eq_true, Bool.not_eq_true', decide_eq_true_eq, decide_eq_false_iff_not, true_iff, iff_true, reduceCtorEq, false_iff, iff_false]; omega)
theorem sign1_spec (pa pf ps : Nat) (s : ByteArray) (hs : s.size ≤ 140737488355328) (k c : Nat) (hk : k < s.size) (hc : c < 256) :
    Fun Tryz.prog 125 [cv c, ptr0 pa, ptr0 pf, ptr0 ps] [cellsAt pa 0 [vi k], cellsAt pf 0 [vi 0], cellsAt ps 0 [.string s]] (fun v Post => v = .bool (binB c && (decide (k = 0) || decide (c ≠ 45) || !digB ((bytesN s).getD (k + 1) 0))) ∧ Post = [cellsAt pa 0 [vi ((k : Int) + 1)], cellsAt pf 0 [vi 0], cellsAt ps 0 [.string s]]) := by
  refine Fun.intro low125 (by simp [n125]) ?_
  have hd : (bytesN s).getD (k + 1) 0 < 256 := by
    rw [List.getD_eq_getElem?_getD]
    cases h : (bytesN s)[k + 1]? with
    | none => decide
    | some x => exact bytesN_lt s _ (List.mem_of_getElem? h)
  have hp := peek_spec s hs (k + 1)
  generalize (bytesN s).getD (k + 1) 0 = d at hd hp ⊢
  refine GOH ?_
  refine st_callP (binary_spec c hc) (by rfl) ?_
  cases hb : binB c with
  | false =>
    refine GOH ?_
    refine endQ_mk (.inr rfl) (.tmp (by rfl) .nil) ⟨by simp [tup], rfl⟩ (by exact IMx)
  | true =>
    refine GOH ?_
    by_cases h0 : k = 0
    · rw [decide_eq_true (show (k : Int) = 0 by omega)]
      refine GOH ?_
      refine endQ_mk (.inr rfl) (.tmp (by rfl) .nil) ⟨by simp [tup, h0], rfl⟩ (by exact IMx)
    rw [decide_eq_false (show ¬ (k : Int) = 0 by omega)]
    refine GOH ?_
    by_cases h45 : c = 45
    rotate_left
    · rw [show decide ((c : Int) = 45) = false from decide_eq_false (by omega)]
      refine GOH ?_
      refine endQ_mk (.inr rfl) (.tmp (by rfl) .nil) ⟨by simp [tup, h0, h45], rfl⟩ (by exact IMx)
    rw [show decide ((c : Int) = 45) = true from decide_eq_true (by omega)]
    refine GOH ?_
    refine st_callP hp (by rfl) ?_
    refine GOH ?_
    refine st_callP (digit_spec d hd) (by rfl) ?_
    cases hdd : digB d
    · refine GOH ?_
      refine endQ_mk (.inr rfl) (.tmp (by rfl) .nil) ⟨by simp [tup, h0, h45], rfl⟩ (by exact IMx)
    · refine GOH ?_
      refine endQ_mk (.inr rfl) (.tmp (by rfl) .nil) ⟨by simp [tup, h0, h45], rfl⟩ (by exact IMx)
theorem sign_spec (s : ByteArray) (hs : s.size ≤ 140737488355328) (c : UInt8) (r : List Nat) (hc : s[0]? = some c) (hr : bytesN s = c.toNat :: r) (hb : c.toNat = 124 ∨ binB c.toNat = true) :
    Fun Tryz.prog 90 [.string s, vi 0] [] (fun v Post => v = vi (signL (bytesN s)) ∧ Post = []) := by
  refine Fun.intro low90 (by simp [n90]) ?_
  have hlen := bytesN_len s
  have hpos : 0 < s.size := by rw [← hlen, hr]; simp
  refine GOH ?_
  refine st_box (by rfl) (fun ps => ?_)
  simp only [Value.cells]
  refine GOH ?_
  refine st_box (by rfl) (fun pa => ?_)
  simp only [Value.cells]
  refine GOH ?_
  refine st_idxS (by rfl) (by rfl) (j := 0) rfl hc ?_
  refine GOH ?_
  by_cases h0 : c.toNat = 124
  · rw [show decide ((c.toNat : Int) = 124) = true from decide_eq_true (by omega)]
    refine GOH ?_
    refine endQ_mk (Post := []) (.inr rfl) (.tmp (by rfl) .nil) ⟨by simp [tup, hr, signL, h0], rfl⟩ (by exact IMx)
  rw [show decide ((c.toNat : Int) = 124) = false from decide_eq_false (by omega)]
  have hbin : binB c.toNat = true := by
    rcases hb with h | h
    · exact absurd h h0
    · exact h
  refine GOH ?_
  refine st_alloc (fun pf => ?_)
  refine GOH ?_
  have hrun := run_spec s hs 0 (by omega) (.func (.func 125) #[] #[ptr0 pa, ptr0 pf, ptr0 ps]) (fun k => [cellsAt pa 0 [vi k], cellsAt pf 0 [vi 0], cellsAt ps 0 [.string s]])
    (fun k => binB ((bytesN s).getD k 0) && (decide (k = 0) || decide ((bytesN s).getD k 0 ≠ 45) || !digB ((bytesN s).getD (k + 1) 0))) (fun k x _ hx => FunV.of_fun (by
      have hk : k < s.size := by rw [← hlen]; exact (List.getElem?_eq_some_iff.1 hx).1
      have := sign1_spec pa pf ps s hs k x hk (bytesN_lt s _ (List.mem_of_getElem? hx))
      rw [List.getD_eq_getElem?_getD (i := k), hx]
      exact this))
  simp only [show ((0 : Nat) : Int) = 0 from rfl] at hrun
  refine st_call hrun (by rfl) (by exact SPx) (fun v Post hv => ?_)
  obtain ⟨e, j, rfl, e1, e2, e3, e4, rfl⟩ := hv
  simp only [CNx]
  refine GOH ?_
  refine endQ_mk (Post := []) (.inr rfl) (.tmp (by rfl) .nil) ⟨?_, rfl⟩ (by exact IMx)
  have hget : ∀ k, k < s.size → ∃ x, (bytesN s)[k]? = some x ∧ (bytesN s).getD k 0 = x := fun k hk => by
    obtain ⟨x, _, hx⟩ := bytesN_ex hk
    exact ⟨_, hx, by rw [List.getD_eq_getElem?_getD, hx]; rfl⟩
  have he0 : e ≠ 0 := fun e0 => by
    subst e0
    have := e4 hpos
    rw [hr] at this
    simp [hbin] at this
  have hon : ∀ k, 1 ≤ k → k < s.size → signOn ((bytesN s).drop k) = (binB ((bytesN s).getD k 0) && (decide (k = 0) || decide ((bytesN s).getD k 0 ≠ 45) || !digB ((bytesN s).getD (k + 1) 0))) := fun k h1 hk => by
    obtain ⟨x, hx, hx2⟩ := hget k hk
    rw [signOn_drop hx, hx2, decide_eq_false (show ¬ k = 0 by omega), Bool.false_or]
  have := sign_run (c := c.toNat) (r := r) (e := e) h0 hbin (by rw [← hr]; omega) (fun k h1 h2 => by rw [← hr, hon k h2 (by omega)]; exact e3 k (by omega) h1) (fun hk => by
    rw [← hr] at hk ⊢
    exact ⟨by omega, by rw [hon e (by omega) (by omega)]; exact e4 (by omega)⟩)
  rcases this with h | h
  · rw [hr, h]; rfl
  · exact absurd h he0
theorem keys_iter (qs qt qn : Nat) (s : ByteArray) (hs : s.size ≤ 140737488355328) :
    Iter Tryz.prog (.func (.func 144) #[] #[ptr0 qs, ptr0 qt, ptr0 qn]) (fun x => [.string x]) [cellsAt qs 0 [.string ⟨#[58]⟩], cellsAt qt 0 [.string s], cellsAt qn 0 [vi 1]] [] (fun full => full.map bytesN = piecesL (bytesN s)) := by
  intro y J SP hy A hA
  refine FunV.of_fun (first := #[]) (cap := #[ptr0 qs, ptr0 qt, ptr0 qn]) ?_
  show Fun Tryz.prog 144 [y, ptr0 qs, ptr0 qt, ptr0 qn] _ _
  refine Fun.intro low144 (by simp [n144]) ?_
  simp only [CNx]
  refine GOH ?_
  refine VC.loop (α := List ByteArray × ByteArray × List Atom) (Γf := fun _ => [(0, y), (1, ptr0 qs), (2, ptr0 qt), (3, ptr0 qn)]) (Hf := fun st => [cellsAt qs 0 [.string ⟨#[58]⟩], cellsAt qt 0 [.string st.2.1], cellsAt qn 0 [vi 1], st.2.2])
    (I := fun st => st.1.map bytesN ++ piecesL (bytesN st.2.1) = piecesL (bytesN s) ∧ st.2.1.size ≤ s.size ∧ J st.1 st.2.2) (μ := fun st => st.2.1.size) ([], s, A) ⟨rfl, Nat.le_refl _, hA⟩ (by exact SUx) (by exact IMx) ?_
  rintro ⟨c, t, A1⟩ ⟨i1, i2, i3⟩
  simp only at i1 i2 i3
  dsimp only
  have hlen := bytesN_len t
  have hix : Fun Tryz.prog 146 [.string t, .string ⟨#[58]⟩] [] (fun v Post => v = vi (ixN (bytesN t) 58) ∧ Post = []) := by
    refine Fun.intro low146 (by simp [n146]) ?_
    refine GOH ?_
    refine st_callP (ixs_spec t) (by rfl) ?_
    refine GOH ?_
    refine ⟨.inr rfl, _, _, .tmp (by rfl) .nil, by exact IMx, ?_, rfl⟩
    rfl
  refine GOH ?_
  refine st_callP hix (by rfl) ?_
  rcases ixN_cases (bytesN t) 58 with ⟨h1, h2⟩ | ⟨p, r, h1, h2, h3⟩
  · rw [h1]
    refine GOH ?_
    have hfull : (c ++ [t]).map bytesN = piecesL (bytesN s) := by rw [← i1, pieces_none h2]; simp
    refine st_callV (by rfl) (hy c t A1 ⟨[], by simpa using hfull⟩ i3) (by rfl) (by exact SPx) (fun v Post hv => ?_)
    rcases hv with ⟨rfl, A', hA', rfl⟩ | ⟨rfl, B', hB', rfl⟩
    · simp only [CNx]
      refine GOH ?_
      exact endQ_mk (Post := [A']) (.inl rfl) .nil ⟨rfl, .inl ⟨c ++ [t], A', hfull, hA', rfl⟩⟩ (by exact IMx)
    · simp only [CNx]
      refine GOH ?_
      exact endQ_mk (Post := [B']) (.inl rfl) .nil ⟨rfl, .inr ⟨c ++ [t], B', ⟨[], by simpa using hfull⟩, hB', rfl⟩⟩ (by exact IMx)
  · have hsz : t.size = p.length + 1 + r.length := by rw [← hlen, h1]; simp; omega
    have hx : bytesN (t.extract 0 (p.length + 1)) = p ++ [58] := by
      rw [bytesN_extract, h1, show p ++ 58 :: r = (p ++ [58]) ++ r by simp, List.take_left' (by simp)]; rfl
    have hy2 : bytesN (t.extract (p.length + 1) t.size) = r := by
      rw [bytesN_extract, List.take_of_length_le (by omega), h1]
      simp [List.drop_append]
    have hys : (t.extract (p.length + 1) t.size).size = r.length := by rw [← bytesN_len, hy2]
    have hpc := pieces_cons (p := p) (r := r) h2
    rw [← h1] at hpc
    obtain ⟨full, hful⟩ := pieces_ex (t.extract (p.length + 1) t.size)
    rw [hy2] at hful
    have hok : OkC (fun full => full.map bytesN = piecesL (bytesN s)) (c ++ [t.extract 0 (p.length + 1)]) := ⟨full, by rw [← i1, hpc]; simp [hx, hful]⟩
    rw [h3]
    refine GOH ?_
    rw [decide_eq_false (show ¬ ((p.length : Int) < 0) by omega)]
    refine GOH ?_
    refine st_slcS (l := 0) (h := p.length + 1) (by rfl) .dft (.num (by rfl)) (by omega) ?_
    refine GOH ?_
    refine st_callV (by rfl) (hy c _ A1 hok i3) (by rfl) (by exact SPx) (fun v Post hv => ?_)
    rcases hv with ⟨rfl, A', hA', rfl⟩ | ⟨rfl, B', hB', rfl⟩
    · simp only [CNx]
      refine GOH ?_
      rw [show (((⟨#[58]⟩ : ByteArray).size : Nat) : Int) = 1 from rfl, wrap64 (show -9223372036854775808 ≤ (p.length : Int) + 1 ∧ (p.length : Int) + 1 ≤ 9223372036854775807 by omega)]
      refine st_slcS (l := p.length + 1) (h := t.size) (by rfl) (.num (by rfl)) .dft (by omega) ?_
      refine GOH ?_
      exact ⟨(c ++ [t.extract 0 (p.length + 1)], t.extract (p.length + 1) t.size, A'), ⟨by simp only [hy2]; rw [← i1, hpc]; simp [hx], by simp only [hys]; omega, hA'⟩, by simp only [hys]; omega, by exact SUx, by exact IMx⟩
    · simp only [CNx]
      refine GOH ?_
      exact endQ_mk (Post := [B']) (.inr rfl) .nil ⟨rfl, .inr ⟨_, B', hok, hB', rfl⟩⟩ (by exact IMx)
theorem cutSuffix_spec (s : ByteArray) (hs : s.size ≤ 140737488355328) : Fun Tryz.prog 92 [.string s, .string ⟨#[58]⟩] [] (fun v Post => ∃ t, v = .tuple #[.string t, .bool (decide ((bytesN s).getLast? = some 58))] ∧ ((bytesN s).getLast? = some 58 → bytesN t = (bytesN s).dropLast) ∧ t.size ≤ s.size ∧ Post = []) := by
  have hlen := bytesN_len s
  have hlast : ∀ (h : 1 ≤ s.size), s.extract (s.size - 1) s.size = ⟨#[58]⟩ ↔ (bytesN s).getLast? = some 58 := fun h => by
    have hb : bytesN (s.extract (s.size - 1) s.size) = (bytesN s).drop (s.size - 1) := by rw [bytesN_extract, List.take_of_length_le (by omega)]
    rw [List.getLast?_eq_getElem?, hlen]
    constructor
    · intro e
      rw [e] at hb
      have : (bytesN s).drop (s.size - 1) = [58] := hb.symm
      have h2 := congrArg (fun l => l[0]?) this
      simpa using h2
    · intro e
      apply bytesN_inj
      rw [hb]
      obtain ⟨hk, hv⟩ := List.getElem?_eq_some_iff.1 e
      rw [List.drop_eq_getElem_cons hk, hv, List.drop_eq_nil_of_le (by omega)]; rfl
  have hsuf : Fun Tryz.prog 147 [.string s, .string ⟨#[58]⟩] [] (fun v Post => v = .bool (decide ((bytesN s).getLast? = some 58)) ∧ Post = []) := by
    refine Fun.intro low147 (by simp [n147]) ?_
    refine GOH ?_
    rw [show (((⟨#[58]⟩ : ByteArray).size : Nat) : Int) = 1 from rfl]
    by_cases h : 1 ≤ s.size
    · rw [decide_eq_true (show (s.size : Int) ≥ 1 by omega)]
      refine GOH ?_
      rw [show (((⟨#[58]⟩ : ByteArray).size : Nat) : Int) = 1 from rfl, wrap64 (show -9223372036854775808 ≤ (s.size : Int) - 1 ∧ (s.size : Int) - 1 ≤ 9223372036854775807 by omega), show (s.size : Int) - 1 = ((s.size - 1 : Nat) : Int) by omega]
      refine st_slcS (l := s.size - 1) (h := s.size) (by rfl) (.num (by rfl)) .dft (by omega) ?_
      refine GOH ?_
      refine ⟨.inr rfl, _, _, .tmp (by rfl) .nil, by exact IMx, ?_, rfl⟩
      simp only [tup, hlast h]
    · rw [decide_eq_false (show ¬ (s.size : Int) ≥ 1 by omega)]
      refine GOH ?_
      refine ⟨.inr rfl, _, _, .tmp (by rfl) .nil, by exact IMx, ?_, rfl⟩
      have : bytesN s = [] := List.length_eq_zero_iff.1 (by omega)
      simp [tup, this]
  have hcut : Fun Tryz.prog 129 [.string s, .string ⟨#[58]⟩] [] (fun v Post => ∃ t, v = .tuple #[.string t, .bool (decide ((bytesN s).getLast? = some 58))] ∧ ((bytesN s).getLast? = some 58 → bytesN t = (bytesN s).dropLast) ∧ t.size ≤ s.size ∧ Post = []) := by
    refine Fun.intro low129 (by simp [n129]) ?_
    refine GOH ?_
    refine st_callP hsuf (by rfl) ?_
    by_cases h : (bytesN s).getLast? = some 58
    · have hpos : 1 ≤ s.size := by
        cases hb : bytesN s with
        | nil => rw [hb] at h; cases h
        | cons a r => rw [← hlen, hb]; simp
      rw [decide_eq_true h]
      refine GOH ?_
      rw [show (((⟨#[58]⟩ : ByteArray).size : Nat) : Int) = 1 from rfl, wrap64 (show -9223372036854775808 ≤ (s.size : Int) - 1 ∧ (s.size : Int) - 1 ≤ 9223372036854775807 by omega), show (s.size : Int) - 1 = ((s.size - 1 : Nat) : Int) by omega]
      refine st_slcS (l := 0) (h := s.size - 1) (by rfl) .dft (.num (by rfl)) (by omega) ?_
      refine GOH ?_
      have hb : bytesN (s.extract 0 (s.size - 1)) = (bytesN s).dropLast := by rw [bytesN_extract, List.drop_zero, List.dropLast_eq_take, hlen]
      refine endQ_mk (Post := []) (.inr rfl) (.tmp (by rfl) (.tmp (by rfl) .nil)) ⟨_, rfl, fun _ => hb, ?_, rfl⟩ (by exact IMx)
      rw [← bytesN_len, hb, ← hlen]; simp
    · rw [decide_eq_false h]
      refine GOH ?_
      refine endQ_mk (Post := []) (.inr rfl) (.tmp (by rfl) (.tmp (by rfl) .nil)) ⟨_, rfl, fun h2 => absurd h2 h, Nat.le_refl _, rfl⟩ (by exact IMx)
  refine Fun.intro low92 (by simp [n92]) ?_
  refine GOH ?_
  refine st_call hcut (by rfl) (by exact SPx) (fun v Post hv => ?_)
  obtain ⟨t, rfl, h1, h2, rfl⟩ := hv
  simp only [List.nil_append]
  refine GOH ?_
  refine endQ_mk (Post := []) (.inr rfl) (.tmp (by rfl) (.tmp (by rfl) .nil)) ⟨t, rfl, h1, h2, rfl⟩ (by exact IMx)
theorem splitAfter_spec (s : ByteArray) : Fun Tryz.prog 91 [.string s, .string ⟨#[58]⟩] [] (fun v Post => ∃ qs qt qn, v = .func (.func 144) #[] #[ptr0 qs, ptr0 qt, ptr0 qn] ∧ Post = [cellsAt qs 0 [.string ⟨#[58]⟩], cellsAt qt 0 [.string s], cellsAt qn 0 [vi 1]]) := by
  have h : Fun Tryz.prog 128 [.string s, .string ⟨#[58]⟩, vi 1] [] (fun v Post => ∃ qs qt qn, v = .func (.func 144) #[] #[ptr0 qs, ptr0 qt, ptr0 qn] ∧ Post = [cellsAt qs 0 [.string ⟨#[58]⟩], cellsAt qt 0 [.string s], cellsAt qn 0 [vi 1]]) := by
    refine Fun.intro low128 (by simp [n128]) ?_
    refine GOH ?_
    refine st_box (by rfl) (fun qt => ?_)
    simp only [Value.cells]
    refine GOH ?_
    refine st_box (by rfl) (fun qs => ?_)
    simp only [Value.cells]
    refine GOH ?_
    refine st_box (by rfl) (fun qn => ?_)
    simp only [Value.cells]
    refine GOH ?_
    refine endQ_mk (.inr rfl) (.tmp (by rfl) .nil) ⟨qs, qt, qn, rfl, rfl⟩ (by exact IMx)
  refine Fun.intro low91 (by simp [n91]) ?_
  refine GOH ?_
  rw [show (((⟨#[58]⟩ : ByteArray).size : Nat) : Int) = 1 from rfl]
  refine st_call h (by rfl) (by exact SPx) (fun v Post hv => ?_)
  obtain ⟨qs, qt, qn, rfl, rfl⟩ := hv
  simp only [CNx]
  refine GOH ?_
  refine endQ_mk (.inr rfl) (.tmp (by rfl) .nil) ⟨qs, qt, qn, rfl, rfl⟩ (by exact IMx)
def keyL (p : List Nat) : Bool := decide (p.getLast? = some 58) && nameL p.dropLast
theorem keysL_good : ∀ {c : List (List Nat)} {rest : List (List Nat)} {n : Nat}, (∀ p ∈ c, keyL p = true) → keysL (c ++ rest) n = keysL rest (n + c.length) := by
  intro c
  induction c with
  | nil => intro rest n _; simp
  | cons p c ih =>
    intro rest n h
    have hp := h p (by simp)
    simp only [keyL, Bool.and_eq_true, decide_eq_true_eq] at hp
    have hne : p ≠ [] := fun e => by rw [e] at hp; simp at hp
    simp only [List.cons_append, keysL, if_neg hne, hp.1, hp.2, decide_true, Bool.and_self, if_true]
    rw [ih (fun q hq => h q (by simp [hq])), List.length_cons, show n + 1 + c.length = n + (c.length + 1) by omega]
theorem keysL_bad {p : List Nat} {rest : List (List Nat)} {n : Nat} (h0 : p ≠ []) (h : keyL p = false) : keysL (p :: rest) n = -1 := by
  simp only [keyL] at h
  simp [keysL, h0, h]
theorem pieces_len (l : List Nat) : (piecesL l).length ≤ l.length + 1 := by
  induction l with
  | nil => simp [piecesL]
  | cons c r ih =>
    simp only [piecesL]
    split
    · simp; omega
    · cases h : piecesL r with
      | nil => simp
      | cons p ps => rw [h] at ih; simp at ih ⊢; omega
theorem arity_spec (s : ByteArray) (hs : s.size ≤ 140737488355328) : Fun Tryz.prog 48 [.string s] [] (fun v Post => v = vi (arityS s) ∧ Post = []) := by
  refine Fun.intro low48 (by simp [n48]) ?_
  have hlen := bytesN_len s
  refine GOH ?_
  refine st_alloc (fun pr => ?_)
  refine GOH ?_
  refine st_callP (name_spec s hs) (by rfl) ?_
  cases hn : nameS s with
  | true =>
    refine GOH ?_
    have : arityS s = 0 := by unfold arityS arityL; rw [show nameL (bytesN s) = true from hn]; rfl
    rw [this]
    exact ⟨.inr rfl, [vi 0], [], .cell1 (v := vi 0) (by rfl) (by simp [cellsAt]) .nil, Imp.nil, ⟨rfl, rfl⟩⟩
  | false =>
    have hn2 : nameL (bytesN s) = false := hn
    refine GOH ?_
    by_cases h0 : s = ⟨#[]⟩
    · subst h0
      refine GOH ?_
      exact ⟨.inr rfl, [vi (-1)], [], .cell1 (v := vi (-1)) (by rfl) (by simp [cellsAt]) .nil, Imp.nil, ⟨rfl, rfl⟩⟩
    obtain ⟨c, r, hc, hr, hc256, hpos⟩ := bytesN_cons h0
    rw [decide_eq_false h0]
    refine GOH ?_
    refine st_idxS (by rfl) (by rfl) (j := 0) rfl hc ?_
    refine GOH ?_
    have har : arityS s = if (binB c.toNat || decide (c.toNat = 124)) = true then (if signL (bytesN s) = (bytesN s).length then 1 else -1) else keysL (piecesL (bytesN s)) 0 := by
      unfold arityS arityL
      rw [if_neg (by rw [hn2]; simp)]
      simp only [hr]
    refine st_callP (binary_spec _ hc256) (by rfl) ?_
    cases hb : binB c.toNat with
    | true =>
      refine GOH ?_
      refine st_callP (sign_spec s hs c r hc hr (.inr hb)) (by rfl) ?_
      rw [show (binB c.toNat || decide (c.toNat = 124)) = true by simp [hb], if_pos rfl] at har
      generalize signL (bytesN s) = z at har ⊢
      refine GOH ?_
      by_cases he : z = (bytesN s).length
      · rw [decide_eq_true (show ((z : Nat) : Int) = (s.size : Int) by omega)]
        rw [if_pos he] at har
        refine GOH ?_
        rw [har]
        exact ⟨.inr rfl, [vi 1], [], .cell1 (v := vi 1) (by rfl) (by simp [cellsAt]) .nil, Imp.nil, ⟨rfl, rfl⟩⟩
      · rw [decide_eq_false (show ¬ ((z : Nat) : Int) = (s.size : Int) by omega)]
        rw [if_neg he] at har
        refine GOH ?_
        rw [har]
        exact ⟨.inr rfl, [vi (-1)], [], .cell1 (v := vi (-1)) (by rfl) (by simp [cellsAt]) .nil, Imp.nil, ⟨rfl, rfl⟩⟩
    | false =>
      refine GOH ?_
      refine st_idxS (by rfl) (by rfl) (j := 0) rfl hc ?_
      refine GOH ?_
      by_cases h124 : c.toNat = 124
      · rw [show decide ((c.toNat : Int) = 124) = true from decide_eq_true (by omega)]
        refine GOH ?_
        refine st_callP (sign_spec s hs c r hc hr (.inl h124)) (by rfl) ?_
        rw [show (binB c.toNat || decide (c.toNat = 124)) = true by simp [h124], if_pos rfl] at har
        generalize signL (bytesN s) = z at har ⊢
        refine GOH ?_
        by_cases he : z = (bytesN s).length
        · rw [decide_eq_true (show ((z : Nat) : Int) = (s.size : Int) by omega)]
          rw [if_pos he] at har
          refine GOH ?_
          rw [har]
          exact ⟨.inr rfl, [vi 1], [], .cell1 (v := vi 1) (by rfl) (by simp [cellsAt]) .nil, Imp.nil, ⟨rfl, rfl⟩⟩
        · rw [decide_eq_false (show ¬ ((z : Nat) : Int) = (s.size : Int) by omega)]
          rw [if_neg he] at har
          refine GOH ?_
          rw [har]
          exact ⟨.inr rfl, [vi (-1)], [], .cell1 (v := vi (-1)) (by rfl) (by simp [cellsAt]) .nil, Imp.nil, ⟨rfl, rfl⟩⟩
      rw [show decide ((c.toNat : Int) = 124) = false from decide_eq_false (by omega)]
      rw [if_neg (by simp [hb, h124])] at har
      refine GOH ?_
      refine st_alloc (fun pn => ?_)
      refine GOH ?_
      refine st_call (splitAfter_spec s) (by rfl) (by exact SPx) (fun v Post hv => ?_)
      obtain ⟨qs, qt, qn, rfl, rfl⟩ := hv
      simp only [CNx]
      refine GOH ?_
      have hcl : ∀ d : List ByteArray, OkC (fun full : List ByteArray => full.map bytesN = piecesL (bytesN s)) d → d.length ≤ s.size + 1 := fun d ⟨t, ht⟩ => by
        have h1 := congrArg List.length ht
        have h2 := pieces_len (bytesN s)
        simp at h1; omega
      refine VC.rangef (α := ByteArray) (enc := fun x => [.string x]) (fun d A => (∀ x ∈ d, keyL (bytesN x) = true) ∧ A = [cellsAt pn 0 [vi d.length], cellsAt pr 0 [vi 0]].flatten) ([cellsAt pn 0 [vi 0], cellsAt pr 0 [vi 0]].flatten) (by rfl) (keys_iter qs qt qn s hs) (R := [cellsAt pn 0 [vi 0], cellsAt pr 0 [vi 0]]) (by exact SPx) (Imp.perm (by simp))
        ⟨fun x hx => (by cases hx), rfl⟩ (fun _ => rfl) ?_ ?_
      · rintro d x A hok ⟨hd, rfl⟩
        have hdl := hcl _ hok
        simp only [List.length_append, List.length_singleton] at hdl
        obtain ⟨rest, hrest⟩ := hok
        have har2 : arityS s = keysL (bytesN x :: rest.map bytesN) d.length := by
          rw [har, ← hrest]
          have := keysL_good (c := d.map bytesN) (rest := bytesN x :: rest.map bytesN) (n := 0) (fun p hp => by obtain ⟨y, hy, rfl⟩ := List.mem_map.1 hp; exact hd y hy)
          simpa using this
        have hxs : x.size ≤ s.size := by
          have h1 : bytesN x ∈ piecesL (bytesN s) := by rw [← hrest]; simp
          have h2 := (List.sublist_flatten_of_mem h1).length_le
          rw [pieces_flat, bytesN_len, bytesN_len] at h2
          omega
        simp only [bindE]
        refine VC.imp (H' := [cellsAt pn 0 [vi d.length], cellsAt pr 0 [vi 0]]) (Imp.perm (by simp)) ?_
        refine VC.reg ?_
        refine GOH ?_
        refine ⟨trivial, ?_⟩
        refine GOH ?_
        by_cases hx0 : x = ⟨#[]⟩
        · rw [decide_eq_true hx0]
          have : arityS s = d.length := by
            rw [har2, hx0]; rfl
          refine GOH ?_
          rw [this]
          exact ⟨.inr rfl, [vi d.length], [], .cell1 (v := vi d.length) (by rfl) (by simp [cellsAt]) .nil, Imp.nil, ⟨rfl, rfl⟩⟩
        rw [decide_eq_false hx0]
        have hx1 : bytesN x ≠ [] := fun e => hx0 (bytesN_inj (by rw [e]; rfl))
        refine GOH ?_
        refine st_call (cutSuffix_spec x (by omega)) (by rfl) (by exact SPx) (fun v Post hv => ?_)
        obtain ⟨y, rfl, hy1, hy2, rfl⟩ := hv
        simp only [List.nil_append]
        by_cases h58 : (bytesN x).getLast? = some 58
        · rw [decide_eq_true h58]
          have hyb := hy1 h58
          refine GOH ?_
          refine st_callP (name_spec y (by omega)) (by rfl) ?_
          cases hny : nameS y with
          | true =>
            have hk : keyL (bytesN x) = true := by
              unfold keyL; rw [decide_eq_true h58, ← hyb]; exact hny
            refine GOH ?_
            refine ⟨[cellsAt pn 0 [vi (d.length + 1 : Nat)], cellsAt pr 0 [vi 0]].flatten, ⟨fun z hz => ?_, by simp⟩, ?_⟩
            · rcases List.mem_append.1 hz with h | h
              · exact hd z h
              · rw [List.mem_singleton.1 h]; exact hk
            · refine Imp.cut (M := [cellsAt pn 0 [vi ((d.length : Int) + 1)], cellsAt pr 0 [vi 0]]) (by exact IMx) (Imp.perm (by simp))
          | false =>
            have hk : keyL (bytesN x) = false := by
              unfold keyL; rw [decide_eq_true h58, ← hyb]; exact hny
            have : arityS s = -1 := by rw [har2, keysL_bad hx1 hk]
            refine GOH ?_
            rw [this]
            exact ⟨.inr rfl, [vi (-1)], [], .cell1 (v := vi (-1)) (by rfl) (by simp [cellsAt]) .nil, Imp.nil, ⟨rfl, rfl⟩⟩
        · rw [decide_eq_false h58]
          have hk : keyL (bytesN x) = false := by
            unfold keyL; rw [decide_eq_false h58]; rfl
          have : arityS s = -1 := by rw [har2, keysL_bad hx1 hk]
          refine GOH ?_
          rw [this]
          exact ⟨.inr rfl, [vi (-1)], [], .cell1 (v := vi (-1)) (by rfl) (by simp [cellsAt]) .nil, Imp.nil, ⟨rfl, rfl⟩⟩
      · rintro full A hfull ⟨hd, rfl⟩
        have : arityS s = full.length := by
          rw [har, ← hfull]
          have := keysL_good (c := full.map bytesN) (rest := []) (n := 0) (fun p hp => by obtain ⟨y, hy, rfl⟩ := List.mem_map.1 hp; exact hd y hy)
          simpa [keysL] using this
        refine VC.imp (H' := [cellsAt pn 0 [vi full.length], cellsAt pr 0 [vi 0]]) (Imp.perm (by simp)) ?_
        refine GOH ?_
        rw [this]
        exact ⟨.inr rfl, [vi full.length], [], .cell1 (v := vi full.length) (by rfl) (by simp [cellsAt]) .nil, Imp.nil, ⟨rfl, rfl⟩⟩
end Go.Proofs.YtmnmandpdadedaaGreatDoor
