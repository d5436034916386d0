/- A row compared with the row of zeros. -/
import Derived.Test.YtjpfjklobnilkaaGreatPB
import Derived.ChangeKeysEq
namespace Go.Proofs.YtjpfjklobnilkaaGreat
open Go.RowKit Go.Shelf
set_option maxRecDepth 100000 in
theorem eq_row (a0 a1 a2 a3 a4 a5 a6:Int) (w:World):(Op.equal 111 (.agg #[.int .i64 a0,.int .i64 a1,.int .i64 a2,.int .i64 a3,.int .i64 a4,.int .i64 a5,.int .i64 a6]) (.agg #[.int .i64 0,.int .i64 0,.int .i64 0,.int .i64 0,.int .i64 0,.int .i64 0,.int .i64 0])).run Tryz.prog w
  = .ok (a0==0&&(a1==0&&(a2==0&&(a3==0&&(a4==0&&(a5==0&&a6==0)))))) w:=by
 have hi:(Tryz.prog.info? 2).isSome=true:=by kernel_rfl
 obtain ⟨i,hi⟩:=Option.isSome_iff_exists.1 hi
 have hsz:Tryz.prog.cellsOf 2=1:=by kernel_rfl
 have hp:∀ (x0 x1 x2 x3 x4 x5 x6:Int) w,
   (part 2 #[.int .i64 x0,.int .i64 x1,.int .i64 x2,.int .i64 x3,.int .i64 x4,.int .i64 x5,.int .i64 x6] (0 * 1)).run Tryz.prog w = .ok (.int .i64 x0) w ∧
   (part 2 #[.int .i64 x0,.int .i64 x1,.int .i64 x2,.int .i64 x3,.int .i64 x4,.int .i64 x5,.int .i64 x6] (1 * 1)).run Tryz.prog w = .ok (.int .i64 x1) w ∧
   (part 2 #[.int .i64 x0,.int .i64 x1,.int .i64 x2,.int .i64 x3,.int .i64 x4,.int .i64 x5,.int .i64 x6] (2 * 1)).run Tryz.prog w = .ok (.int .i64 x2) w ∧
   (part 2 #[.int .i64 x0,.int .i64 x1,.int .i64 x2,.int .i64 x3,.int .i64 x4,.int .i64 x5,.int .i64 x6] (3 * 1)).run Tryz.prog w = .ok (.int .i64 x3) w ∧
   (part 2 #[.int .i64 x0,.int .i64 x1,.int .i64 x2,.int .i64 x3,.int .i64 x4,.int .i64 x5,.int .i64 x6] (4 * 1)).run Tryz.prog w = .ok (.int .i64 x4) w ∧
   (part 2 #[.int .i64 x0,.int .i64 x1,.int .i64 x2,.int .i64 x3,.int .i64 x4,.int .i64 x5,.int .i64 x6] (5 * 1)).run Tryz.prog w = .ok (.int .i64 x5) w ∧
   (part 2 #[.int .i64 x0,.int .i64 x1,.int .i64 x2,.int .i64 x3,.int .i64 x4,.int .i64 x5,.int .i64 x6] (6 * 1)).run Tryz.prog w = .ok (.int .i64 x6) w:=by
  intro x0 x1 x2 x3 x4 x5 x6 w
  refine ⟨?_,?_,?_,?_,?_,?_,?_⟩ <;> kernel_rfl
 have e0:=fun w=>(hp a0 a1 a2 a3 a4 a5 a6 w).1
 have e1:=fun w=>(hp a0 a1 a2 a3 a4 a5 a6 w).2.1
 have e2:=fun w=>(hp a0 a1 a2 a3 a4 a5 a6 w).2.2.1
 have e3:=fun w=>(hp a0 a1 a2 a3 a4 a5 a6 w).2.2.2.1
 have e4:=fun w=>(hp a0 a1 a2 a3 a4 a5 a6 w).2.2.2.2.1
 have e5:=fun w=>(hp a0 a1 a2 a3 a4 a5 a6 w).2.2.2.2.2.1
 have e6:=fun w=>(hp a0 a1 a2 a3 a4 a5 a6 w).2.2.2.2.2.2
 have z0:=fun w=>(hp 0 0 0 0 0 0 0 w).1
 have z1:=fun w=>(hp 0 0 0 0 0 0 0 w).2.1
 have z2:=fun w=>(hp 0 0 0 0 0 0 0 w).2.2.1
 have z3:=fun w=>(hp 0 0 0 0 0 0 0 w).2.2.2.1
 have z4:=fun w=>(hp 0 0 0 0 0 0 0 w).2.2.2.2.1
 have z5:=fun w=>(hp 0 0 0 0 0 0 0 w).2.2.2.2.2.1
 have z6:=fun w=>(hp 0 0 0 0 0 0 0 w).2.2.2.2.2.2
 clear hp
 have he:∀ x:Int,(Op.equalIn 9999 2 (.int .i64 x) (.int .i64 0)).run Tryz.prog w = .ok (x==0) w:=fun x=>by kernel_rfl
 show (Op.equalIn (9999+1) 111 _ _).run _ _=_
 rw [run_equalIn_array w 9999 _ _ Tryz.underlying111 hi,hsz]
 show (Op.eqItems 9999 2 1 _ _ [0,1,2,3,4,5,6]).run _ _=_
 simp only [Op.eqItems,Sem.run_bind,e0,z0,he,Result.andThen_ok]
 rcases Bool.eq_false_or_eq_true (a0==0) with h0 | h0
 rotate_left
 ·rw [h0]; simp
 rw [h0]
 simp only [Bool.not_true,Bool.false_eq_true,if_false,Bool.true_and,Sem.run_bind,e1,z1,he,Result.andThen_ok]
 rcases Bool.eq_false_or_eq_true (a1==0) with h1 | h1
 rotate_left
 ·rw [h1]; simp
 rw [h1]
 simp only [Bool.not_true,Bool.false_eq_true,if_false,Bool.true_and,Sem.run_bind,e2,z2,he,Result.andThen_ok]
 rcases Bool.eq_false_or_eq_true (a2==0) with h2 | h2
 rotate_left
 ·rw [h2]; simp
 rw [h2]
 simp only [Bool.not_true,Bool.false_eq_true,if_false,Bool.true_and,Sem.run_bind,e3,z3,he,Result.andThen_ok]
 rcases Bool.eq_false_or_eq_true (a3==0) with h3 | h3
 rotate_left
 ·rw [h3]; simp
 rw [h3]
 simp only [Bool.not_true,Bool.false_eq_true,if_false,Bool.true_and,Sem.run_bind,e4,z4,he,Result.andThen_ok]
 rcases Bool.eq_false_or_eq_true (a4==0) with h4 | h4
 rotate_left
 ·rw [h4]; simp
 rw [h4]
 simp only [Bool.not_true,Bool.false_eq_true,if_false,Bool.true_and,Sem.run_bind,e5,z5,he,Result.andThen_ok]
 rcases Bool.eq_false_or_eq_true (a5==0) with h5 | h5
 rotate_left
 ·rw [h5]; simp
 rw [h5]
 simp only [Bool.not_true,Bool.false_eq_true,if_false,Bool.true_and,Sem.run_bind,e6,z6,he,Result.andThen_ok]
 rcases Bool.eq_false_or_eq_true (a6==0) with h6 | h6
 rotate_left
 ·rw [h6]; simp
 rw [h6]; simp
theorem eq_row10 (a0 a1 a2 a3 a4 a5 a6:Int) (w:World):(Op.equalIn 10000 111 (.agg #[.int .i64 a0,.int .i64 a1,.int .i64 a2,.int .i64 a3,.int .i64 a4,.int .i64 a5,.int .i64 a6]) (.agg #[.int .i64 0,.int .i64 0,.int .i64 0,.int .i64 0,.int .i64 0,.int .i64 0,.int .i64 0])).run Tryz.prog w
  = .ok (a0==0&&(a1==0&&(a2==0&&(a3==0&&(a4==0&&(a5==0&&a6==0)))))) w:=eq_row a0 a1 a2 a3 a4 a5 a6 w
theorem guard_row (a b:Operand) (xs ys:Array Value) (w:World):(eqGuard .neq 111 a b (.agg xs) (.agg ys)).run Tryz.prog w = .ok () w:=by kernel_rfl
theorem guard_state (a b:Operand) (xs ys:Array Value) (w:World):(eqGuard .eql 130 a b (.agg xs) (.agg ys)).run Tryz.prog w = .ok () w:=by kernel_rfl
end Go.Proofs.YtjpfjklobnilkaaGreat
