/-
  Facts about the program's types and functions, printed by a program (wip/tools/Facts.lean).
-/
import Derived.Test.YtgopamojnoefiaaGA4
import Derived.Test.YtgopamojnoefiaaChecked
namespace Go.Proofs.Ytgopamojnoefiaa
open Go Go.Abs
@[simp] theorem info0 : Try.prog.info? 0 = some Try.t0 := by kernel_rfl
@[simp] theorem size0 : Try.t0.size = 1 := by kernel_rfl
@[simp] theorem bytes0 : Try.t0.bytes = 0 := by kernel_rfl
@[simp] theorem info1 : Try.prog.info? 1 = some Try.t1 := by kernel_rfl
@[simp] theorem size1 : Try.t1.size = 1 := by kernel_rfl
@[simp] theorem bytes1 : Try.t1.bytes = 8 := by kernel_rfl
@[simp] theorem zero1 : zeroA Try.prog 1 = some (.nilFunc, 1) := by kernel_rfl
@[simp] theorem info2 : Try.prog.info? 2 = some Try.t2 := by kernel_rfl
@[simp] theorem size2 : Try.t2.size = 1 := by kernel_rfl
@[simp] theorem bytes2 : Try.t2.bytes = 8 := by kernel_rfl
@[simp] theorem zero2 : zeroA Try.prog 2 = some (.int .i64 0, 1) := by kernel_rfl
@[simp] theorem info3 : Try.prog.info? 3 = some Try.t3 := by kernel_rfl
@[simp] theorem size3 : Try.t3.size = 1 := by kernel_rfl
@[simp] theorem bytes3 : Try.t3.bytes = 8 := by kernel_rfl
@[simp] theorem zero3 : zeroA Try.prog 3 = some (.int .i64 0, 1) := by kernel_rfl
@[simp] theorem info4 : Try.prog.info? 4 = some Try.t4 := by kernel_rfl
@[simp] theorem size4 : Try.t4.size = 1 := by kernel_rfl
@[simp] theorem bytes4 : Try.t4.bytes = 1 := by kernel_rfl
@[simp] theorem zero4 : zeroA Try.prog 4 = some (.bool false, 1) := by kernel_rfl
@[simp] theorem info5 : Try.prog.info? 5 = some Try.t5 := by kernel_rfl
@[simp] theorem size5 : Try.t5.size = 1 := by kernel_rfl
@[simp] theorem bytes5 : Try.t5.bytes = 1 := by kernel_rfl
@[simp] theorem zero5 : zeroA Try.prog 5 = some (.int .u8 0, 1) := by kernel_rfl
@[simp] theorem info6 : Try.prog.info? 6 = some Try.t6 := by kernel_rfl
@[simp] theorem size6 : Try.t6.size = 1 := by kernel_rfl
@[simp] theorem bytes6 : Try.t6.bytes = 1 := by kernel_rfl
@[simp] theorem zero6 : zeroA Try.prog 6 = some (.int .u8 0, 1) := by kernel_rfl
@[simp] theorem info7 : Try.prog.info? 7 = some Try.t7 := by kernel_rfl
@[simp] theorem size7 : Try.t7.size = 4 := by kernel_rfl
@[simp] theorem bytes7 : Try.t7.bytes = 24 := by kernel_rfl
@[simp] theorem field7_0 : fieldA Try.prog 7 0 = some (0, 2, 1) := by kernel_rfl
@[simp] theorem field7_1 : fieldA Try.prog 7 1 = some (1, 3, 1) := by kernel_rfl
@[simp] theorem field7_2 : fieldA Try.prog 7 2 = some (2, 4, 1) := by kernel_rfl
@[simp] theorem field7_3 : fieldA Try.prog 7 3 = some (3, 6, 1) := by kernel_rfl
@[simp] theorem zero7 : zeroA Try.prog 7 = some (.agg #[.int .i64 0, .int .i64 0, .bool false, .int .u8 0], 4) := by kernel_rfl
@[simp] theorem info8 : Try.prog.info? 8 = some Try.t8 := by kernel_rfl
@[simp] theorem size8 : Try.t8.size = 4 := by kernel_rfl
@[simp] theorem bytes8 : Try.t8.bytes = 24 := by kernel_rfl
@[simp] theorem field8_0 : fieldA Try.prog 8 0 = some (0, 2, 1) := by kernel_rfl
@[simp] theorem field8_1 : fieldA Try.prog 8 1 = some (1, 3, 1) := by kernel_rfl
@[simp] theorem field8_2 : fieldA Try.prog 8 2 = some (2, 4, 1) := by kernel_rfl
@[simp] theorem field8_3 : fieldA Try.prog 8 3 = some (3, 6, 1) := by kernel_rfl
@[simp] theorem zero8 : zeroA Try.prog 8 = some (.agg #[.int .i64 0, .int .i64 0, .bool false, .int .u8 0], 4) := by kernel_rfl
@[simp] theorem info9 : Try.prog.info? 9 = some Try.t9 := by kernel_rfl
@[simp] theorem size9 : Try.t9.size = 1 := by kernel_rfl
@[simp] theorem bytes9 : Try.t9.bytes = 16 := by kernel_rfl
@[simp] theorem info10 : Try.prog.info? 10 = some Try.t10 := by kernel_rfl
@[simp] theorem size10 : Try.t10.size = 1 := by kernel_rfl
@[simp] theorem bytes10 : Try.t10.bytes = 16 := by kernel_rfl
@[simp] theorem info11 : Try.prog.info? 11 = some Try.t11 := by kernel_rfl
@[simp] theorem size11 : Try.t11.size = 1 := by kernel_rfl
@[simp] theorem bytes11 : Try.t11.bytes = 16 := by kernel_rfl
@[simp] theorem info12 : Try.prog.info? 12 = some Try.t12 := by kernel_rfl
@[simp] theorem size12 : Try.t12.size = 1 := by kernel_rfl
@[simp] theorem bytes12 : Try.t12.bytes = 8 := by kernel_rfl
@[simp] theorem zero12 : zeroA Try.prog 12 = some (.int .u64 0, 1) := by kernel_rfl
@[simp] theorem info13 : Try.prog.info? 13 = some Try.t13 := by kernel_rfl
@[simp] theorem size13 : Try.t13.size = 2 := by kernel_rfl
@[simp] theorem bytes13 : Try.t13.bytes = 24 := by kernel_rfl
@[simp] theorem field13_0 : fieldA Try.prog 13 0 = some (0, 9, 1) := by kernel_rfl
@[simp] theorem field13_1 : fieldA Try.prog 13 1 = some (1, 12, 1) := by kernel_rfl
@[simp] theorem info14 : Try.prog.info? 14 = some Try.t14 := by kernel_rfl
@[simp] theorem size14 : Try.t14.size = 2 := by kernel_rfl
@[simp] theorem bytes14 : Try.t14.bytes = 24 := by kernel_rfl
@[simp] theorem field14_0 : fieldA Try.prog 14 0 = some (0, 9, 1) := by kernel_rfl
@[simp] theorem field14_1 : fieldA Try.prog 14 1 = some (1, 12, 1) := by kernel_rfl
@[simp] theorem info15 : Try.prog.info? 15 = some Try.t15 := by kernel_rfl
@[simp] theorem size15 : Try.t15.size = 1 := by kernel_rfl
@[simp] theorem bytes15 : Try.t15.bytes = 8 := by kernel_rfl
@[simp] theorem zero15 : zeroA Try.prog 15 = some (.pointer none, 1) := by kernel_rfl
@[simp] theorem info16 : Try.prog.info? 16 = some Try.t16 := by kernel_rfl
@[simp] theorem size16 : Try.t16.size = 1 := by kernel_rfl
@[simp] theorem bytes16 : Try.t16.bytes = 8 := by kernel_rfl
@[simp] theorem zero16 : zeroA Try.prog 16 = some (.pointer none, 1) := by kernel_rfl
@[simp] theorem info17 : Try.prog.info? 17 = some Try.t17 := by kernel_rfl
@[simp] theorem size17 : Try.t17.size = 1 := by kernel_rfl
@[simp] theorem bytes17 : Try.t17.bytes = 8 := by kernel_rfl
@[simp] theorem zero17 : zeroA Try.prog 17 = some (.pointer none, 1) := by kernel_rfl
@[simp] theorem info18 : Try.prog.info? 18 = some Try.t18 := by kernel_rfl
@[simp] theorem size18 : Try.t18.size = 1 := by kernel_rfl
@[simp] theorem bytes18 : Try.t18.bytes = 8 := by kernel_rfl
@[simp] theorem field18_0 : fieldA Try.prog 18 0 = some (0, 17, 1) := by kernel_rfl
@[simp] theorem zero18 : zeroA Try.prog 18 = some (.agg #[.pointer none], 1) := by kernel_rfl
@[simp] theorem info19 : Try.prog.info? 19 = some Try.t19 := by kernel_rfl
@[simp] theorem size19 : Try.t19.size = 1 := by kernel_rfl
@[simp] theorem bytes19 : Try.t19.bytes = 8 := by kernel_rfl
@[simp] theorem field19_0 : fieldA Try.prog 19 0 = some (0, 17, 1) := by kernel_rfl
@[simp] theorem zero19 : zeroA Try.prog 19 = some (.agg #[.pointer none], 1) := by kernel_rfl
@[simp] theorem info20 : Try.prog.info? 20 = some Try.t20 := by kernel_rfl
@[simp] theorem size20 : Try.t20.size = 1 := by kernel_rfl
@[simp] theorem bytes20 : Try.t20.bytes = 16 := by kernel_rfl
@[simp] theorem zero20 : zeroA Try.prog 20 = some (.nilIface, 1) := by kernel_rfl
@[simp] theorem info21 : Try.prog.info? 21 = some Try.t21 := by kernel_rfl
@[simp] theorem size21 : Try.t21.size = 1 := by kernel_rfl
@[simp] theorem bytes21 : Try.t21.bytes = 4 := by kernel_rfl
@[simp] theorem zero21 : zeroA Try.prog 21 = some (.int .i32 0, 1) := by kernel_rfl
@[simp] theorem info22 : Try.prog.info? 22 = some Try.t22 := by kernel_rfl
@[simp] theorem size22 : Try.t22.size = 1 := by kernel_rfl
@[simp] theorem bytes22 : Try.t22.bytes = 8 := by kernel_rfl
@[simp] theorem zero22 : zeroA Try.prog 22 = some (.int .i64 0, 1) := by kernel_rfl
@[simp] theorem info23 : Try.prog.info? 23 = some Try.t23 := by kernel_rfl
@[simp] theorem size23 : Try.t23.size = 1 := by kernel_rfl
@[simp] theorem bytes23 : Try.t23.bytes = 24 := by kernel_rfl
@[simp] theorem elem23 : elemA Try.prog 23 = some (25, Try.t25) := by kernel_rfl
@[simp] theorem zero23 : zeroA Try.prog 23 = some (.slice none 0 0, 1) := by kernel_rfl
@[simp] theorem info24 : Try.prog.info? 24 = some Try.t24 := by kernel_rfl
@[simp] theorem size24 : Try.t24.size = 3 := by kernel_rfl
@[simp] theorem bytes24 : Try.t24.bytes = 40 := by kernel_rfl
@[simp] theorem field24_0 : fieldA Try.prog 24 0 = some (0, 22, 1) := by kernel_rfl
@[simp] theorem field24_1 : fieldA Try.prog 24 1 = some (1, 2, 1) := by kernel_rfl
@[simp] theorem field24_2 : fieldA Try.prog 24 2 = some (2, 23, 1) := by kernel_rfl
@[simp] theorem zero24 : zeroA Try.prog 24 = some (.agg #[.int .i64 0, .int .i64 0, .slice none 0 0], 3) := by kernel_rfl
@[simp] theorem info25 : Try.prog.info? 25 = some Try.t25 := by kernel_rfl
@[simp] theorem size25 : Try.t25.size = 3 := by kernel_rfl
@[simp] theorem bytes25 : Try.t25.bytes = 40 := by kernel_rfl
@[simp] theorem field25_0 : fieldA Try.prog 25 0 = some (0, 22, 1) := by kernel_rfl
@[simp] theorem field25_1 : fieldA Try.prog 25 1 = some (1, 2, 1) := by kernel_rfl
@[simp] theorem field25_2 : fieldA Try.prog 25 2 = some (2, 23, 1) := by kernel_rfl
@[simp] theorem zero25 : zeroA Try.prog 25 = some (.agg #[.int .i64 0, .int .i64 0, .slice none 0 0], 3) := by kernel_rfl
@[simp] theorem info26 : Try.prog.info? 26 = some Try.t26 := by kernel_rfl
@[simp] theorem size26 : Try.t26.size = 1 := by kernel_rfl
@[simp] theorem bytes26 : Try.t26.bytes = 8 := by kernel_rfl
@[simp] theorem zero26 : zeroA Try.prog 26 = some (.nilFunc, 1) := by kernel_rfl
@[simp] theorem info27 : Try.prog.info? 27 = some Try.t27 := by kernel_rfl
@[simp] theorem size27 : Try.t27.size = 1 := by kernel_rfl
@[simp] theorem bytes27 : Try.t27.bytes = 8 := by kernel_rfl
@[simp] theorem zero27 : zeroA Try.prog 27 = some (.nilFunc, 1) := by kernel_rfl
@[simp] theorem info28 : Try.prog.info? 28 = some Try.t28 := by kernel_rfl
@[simp] theorem size28 : Try.t28.size = 1 := by kernel_rfl
@[simp] theorem bytes28 : Try.t28.bytes = 8 := by kernel_rfl
@[simp] theorem zero28 : zeroA Try.prog 28 = some (.int .i64 0, 1) := by kernel_rfl
@[simp] theorem info29 : Try.prog.info? 29 = some Try.t29 := by kernel_rfl
@[simp] theorem size29 : Try.t29.size = 1 := by kernel_rfl
@[simp] theorem bytes29 : Try.t29.bytes = 8 := by kernel_rfl
@[simp] theorem zero29 : zeroA Try.prog 29 = some (.nilFunc, 1) := by kernel_rfl
@[simp] theorem info30 : Try.prog.info? 30 = some Try.t30 := by kernel_rfl
@[simp] theorem size30 : Try.t30.size = 1 := by kernel_rfl
@[simp] theorem bytes30 : Try.t30.bytes = 8 := by kernel_rfl
@[simp] theorem zero30 : zeroA Try.prog 30 = some (.nilFunc, 1) := by kernel_rfl
@[simp] theorem info31 : Try.prog.info? 31 = some Try.t31 := by kernel_rfl
@[simp] theorem size31 : Try.t31.size = 1 := by kernel_rfl
@[simp] theorem bytes31 : Try.t31.bytes = 8 := by kernel_rfl
@[simp] theorem zero31 : zeroA Try.prog 31 = some (.nilFunc, 1) := by kernel_rfl
@[simp] theorem info32 : Try.prog.info? 32 = some Try.t32 := by kernel_rfl
@[simp] theorem size32 : Try.t32.size = 1 := by kernel_rfl
@[simp] theorem bytes32 : Try.t32.bytes = 0 := by kernel_rfl
@[simp] theorem info33 : Try.prog.info? 33 = some Try.t33 := by kernel_rfl
@[simp] theorem size33 : Try.t33.size = 1 := by kernel_rfl
@[simp] theorem bytes33 : Try.t33.bytes = 8 := by kernel_rfl
@[simp] theorem zero33 : zeroA Try.prog 33 = some (.nilFunc, 1) := by kernel_rfl
@[simp] theorem info34 : Try.prog.info? 34 = some Try.t34 := by kernel_rfl
@[simp] theorem size34 : Try.t34.size = 1 := by kernel_rfl
@[simp] theorem bytes34 : Try.t34.bytes = 0 := by kernel_rfl
@[simp] theorem info35 : Try.prog.info? 35 = some Try.t35 := by kernel_rfl
@[simp] theorem size35 : Try.t35.size = 1 := by kernel_rfl
@[simp] theorem bytes35 : Try.t35.bytes = 8 := by kernel_rfl
@[simp] theorem zero35 : zeroA Try.prog 35 = some (.nilFunc, 1) := by kernel_rfl
@[simp] theorem info36 : Try.prog.info? 36 = some Try.t36 := by kernel_rfl
@[simp] theorem size36 : Try.t36.size = 1 := by kernel_rfl
@[simp] theorem bytes36 : Try.t36.bytes = 8 := by kernel_rfl
@[simp] theorem zero36 : zeroA Try.prog 36 = some (.nilFunc, 1) := by kernel_rfl
@[simp] theorem info37 : Try.prog.info? 37 = some Try.t37 := by kernel_rfl
@[simp] theorem size37 : Try.t37.size = 1 := by kernel_rfl
@[simp] theorem bytes37 : Try.t37.bytes = 8 := by kernel_rfl
@[simp] theorem zero37 : zeroA Try.prog 37 = some (.nilFunc, 1) := by kernel_rfl
@[simp] theorem info38 : Try.prog.info? 38 = some Try.t38 := by kernel_rfl
@[simp] theorem size38 : Try.t38.size = 1 := by kernel_rfl
@[simp] theorem bytes38 : Try.t38.bytes = 8 := by kernel_rfl
@[simp] theorem zero38 : zeroA Try.prog 38 = some (.nilFunc, 1) := by kernel_rfl
@[simp] theorem info39 : Try.prog.info? 39 = some Try.t39 := by kernel_rfl
@[simp] theorem size39 : Try.t39.size = 1 := by kernel_rfl
@[simp] theorem bytes39 : Try.t39.bytes = 8 := by kernel_rfl
@[simp] theorem zero39 : zeroA Try.prog 39 = some (.nilFunc, 1) := by kernel_rfl
@[simp] theorem info40 : Try.prog.info? 40 = some Try.t40 := by kernel_rfl
@[simp] theorem size40 : Try.t40.size = 1 := by kernel_rfl
@[simp] theorem bytes40 : Try.t40.bytes = 8 := by kernel_rfl
@[simp] theorem zero40 : zeroA Try.prog 40 = some (.nilFunc, 1) := by kernel_rfl
@[simp] theorem info41 : Try.prog.info? 41 = some Try.t41 := by kernel_rfl
@[simp] theorem size41 : Try.t41.size = 1 := by kernel_rfl
@[simp] theorem bytes41 : Try.t41.bytes = 8 := by kernel_rfl
@[simp] theorem zero41 : zeroA Try.prog 41 = some (.nilFunc, 1) := by kernel_rfl
@[simp] theorem info42 : Try.prog.info? 42 = some Try.t42 := by kernel_rfl
@[simp] theorem size42 : Try.t42.size = 1 := by kernel_rfl
@[simp] theorem bytes42 : Try.t42.bytes = 8 := by kernel_rfl
@[simp] theorem zero42 : zeroA Try.prog 42 = some (.nilFunc, 1) := by kernel_rfl
@[simp] theorem info43 : Try.prog.info? 43 = some Try.t43 := by kernel_rfl
@[simp] theorem size43 : Try.t43.size = 1 := by kernel_rfl
@[simp] theorem bytes43 : Try.t43.bytes = 8 := by kernel_rfl
@[simp] theorem zero43 : zeroA Try.prog 43 = some (.nilFunc, 1) := by kernel_rfl
@[simp] theorem info44 : Try.prog.info? 44 = some Try.t44 := by kernel_rfl
@[simp] theorem size44 : Try.t44.size = 1 := by kernel_rfl
@[simp] theorem bytes44 : Try.t44.bytes = 8 := by kernel_rfl
@[simp] theorem zero44 : zeroA Try.prog 44 = some (.nilFunc, 1) := by kernel_rfl
@[simp] theorem info45 : Try.prog.info? 45 = some Try.t45 := by kernel_rfl
@[simp] theorem size45 : Try.t45.size = 1 := by kernel_rfl
@[simp] theorem bytes45 : Try.t45.bytes = 8 := by kernel_rfl
@[simp] theorem zero45 : zeroA Try.prog 45 = some (.nilFunc, 1) := by kernel_rfl
@[simp] theorem info46 : Try.prog.info? 46 = some Try.t46 := by kernel_rfl
@[simp] theorem size46 : Try.t46.size = 1 := by kernel_rfl
@[simp] theorem bytes46 : Try.t46.bytes = 8 := by kernel_rfl
@[simp] theorem zero46 : zeroA Try.prog 46 = some (.nilFunc, 1) := by kernel_rfl
@[simp] theorem info47 : Try.prog.info? 47 = some Try.t47 := by kernel_rfl
@[simp] theorem size47 : Try.t47.size = 1 := by kernel_rfl
@[simp] theorem bytes47 : Try.t47.bytes = 24 := by kernel_rfl
@[simp] theorem elem47 : elemA Try.prog 47 = some (50, Try.t50) := by kernel_rfl
@[simp] theorem zero47 : zeroA Try.prog 47 = some (.slice none 0 0, 1) := by kernel_rfl
@[simp] theorem info48 : Try.prog.info? 48 = some Try.t48 := by kernel_rfl
@[simp] theorem size48 : Try.t48.size = 1 := by kernel_rfl
@[simp] theorem bytes48 : Try.t48.bytes = 8 := by kernel_rfl
@[simp] theorem zero48 : zeroA Try.prog 48 = some (.nilFunc, 1) := by kernel_rfl
@[simp] theorem info49 : Try.prog.info? 49 = some Try.t49 := by kernel_rfl
@[simp] theorem size49 : Try.t49.size = 4 := by kernel_rfl
@[simp] theorem bytes49 : Try.t49.bytes = 48 := by kernel_rfl
@[simp] theorem field49_0 : fieldA Try.prog 49 0 = some (0, 3, 1) := by kernel_rfl
@[simp] theorem field49_1 : fieldA Try.prog 49 1 = some (1, 25, 3) := by kernel_rfl
@[simp] theorem zero49 : zeroA Try.prog 49 = some (.agg #[.int .i64 0, .int .i64 0, .int .i64 0, .slice none 0 0], 4) := by kernel_rfl
@[simp] theorem info50 : Try.prog.info? 50 = some Try.t50 := by kernel_rfl
@[simp] theorem size50 : Try.t50.size = 4 := by kernel_rfl
@[simp] theorem bytes50 : Try.t50.bytes = 48 := by kernel_rfl
@[simp] theorem field50_0 : fieldA Try.prog 50 0 = some (0, 3, 1) := by kernel_rfl
@[simp] theorem field50_1 : fieldA Try.prog 50 1 = some (1, 25, 3) := by kernel_rfl
@[simp] theorem zero50 : zeroA Try.prog 50 = some (.agg #[.int .i64 0, .int .i64 0, .int .i64 0, .slice none 0 0], 4) := by kernel_rfl
@[simp] theorem info51 : Try.prog.info? 51 = some Try.t51 := by kernel_rfl
@[simp] theorem size51 : Try.t51.size = 1 := by kernel_rfl
@[simp] theorem bytes51 : Try.t51.bytes = 8 := by kernel_rfl
@[simp] theorem zero51 : zeroA Try.prog 51 = some (.nilFunc, 1) := by kernel_rfl
@[simp] theorem info52 : Try.prog.info? 52 = some Try.t52 := by kernel_rfl
@[simp] theorem size52 : Try.t52.size = 4 := by kernel_rfl
@[simp] theorem bytes52 : Try.t52.bytes = 48 := by kernel_rfl
@[simp] theorem field52_0 : fieldA Try.prog 52 0 = some (0, 25, 3) := by kernel_rfl
@[simp] theorem field52_1 : fieldA Try.prog 52 1 = some (3, 28, 1) := by kernel_rfl
@[simp] theorem zero52 : zeroA Try.prog 52 = some (.agg #[.int .i64 0, .int .i64 0, .slice none 0 0, .int .i64 0], 4) := by kernel_rfl
@[simp] theorem info53 : Try.prog.info? 53 = some Try.t53 := by kernel_rfl
@[simp] theorem size53 : Try.t53.size = 4 := by kernel_rfl
@[simp] theorem bytes53 : Try.t53.bytes = 48 := by kernel_rfl
@[simp] theorem field53_0 : fieldA Try.prog 53 0 = some (0, 25, 3) := by kernel_rfl
@[simp] theorem field53_1 : fieldA Try.prog 53 1 = some (3, 28, 1) := by kernel_rfl
@[simp] theorem zero53 : zeroA Try.prog 53 = some (.agg #[.int .i64 0, .int .i64 0, .slice none 0 0, .int .i64 0], 4) := by kernel_rfl
@[simp] theorem info54 : Try.prog.info? 54 = some Try.t54 := by kernel_rfl
@[simp] theorem size54 : Try.t54.size = 1 := by kernel_rfl
@[simp] theorem bytes54 : Try.t54.bytes = 8 := by kernel_rfl
@[simp] theorem zero54 : zeroA Try.prog 54 = some (.nilFunc, 1) := by kernel_rfl
@[simp] theorem info55 : Try.prog.info? 55 = some Try.t55 := by kernel_rfl
@[simp] theorem size55 : Try.t55.size = 1 := by kernel_rfl
@[simp] theorem bytes55 : Try.t55.bytes = 8 := by kernel_rfl
@[simp] theorem zero55 : zeroA Try.prog 55 = some (.nilFunc, 1) := by kernel_rfl
@[simp] theorem info56 : Try.prog.info? 56 = some Try.t56 := by kernel_rfl
@[simp] theorem size56 : Try.t56.size = 1 := by kernel_rfl
@[simp] theorem bytes56 : Try.t56.bytes = 8 := by kernel_rfl
@[simp] theorem zero56 : zeroA Try.prog 56 = some (.nilFunc, 1) := by kernel_rfl
@[simp] theorem info57 : Try.prog.info? 57 = some Try.t57 := by kernel_rfl
@[simp] theorem size57 : Try.t57.size = 1 := by kernel_rfl
@[simp] theorem bytes57 : Try.t57.bytes = 8 := by kernel_rfl
@[simp] theorem zero57 : zeroA Try.prog 57 = some (.nilFunc, 1) := by kernel_rfl
@[simp] theorem info58 : Try.prog.info? 58 = some Try.t58 := by kernel_rfl
@[simp] theorem size58 : Try.t58.size = 1 := by kernel_rfl
@[simp] theorem bytes58 : Try.t58.bytes = 8 := by kernel_rfl
@[simp] theorem zero58 : zeroA Try.prog 58 = some (.nilFunc, 1) := by kernel_rfl
@[simp] theorem info59 : Try.prog.info? 59 = some Try.t59 := by kernel_rfl
@[simp] theorem size59 : Try.t59.size = 1 := by kernel_rfl
@[simp] theorem bytes59 : Try.t59.bytes = 24 := by kernel_rfl
@[simp] theorem elem59 : elemA Try.prog 59 = some (53, Try.t53) := by kernel_rfl
@[simp] theorem zero59 : zeroA Try.prog 59 = some (.slice none 0 0, 1) := by kernel_rfl
@[simp] theorem info60 : Try.prog.info? 60 = some Try.t60 := by kernel_rfl
@[simp] theorem size60 : Try.t60.size = 1 := by kernel_rfl
@[simp] theorem bytes60 : Try.t60.bytes = 24 := by kernel_rfl
@[simp] theorem elem60 : elemA Try.prog 60 = some (3, Try.t3) := by kernel_rfl
@[simp] theorem zero60 : zeroA Try.prog 60 = some (.slice none 0 0, 1) := by kernel_rfl
@[simp] theorem info61 : Try.prog.info? 61 = some Try.t61 := by kernel_rfl
@[simp] theorem size61 : Try.t61.size = 1 := by kernel_rfl
@[simp] theorem bytes61 : Try.t61.bytes = 8 := by kernel_rfl
@[simp] theorem zero61 : zeroA Try.prog 61 = some (.nilFunc, 1) := by kernel_rfl
@[simp] theorem info62 : Try.prog.info? 62 = some Try.t62 := by kernel_rfl
@[simp] theorem size62 : Try.t62.size = 1 := by kernel_rfl
@[simp] theorem bytes62 : Try.t62.bytes = 8 := by kernel_rfl
@[simp] theorem zero62 : zeroA Try.prog 62 = some (.nilFunc, 1) := by kernel_rfl
@[simp] theorem info63 : Try.prog.info? 63 = some Try.t63 := by kernel_rfl
@[simp] theorem size63 : Try.t63.size = 1 := by kernel_rfl
@[simp] theorem bytes63 : Try.t63.bytes = 8 := by kernel_rfl
@[simp] theorem zero63 : zeroA Try.prog 63 = some (.nilFunc, 1) := by kernel_rfl
@[simp] theorem info64 : Try.prog.info? 64 = some Try.t64 := by kernel_rfl
@[simp] theorem size64 : Try.t64.size = 1 := by kernel_rfl
@[simp] theorem bytes64 : Try.t64.bytes = 8 := by kernel_rfl
@[simp] theorem zero64 : zeroA Try.prog 64 = some (.pointer none, 1) := by kernel_rfl
@[simp] theorem info65 : Try.prog.info? 65 = some Try.t65 := by kernel_rfl
@[simp] theorem size65 : Try.t65.size = 1 := by kernel_rfl
@[simp] theorem bytes65 : Try.t65.bytes = 8 := by kernel_rfl
@[simp] theorem zero65 : zeroA Try.prog 65 = some (.nilFunc, 1) := by kernel_rfl
@[simp] theorem info66 : Try.prog.info? 66 = some Try.t66 := by kernel_rfl
@[simp] theorem size66 : Try.t66.size = 1 := by kernel_rfl
@[simp] theorem bytes66 : Try.t66.bytes = 24 := by kernel_rfl
@[simp] theorem elem66 : elemA Try.prog 66 = some (75, Try.t75) := by kernel_rfl
@[simp] theorem zero66 : zeroA Try.prog 66 = some (.slice none 0 0, 1) := by kernel_rfl
@[simp] theorem info67 : Try.prog.info? 67 = some Try.t67 := by kernel_rfl
@[simp] theorem size67 : Try.t67.size = 1 := by kernel_rfl
@[simp] theorem bytes67 : Try.t67.bytes = 0 := by kernel_rfl
@[simp] theorem info68 : Try.prog.info? 68 = some Try.t68 := by kernel_rfl
@[simp] theorem size68 : Try.t68.size = 1 := by kernel_rfl
@[simp] theorem bytes68 : Try.t68.bytes = 8 := by kernel_rfl
@[simp] theorem zero68 : zeroA Try.prog 68 = some (.nilFunc, 1) := by kernel_rfl
@[simp] theorem info69 : Try.prog.info? 69 = some Try.t69 := by kernel_rfl
@[simp] theorem size69 : Try.t69.size = 1 := by kernel_rfl
@[simp] theorem bytes69 : Try.t69.bytes = 8 := by kernel_rfl
@[simp] theorem zero69 : zeroA Try.prog 69 = some (.nilFunc, 1) := by kernel_rfl
@[simp] theorem info70 : Try.prog.info? 70 = some Try.t70 := by kernel_rfl
@[simp] theorem size70 : Try.t70.size = 1 := by kernel_rfl
@[simp] theorem bytes70 : Try.t70.bytes = 8 := by kernel_rfl
@[simp] theorem zero70 : zeroA Try.prog 70 = some (.nilFunc, 1) := by kernel_rfl
@[simp] theorem info71 : Try.prog.info? 71 = some Try.t71 := by kernel_rfl
@[simp] theorem size71 : Try.t71.size = 1 := by kernel_rfl
@[simp] theorem bytes71 : Try.t71.bytes = 0 := by kernel_rfl
@[simp] theorem info72 : Try.prog.info? 72 = some Try.t72 := by kernel_rfl
@[simp] theorem size72 : Try.t72.size = 1 := by kernel_rfl
@[simp] theorem bytes72 : Try.t72.bytes = 8 := by kernel_rfl
@[simp] theorem zero72 : zeroA Try.prog 72 = some (.nilFunc, 1) := by kernel_rfl
@[simp] theorem info73 : Try.prog.info? 73 = some Try.t73 := by kernel_rfl
@[simp] theorem size73 : Try.t73.size = 1 := by kernel_rfl
@[simp] theorem bytes73 : Try.t73.bytes = 8 := by kernel_rfl
@[simp] theorem zero73 : zeroA Try.prog 73 = some (.nilFunc, 1) := by kernel_rfl
@[simp] theorem info74 : Try.prog.info? 74 = some Try.t74 := by kernel_rfl
@[simp] theorem size74 : Try.t74.size = 4 := by kernel_rfl
@[simp] theorem bytes74 : Try.t74.bytes = 48 := by kernel_rfl
@[simp] theorem field74_0 : fieldA Try.prog 74 0 = some (0, 25, 3) := by kernel_rfl
@[simp] theorem field74_1 : fieldA Try.prog 74 1 = some (3, 3, 1) := by kernel_rfl
@[simp] theorem zero74 : zeroA Try.prog 74 = some (.agg #[.int .i64 0, .int .i64 0, .slice none 0 0, .int .i64 0], 4) := by kernel_rfl
@[simp] theorem info75 : Try.prog.info? 75 = some Try.t75 := by kernel_rfl
@[simp] theorem size75 : Try.t75.size = 4 := by kernel_rfl
@[simp] theorem bytes75 : Try.t75.bytes = 48 := by kernel_rfl
@[simp] theorem field75_0 : fieldA Try.prog 75 0 = some (0, 25, 3) := by kernel_rfl
@[simp] theorem field75_1 : fieldA Try.prog 75 1 = some (3, 3, 1) := by kernel_rfl
@[simp] theorem zero75 : zeroA Try.prog 75 = some (.agg #[.int .i64 0, .int .i64 0, .slice none 0 0, .int .i64 0], 4) := by kernel_rfl
@[simp] theorem info76 : Try.prog.info? 76 = some Try.t76 := by kernel_rfl
@[simp] theorem size76 : Try.t76.size = 1 := by kernel_rfl
@[simp] theorem bytes76 : Try.t76.bytes = 8 := by kernel_rfl
@[simp] theorem zero76 : zeroA Try.prog 76 = some (.nilFunc, 1) := by kernel_rfl
@[simp] theorem info77 : Try.prog.info? 77 = some Try.t77 := by kernel_rfl
@[simp] theorem size77 : Try.t77.size = 1 := by kernel_rfl
@[simp] theorem bytes77 : Try.t77.bytes = 8 := by kernel_rfl
@[simp] theorem zero77 : zeroA Try.prog 77 = some (.nilFunc, 1) := by kernel_rfl
@[simp] theorem info78 : Try.prog.info? 78 = some Try.t78 := by kernel_rfl
@[simp] theorem size78 : Try.t78.size = 1 := by kernel_rfl
@[simp] theorem bytes78 : Try.t78.bytes = 8 := by kernel_rfl
@[simp] theorem zero78 : zeroA Try.prog 78 = some (.nilFunc, 1) := by kernel_rfl
@[simp] theorem info79 : Try.prog.info? 79 = some Try.t79 := by kernel_rfl
@[simp] theorem size79 : Try.t79.size = 1 := by kernel_rfl
@[simp] theorem bytes79 : Try.t79.bytes = 8 := by kernel_rfl
@[simp] theorem zero79 : zeroA Try.prog 79 = some (.nilFunc, 1) := by kernel_rfl
@[simp] theorem info80 : Try.prog.info? 80 = some Try.t80 := by kernel_rfl
@[simp] theorem size80 : Try.t80.size = 1 := by kernel_rfl
@[simp] theorem bytes80 : Try.t80.bytes = 24 := by kernel_rfl
@[simp] theorem elem80 : elemA Try.prog 80 = some (2, Try.t2) := by kernel_rfl
@[simp] theorem zero80 : zeroA Try.prog 80 = some (.slice none 0 0, 1) := by kernel_rfl
@[simp] theorem info81 : Try.prog.info? 81 = some Try.t81 := by kernel_rfl
@[simp] theorem size81 : Try.t81.size = 1 := by kernel_rfl
@[simp] theorem bytes81 : Try.t81.bytes = 8 := by kernel_rfl
@[simp] theorem zero81 : zeroA Try.prog 81 = some (.nilFunc, 1) := by kernel_rfl
@[simp] theorem info82 : Try.prog.info? 82 = some Try.t82 := by kernel_rfl
@[simp] theorem size82 : Try.t82.size = 1 := by kernel_rfl
@[simp] theorem bytes82 : Try.t82.bytes = 8 := by kernel_rfl
@[simp] theorem zero82 : zeroA Try.prog 82 = some (.nilFunc, 1) := by kernel_rfl
@[simp] theorem info83 : Try.prog.info? 83 = some Try.t83 := by kernel_rfl
@[simp] theorem size83 : Try.t83.size = 1 := by kernel_rfl
@[simp] theorem bytes83 : Try.t83.bytes = 8 := by kernel_rfl
@[simp] theorem zero83 : zeroA Try.prog 83 = some (.nilFunc, 1) := by kernel_rfl
@[simp] theorem info84 : Try.prog.info? 84 = some Try.t84 := by kernel_rfl
@[simp] theorem size84 : Try.t84.size = 1 := by kernel_rfl
@[simp] theorem bytes84 : Try.t84.bytes = 8 := by kernel_rfl
@[simp] theorem zero84 : zeroA Try.prog 84 = some (.nilFunc, 1) := by kernel_rfl
@[simp] theorem info85 : Try.prog.info? 85 = some Try.t85 := by kernel_rfl
@[simp] theorem size85 : Try.t85.size = 1 := by kernel_rfl
@[simp] theorem bytes85 : Try.t85.bytes = 8 := by kernel_rfl
@[simp] theorem zero85 : zeroA Try.prog 85 = some (.nilFunc, 1) := by kernel_rfl
@[simp] theorem info86 : Try.prog.info? 86 = some Try.t86 := by kernel_rfl
@[simp] theorem size86 : Try.t86.size = 1 := by kernel_rfl
@[simp] theorem bytes86 : Try.t86.bytes = 8 := by kernel_rfl
@[simp] theorem zero86 : zeroA Try.prog 86 = some (.nilFunc, 1) := by kernel_rfl
@[simp] theorem info87 : Try.prog.info? 87 = some Try.t87 := by kernel_rfl
@[simp] theorem size87 : Try.t87.size = 1 := by kernel_rfl
@[simp] theorem bytes87 : Try.t87.bytes = 0 := by kernel_rfl
@[simp] theorem info88 : Try.prog.info? 88 = some Try.t88 := by kernel_rfl
@[simp] theorem size88 : Try.t88.size = 1 := by kernel_rfl
@[simp] theorem bytes88 : Try.t88.bytes = 8 := by kernel_rfl
@[simp] theorem zero88 : zeroA Try.prog 88 = some (.nilFunc, 1) := by kernel_rfl
@[simp] theorem info89 : Try.prog.info? 89 = some Try.t89 := by kernel_rfl
@[simp] theorem size89 : Try.t89.size = 1 := by kernel_rfl
@[simp] theorem bytes89 : Try.t89.bytes = 8 := by kernel_rfl
@[simp] theorem zero89 : zeroA Try.prog 89 = some (.nilFunc, 1) := by kernel_rfl
@[simp] theorem info90 : Try.prog.info? 90 = some Try.t90 := by kernel_rfl
@[simp] theorem size90 : Try.t90.size = 2 := by kernel_rfl
@[simp] theorem bytes90 : Try.t90.bytes = 16 := by kernel_rfl
@[simp] theorem field90_0 : fieldA Try.prog 90 0 = some (0, 88, 1) := by kernel_rfl
@[simp] theorem field90_1 : fieldA Try.prog 90 1 = some (1, 89, 1) := by kernel_rfl
@[simp] theorem zero90 : zeroA Try.prog 90 = some (.agg #[.nilFunc, .nilFunc], 2) := by kernel_rfl
@[simp] theorem info91 : Try.prog.info? 91 = some Try.t91 := by kernel_rfl
@[simp] theorem size91 : Try.t91.size = 2 := by kernel_rfl
@[simp] theorem bytes91 : Try.t91.bytes = 16 := by kernel_rfl
@[simp] theorem field91_0 : fieldA Try.prog 91 0 = some (0, 88, 1) := by kernel_rfl
@[simp] theorem field91_1 : fieldA Try.prog 91 1 = some (1, 89, 1) := by kernel_rfl
@[simp] theorem zero91 : zeroA Try.prog 91 = some (.agg #[.nilFunc, .nilFunc], 2) := by kernel_rfl
@[simp] theorem info92 : Try.prog.info? 92 = some Try.t92 := by kernel_rfl
@[simp] theorem size92 : Try.t92.size = 28 := by kernel_rfl
@[simp] theorem bytes92 : Try.t92.bytes = 224 := by kernel_rfl
@[simp] theorem info93 : Try.prog.info? 93 = some Try.t93 := by kernel_rfl
@[simp] theorem size93 : Try.t93.size = 1 := by kernel_rfl
@[simp] theorem bytes93 : Try.t93.bytes = 8 := by kernel_rfl
@[simp] theorem zero93 : zeroA Try.prog 93 = some (.nilFunc, 1) := by kernel_rfl
@[simp] theorem info94 : Try.prog.info? 94 = some Try.t94 := by kernel_rfl
@[simp] theorem size94 : Try.t94.size = 1 := by kernel_rfl
@[simp] theorem bytes94 : Try.t94.bytes = 8 := by kernel_rfl
@[simp] theorem zero94 : zeroA Try.prog 94 = some (.nilFunc, 1) := by kernel_rfl
@[simp] theorem info95 : Try.prog.info? 95 = some Try.t95 := by kernel_rfl
@[simp] theorem size95 : Try.t95.size = 1 := by kernel_rfl
@[simp] theorem bytes95 : Try.t95.bytes = 8 := by kernel_rfl
@[simp] theorem zero95 : zeroA Try.prog 95 = some (.nilFunc, 1) := by kernel_rfl
@[simp] theorem info96 : Try.prog.info? 96 = some Try.t96 := by kernel_rfl
@[simp] theorem size96 : Try.t96.size = 1 := by kernel_rfl
@[simp] theorem bytes96 : Try.t96.bytes = 8 := by kernel_rfl
@[simp] theorem zero96 : zeroA Try.prog 96 = some (.nilFunc, 1) := by kernel_rfl
@[simp] theorem info97 : Try.prog.info? 97 = some Try.t97 := by kernel_rfl
@[simp] theorem size97 : Try.t97.size = 1 := by kernel_rfl
@[simp] theorem bytes97 : Try.t97.bytes = 24 := by kernel_rfl
@[simp] theorem elem97 : elemA Try.prog 97 = some (23, Try.t23) := by kernel_rfl
@[simp] theorem zero97 : zeroA Try.prog 97 = some (.slice none 0 0, 1) := by kernel_rfl
@[simp] theorem info98 : Try.prog.info? 98 = some Try.t98 := by kernel_rfl
@[simp] theorem size98 : Try.t98.size = 1 := by kernel_rfl
@[simp] theorem bytes98 : Try.t98.bytes = 8 := by kernel_rfl
@[simp] theorem zero98 : zeroA Try.prog 98 = some (.nilFunc, 1) := by kernel_rfl
@[simp] theorem info99 : Try.prog.info? 99 = some Try.t99 := by kernel_rfl
@[simp] theorem size99 : Try.t99.size = 1 := by kernel_rfl
@[simp] theorem bytes99 : Try.t99.bytes = 8 := by kernel_rfl
@[simp] theorem zero99 : zeroA Try.prog 99 = some (.nilFunc, 1) := by kernel_rfl
@[simp] theorem info100 : Try.prog.info? 100 = some Try.t100 := by kernel_rfl
@[simp] theorem size100 : Try.t100.size = 1 := by kernel_rfl
@[simp] theorem bytes100 : Try.t100.bytes = 8 := by kernel_rfl
@[simp] theorem zero100 : zeroA Try.prog 100 = some (.nilFunc, 1) := by kernel_rfl
@[simp] theorem info101 : Try.prog.info? 101 = some Try.t101 := by kernel_rfl
@[simp] theorem size101 : Try.t101.size = 1 := by kernel_rfl
@[simp] theorem bytes101 : Try.t101.bytes = 8 := by kernel_rfl
@[simp] theorem zero101 : zeroA Try.prog 101 = some (.nilFunc, 1) := by kernel_rfl
@[simp] theorem info102 : Try.prog.info? 102 = some Try.t102 := by kernel_rfl
@[simp] theorem size102 : Try.t102.size = 1 := by kernel_rfl
@[simp] theorem bytes102 : Try.t102.bytes = 8 := by kernel_rfl
@[simp] theorem zero102 : zeroA Try.prog 102 = some (.nilFunc, 1) := by kernel_rfl
@[simp] theorem info103 : Try.prog.info? 103 = some Try.t103 := by kernel_rfl
@[simp] theorem size103 : Try.t103.size = 4 := by kernel_rfl
@[simp] theorem bytes103 : Try.t103.bytes = 40 := by kernel_rfl
@[simp] theorem field103_0 : fieldA Try.prog 103 0 = some (0, 17, 1) := by kernel_rfl
@[simp] theorem field103_1 : fieldA Try.prog 103 1 = some (1, 17, 1) := by kernel_rfl
@[simp] theorem field103_2 : fieldA Try.prog 103 2 = some (2, 17, 1) := by kernel_rfl
@[simp] theorem field103_3 : fieldA Try.prog 103 3 = some (3, 9, 1) := by kernel_rfl
@[simp] theorem info104 : Try.prog.info? 104 = some Try.t104 := by kernel_rfl
@[simp] theorem size104 : Try.t104.size = 4 := by kernel_rfl
@[simp] theorem bytes104 : Try.t104.bytes = 40 := by kernel_rfl
@[simp] theorem field104_0 : fieldA Try.prog 104 0 = some (0, 17, 1) := by kernel_rfl
@[simp] theorem field104_1 : fieldA Try.prog 104 1 = some (1, 17, 1) := by kernel_rfl
@[simp] theorem field104_2 : fieldA Try.prog 104 2 = some (2, 17, 1) := by kernel_rfl
@[simp] theorem field104_3 : fieldA Try.prog 104 3 = some (3, 9, 1) := by kernel_rfl
@[simp] theorem info105 : Try.prog.info? 105 = some Try.t105 := by kernel_rfl
@[simp] theorem size105 : Try.t105.size = 0 := by kernel_rfl
@[simp] theorem bytes105 : Try.t105.bytes = 0 := by kernel_rfl
@[simp] theorem zero105 : zeroA Try.prog 105 = some (.agg #[], 0) := by kernel_rfl
@[simp] theorem info106 : Try.prog.info? 106 = some Try.t106 := by kernel_rfl
@[simp] theorem size106 : Try.t106.size = 0 := by kernel_rfl
@[simp] theorem bytes106 : Try.t106.bytes = 0 := by kernel_rfl
@[simp] theorem field106_0 : fieldA Try.prog 106 0 = some (0, 105, 0) := by kernel_rfl
@[simp] theorem zero106 : zeroA Try.prog 106 = some (.agg #[], 0) := by kernel_rfl
@[simp] theorem info107 : Try.prog.info? 107 = some Try.t107 := by kernel_rfl
@[simp] theorem size107 : Try.t107.size = 0 := by kernel_rfl
@[simp] theorem bytes107 : Try.t107.bytes = 0 := by kernel_rfl
@[simp] theorem field107_0 : fieldA Try.prog 107 0 = some (0, 105, 0) := by kernel_rfl
@[simp] theorem zero107 : zeroA Try.prog 107 = some (.agg #[], 0) := by kernel_rfl
@[simp] theorem info108 : Try.prog.info? 108 = some Try.t108 := by kernel_rfl
@[simp] theorem size108 : Try.t108.size = 1 := by kernel_rfl
@[simp] theorem bytes108 : Try.t108.bytes = 8 := by kernel_rfl
@[simp] theorem zero108 : zeroA Try.prog 108 = some (.nilFunc, 1) := by kernel_rfl
@[simp] theorem info109 : Try.prog.info? 109 = some Try.t109 := by kernel_rfl
@[simp] theorem size109 : Try.t109.size = 1 := by kernel_rfl
@[simp] theorem bytes109 : Try.t109.bytes = 4 := by kernel_rfl
@[simp] theorem zero109 : zeroA Try.prog 109 = some (.int .u32 0, 1) := by kernel_rfl
@[simp] theorem info110 : Try.prog.info? 110 = some Try.t110 := by kernel_rfl
@[simp] theorem size110 : Try.t110.size = 1 := by kernel_rfl
@[simp] theorem bytes110 : Try.t110.bytes = 1 := by kernel_rfl
@[simp] theorem zero110 : zeroA Try.prog 110 = some (.int .u8 0, 1) := by kernel_rfl
@[simp] theorem info111 : Try.prog.info? 111 = some Try.t111 := by kernel_rfl
@[simp] theorem size111 : Try.t111.size = 1 := by kernel_rfl
@[simp] theorem bytes111 : Try.t111.bytes = 1 := by kernel_rfl
@[simp] theorem zero111 : zeroA Try.prog 111 = some (.int .u8 0, 1) := by kernel_rfl
@[simp] theorem info112 : Try.prog.info? 112 = some Try.t112 := by kernel_rfl
@[simp] theorem size112 : Try.t112.size = 1 := by kernel_rfl
@[simp] theorem bytes112 : Try.t112.bytes = 8 := by kernel_rfl
@[simp] theorem zero112 : zeroA Try.prog 112 = some (.nilFunc, 1) := by kernel_rfl
@[simp] theorem info113 : Try.prog.info? 113 = some Try.t113 := by kernel_rfl
@[simp] theorem size113 : Try.t113.size = 1 := by kernel_rfl
@[simp] theorem bytes113 : Try.t113.bytes = 8 := by kernel_rfl
@[simp] theorem zero113 : zeroA Try.prog 113 = some (.pointer none, 1) := by kernel_rfl
@[simp] theorem info114 : Try.prog.info? 114 = some Try.t114 := by kernel_rfl
@[simp] theorem size114 : Try.t114.size = 1 := by kernel_rfl
@[simp] theorem bytes114 : Try.t114.bytes = 4 := by kernel_rfl
@[simp] theorem zero114 : zeroA Try.prog 114 = some (.int .i32 0, 1) := by kernel_rfl
@[simp] theorem info115 : Try.prog.info? 115 = some Try.t115 := by kernel_rfl
@[simp] theorem size115 : Try.t115.size = 1 := by kernel_rfl
@[simp] theorem bytes115 : Try.t115.bytes = 4 := by kernel_rfl
@[simp] theorem zero115 : zeroA Try.prog 115 = some (.int .i32 0, 1) := by kernel_rfl
@[simp] theorem info116 : Try.prog.info? 116 = some Try.t116 := by kernel_rfl
@[simp] theorem size116 : Try.t116.size = 11 := by kernel_rfl
@[simp] theorem bytes116 : Try.t116.bytes = 48 := by kernel_rfl
@[simp] theorem field116_0 : fieldA Try.prog 116 0 = some (0, 12, 1) := by kernel_rfl
@[simp] theorem field116_1 : fieldA Try.prog 116 1 = some (1, 12, 1) := by kernel_rfl
@[simp] theorem field116_2 : fieldA Try.prog 116 2 = some (2, 109, 1) := by kernel_rfl
@[simp] theorem field116_3 : fieldA Try.prog 116 3 = some (3, 110, 1) := by kernel_rfl
@[simp] theorem field116_4 : fieldA Try.prog 116 4 = some (4, 5, 1) := by kernel_rfl
@[simp] theorem field116_5 : fieldA Try.prog 116 5 = some (5, 5, 1) := by kernel_rfl
@[simp] theorem field116_6 : fieldA Try.prog 116 6 = some (6, 111, 1) := by kernel_rfl
@[simp] theorem field116_7 : fieldA Try.prog 116 7 = some (7, 112, 1) := by kernel_rfl
@[simp] theorem field116_8 : fieldA Try.prog 116 8 = some (8, 113, 1) := by kernel_rfl
@[simp] theorem field116_9 : fieldA Try.prog 116 9 = some (9, 114, 1) := by kernel_rfl
@[simp] theorem field116_10 : fieldA Try.prog 116 10 = some (10, 115, 1) := by kernel_rfl
@[simp] theorem zero116 : zeroA Try.prog 116 = some (.agg #[.int .u64 0, .int .u64 0, .int .u32 0, .int .u8 0, .int .u8 0, .int .u8 0, .int .u8 0, .nilFunc, .pointer none, .int .i32 0, .int .i32 0], 11) := by kernel_rfl
@[simp] theorem info117 : Try.prog.info? 117 = some Try.t117 := by kernel_rfl
@[simp] theorem size117 : Try.t117.size = 11 := by kernel_rfl
@[simp] theorem bytes117 : Try.t117.bytes = 48 := by kernel_rfl
@[simp] theorem field117_0 : fieldA Try.prog 117 0 = some (0, 12, 1) := by kernel_rfl
@[simp] theorem field117_1 : fieldA Try.prog 117 1 = some (1, 12, 1) := by kernel_rfl
@[simp] theorem field117_2 : fieldA Try.prog 117 2 = some (2, 109, 1) := by kernel_rfl
@[simp] theorem field117_3 : fieldA Try.prog 117 3 = some (3, 110, 1) := by kernel_rfl
@[simp] theorem field117_4 : fieldA Try.prog 117 4 = some (4, 5, 1) := by kernel_rfl
@[simp] theorem field117_5 : fieldA Try.prog 117 5 = some (5, 5, 1) := by kernel_rfl
@[simp] theorem field117_6 : fieldA Try.prog 117 6 = some (6, 111, 1) := by kernel_rfl
@[simp] theorem field117_7 : fieldA Try.prog 117 7 = some (7, 112, 1) := by kernel_rfl
@[simp] theorem field117_8 : fieldA Try.prog 117 8 = some (8, 113, 1) := by kernel_rfl
@[simp] theorem field117_9 : fieldA Try.prog 117 9 = some (9, 114, 1) := by kernel_rfl
@[simp] theorem field117_10 : fieldA Try.prog 117 10 = some (10, 115, 1) := by kernel_rfl
@[simp] theorem zero117 : zeroA Try.prog 117 = some (.agg #[.int .u64 0, .int .u64 0, .int .u32 0, .int .u8 0, .int .u8 0, .int .u8 0, .int .u8 0, .nilFunc, .pointer none, .int .i32 0, .int .i32 0], 11) := by kernel_rfl
@[simp] theorem info118 : Try.prog.info? 118 = some Try.t118 := by kernel_rfl
@[simp] theorem size118 : Try.t118.size = 1 := by kernel_rfl
@[simp] theorem bytes118 : Try.t118.bytes = 8 := by kernel_rfl
@[simp] theorem zero118 : zeroA Try.prog 118 = some (.pointer none, 1) := by kernel_rfl
@[simp] theorem funcs_size : Try.prog.funcs.size = 113 := by kernel_rfl
@[simp high] theorem hfunc0 : Try.prog.funcs[0]? = some Try.f0 := by kernel_rfl
@[simp high] theorem hfunc1 : Try.prog.funcs[1]? = some Try.f1 := by kernel_rfl
@[simp high] theorem hfunc2 : Try.prog.funcs[2]? = some Try.f2 := by kernel_rfl
@[simp] theorem body2 : Try.f2.body = some (cAt Try.f2 []) := by kernel_rfl
@[simp] theorem bodied2 : bodied Try.prog 2 = true := by kernel_rfl
@[simp high] theorem hfunc3 : Try.prog.funcs[3]? = some Try.f3 := by kernel_rfl
@[simp] theorem body3 : Try.f3.body = some (cAt Try.f3 []) := by kernel_rfl
@[simp] theorem bodied3 : bodied Try.prog 3 = true := by kernel_rfl
@[simp high] theorem hfunc4 : Try.prog.funcs[4]? = some Try.f4 := by kernel_rfl
@[simp] theorem body4 : Try.f4.body = some (cAt Try.f4 []) := by kernel_rfl
@[simp] theorem bodied4 : bodied Try.prog 4 = true := by kernel_rfl
@[simp high] theorem hfunc5 : Try.prog.funcs[5]? = some Try.f5 := by kernel_rfl
@[simp] theorem body5 : Try.f5.body = some (cAt Try.f5 []) := by kernel_rfl
@[simp] theorem bodied5 : bodied Try.prog 5 = true := by kernel_rfl
@[simp high] theorem hfunc6 : Try.prog.funcs[6]? = some Try.f6 := by kernel_rfl
@[simp] theorem body6 : Try.f6.body = some (cAt Try.f6 []) := by kernel_rfl
@[simp] theorem bodied6 : bodied Try.prog 6 = true := by kernel_rfl
@[simp high] theorem hfunc7 : Try.prog.funcs[7]? = some Try.f7 := by kernel_rfl
@[simp] theorem body7 : Try.f7.body = some (cAt Try.f7 []) := by kernel_rfl
@[simp] theorem bodied7 : bodied Try.prog 7 = true := by kernel_rfl
@[simp high] theorem hfunc8 : Try.prog.funcs[8]? = some Try.f8 := by kernel_rfl
@[simp] theorem body8 : Try.f8.body = some (cAt Try.f8 []) := by kernel_rfl
@[simp] theorem bodied8 : bodied Try.prog 8 = true := by kernel_rfl
@[simp high] theorem hfunc9 : Try.prog.funcs[9]? = some Try.f9 := by kernel_rfl
@[simp] theorem body9 : Try.f9.body = some (cAt Try.f9 []) := by kernel_rfl
@[simp] theorem bodied9 : bodied Try.prog 9 = true := by kernel_rfl
@[simp high] theorem hfunc10 : Try.prog.funcs[10]? = some Try.f10 := by kernel_rfl
@[simp] theorem body10 : Try.f10.body = some (cAt Try.f10 []) := by kernel_rfl
@[simp] theorem bodied10 : bodied Try.prog 10 = true := by kernel_rfl
@[simp high] theorem hfunc11 : Try.prog.funcs[11]? = some Try.f11 := by kernel_rfl
@[simp] theorem body11 : Try.f11.body = some (cAt Try.f11 []) := by kernel_rfl
@[simp] theorem bodied11 : bodied Try.prog 11 = true := by kernel_rfl
@[simp high] theorem hfunc12 : Try.prog.funcs[12]? = some Try.f12 := by kernel_rfl
@[simp] theorem body12 : Try.f12.body = some (cAt Try.f12 []) := by kernel_rfl
@[simp] theorem bodied12 : bodied Try.prog 12 = true := by kernel_rfl
@[simp high] theorem hfunc13 : Try.prog.funcs[13]? = some Try.f13 := by kernel_rfl
@[simp] theorem body13 : Try.f13.body = some (cAt Try.f13 []) := by kernel_rfl
@[simp] theorem bodied13 : bodied Try.prog 13 = true := by kernel_rfl
@[simp high] theorem hfunc14 : Try.prog.funcs[14]? = some Try.f14 := by kernel_rfl
@[simp] theorem body14 : Try.f14.body = some (cAt Try.f14 []) := by kernel_rfl
@[simp] theorem bodied14 : bodied Try.prog 14 = true := by kernel_rfl
@[simp high] theorem hfunc15 : Try.prog.funcs[15]? = some Try.f15 := by kernel_rfl
@[simp] theorem body15 : Try.f15.body = some (cAt Try.f15 []) := by kernel_rfl
@[simp] theorem bodied15 : bodied Try.prog 15 = true := by kernel_rfl
@[simp high] theorem hfunc16 : Try.prog.funcs[16]? = some Try.f16 := by kernel_rfl
@[simp] theorem body16 : Try.f16.body = some (cAt Try.f16 []) := by kernel_rfl
@[simp] theorem bodied16 : bodied Try.prog 16 = true := by kernel_rfl
@[simp high] theorem hfunc17 : Try.prog.funcs[17]? = some Try.f17 := by kernel_rfl
@[simp] theorem body17 : Try.f17.body = some (cAt Try.f17 []) := by kernel_rfl
@[simp] theorem bodied17 : bodied Try.prog 17 = true := by kernel_rfl
@[simp high] theorem hfunc18 : Try.prog.funcs[18]? = some Try.f18 := by kernel_rfl
@[simp] theorem body18 : Try.f18.body = some (cAt Try.f18 []) := by kernel_rfl
@[simp] theorem bodied18 : bodied Try.prog 18 = true := by kernel_rfl
@[simp high] theorem hfunc19 : Try.prog.funcs[19]? = some Try.f19 := by kernel_rfl
@[simp] theorem body19 : Try.f19.body = some (cAt Try.f19 []) := by kernel_rfl
@[simp] theorem bodied19 : bodied Try.prog 19 = true := by kernel_rfl
@[simp high] theorem hfunc20 : Try.prog.funcs[20]? = some Try.f20 := by kernel_rfl
@[simp] theorem body20 : Try.f20.body = some (cAt Try.f20 []) := by kernel_rfl
@[simp] theorem bodied20 : bodied Try.prog 20 = true := by kernel_rfl
@[simp high] theorem hfunc21 : Try.prog.funcs[21]? = some Try.f21 := by kernel_rfl
@[simp] theorem body21 : Try.f21.body = some (cAt Try.f21 []) := by kernel_rfl
@[simp] theorem bodied21 : bodied Try.prog 21 = true := by kernel_rfl
@[simp high] theorem hfunc22 : Try.prog.funcs[22]? = some Try.f22 := by kernel_rfl
@[simp] theorem body22 : Try.f22.body = some (cAt Try.f22 []) := by kernel_rfl
@[simp] theorem bodied22 : bodied Try.prog 22 = true := by kernel_rfl
@[simp high] theorem hfunc23 : Try.prog.funcs[23]? = some Try.f23 := by kernel_rfl
@[simp] theorem body23 : Try.f23.body = some (cAt Try.f23 []) := by kernel_rfl
@[simp] theorem bodied23 : bodied Try.prog 23 = true := by kernel_rfl
@[simp high] theorem hfunc24 : Try.prog.funcs[24]? = some Try.f24 := by kernel_rfl
@[simp] theorem body24 : Try.f24.body = some (cAt Try.f24 []) := by kernel_rfl
@[simp] theorem bodied24 : bodied Try.prog 24 = true := by kernel_rfl
@[simp high] theorem hfunc25 : Try.prog.funcs[25]? = some Try.f25 := by kernel_rfl
@[simp] theorem body25 : Try.f25.body = some (cAt Try.f25 []) := by kernel_rfl
@[simp] theorem bodied25 : bodied Try.prog 25 = true := by kernel_rfl
@[simp high] theorem hfunc26 : Try.prog.funcs[26]? = some Try.f26 := by kernel_rfl
@[simp] theorem body26 : Try.f26.body = some (cAt Try.f26 []) := by kernel_rfl
@[simp] theorem bodied26 : bodied Try.prog 26 = true := by kernel_rfl
@[simp high] theorem hfunc27 : Try.prog.funcs[27]? = some Try.f27 := by kernel_rfl
@[simp] theorem body27 : Try.f27.body = some (cAt Try.f27 []) := by kernel_rfl
@[simp] theorem bodied27 : bodied Try.prog 27 = true := by kernel_rfl
@[simp high] theorem hfunc28 : Try.prog.funcs[28]? = some Try.f28 := by kernel_rfl
@[simp] theorem body28 : Try.f28.body = some (cAt Try.f28 []) := by kernel_rfl
@[simp] theorem bodied28 : bodied Try.prog 28 = true := by kernel_rfl
@[simp high] theorem hfunc29 : Try.prog.funcs[29]? = some Try.f29 := by kernel_rfl
@[simp] theorem body29 : Try.f29.body = some (cAt Try.f29 []) := by kernel_rfl
@[simp] theorem bodied29 : bodied Try.prog 29 = true := by kernel_rfl
@[simp high] theorem hfunc30 : Try.prog.funcs[30]? = some Try.f30 := by kernel_rfl
@[simp] theorem body30 : Try.f30.body = some (cAt Try.f30 []) := by kernel_rfl
@[simp] theorem bodied30 : bodied Try.prog 30 = true := by kernel_rfl
@[simp high] theorem hfunc31 : Try.prog.funcs[31]? = some Try.f31 := by kernel_rfl
@[simp] theorem body31 : Try.f31.body = some (cAt Try.f31 []) := by kernel_rfl
@[simp] theorem bodied31 : bodied Try.prog 31 = true := by kernel_rfl
@[simp high] theorem hfunc32 : Try.prog.funcs[32]? = some Try.f32 := by kernel_rfl
@[simp] theorem body32 : Try.f32.body = some (cAt Try.f32 []) := by kernel_rfl
@[simp] theorem bodied32 : bodied Try.prog 32 = true := by kernel_rfl
@[simp high] theorem hfunc33 : Try.prog.funcs[33]? = some Try.f33 := by kernel_rfl
@[simp] theorem body33 : Try.f33.body = some (cAt Try.f33 []) := by kernel_rfl
@[simp] theorem bodied33 : bodied Try.prog 33 = true := by kernel_rfl
@[simp high] theorem hfunc34 : Try.prog.funcs[34]? = some Try.f34 := by kernel_rfl
@[simp] theorem body34 : Try.f34.body = some (cAt Try.f34 []) := by kernel_rfl
@[simp] theorem bodied34 : bodied Try.prog 34 = true := by kernel_rfl
@[simp high] theorem hfunc35 : Try.prog.funcs[35]? = some Try.f35 := by kernel_rfl
@[simp] theorem body35 : Try.f35.body = some (cAt Try.f35 []) := by kernel_rfl
@[simp] theorem bodied35 : bodied Try.prog 35 = true := by kernel_rfl
@[simp high] theorem hfunc36 : Try.prog.funcs[36]? = some Try.f36 := by kernel_rfl
@[simp] theorem body36 : Try.f36.body = some (cAt Try.f36 []) := by kernel_rfl
@[simp] theorem bodied36 : bodied Try.prog 36 = true := by kernel_rfl
@[simp high] theorem hfunc37 : Try.prog.funcs[37]? = some Try.f37 := by kernel_rfl
@[simp] theorem body37 : Try.f37.body = some (cAt Try.f37 []) := by kernel_rfl
@[simp] theorem bodied37 : bodied Try.prog 37 = true := by kernel_rfl
@[simp high] theorem hfunc38 : Try.prog.funcs[38]? = some Try.f38 := by kernel_rfl
@[simp] theorem body38 : Try.f38.body = some (cAt Try.f38 []) := by kernel_rfl
@[simp] theorem bodied38 : bodied Try.prog 38 = true := by kernel_rfl
@[simp high] theorem hfunc39 : Try.prog.funcs[39]? = some Try.f39 := by kernel_rfl
@[simp] theorem body39 : Try.f39.body = some (cAt Try.f39 []) := by kernel_rfl
@[simp] theorem bodied39 : bodied Try.prog 39 = true := by kernel_rfl
@[simp high] theorem hfunc40 : Try.prog.funcs[40]? = some Try.f40 := by kernel_rfl
@[simp] theorem body40 : Try.f40.body = some (cAt Try.f40 []) := by kernel_rfl
@[simp] theorem bodied40 : bodied Try.prog 40 = true := by kernel_rfl
@[simp high] theorem hfunc41 : Try.prog.funcs[41]? = some Try.f41 := by kernel_rfl
@[simp] theorem body41 : Try.f41.body = some (cAt Try.f41 []) := by kernel_rfl
@[simp] theorem bodied41 : bodied Try.prog 41 = true := by kernel_rfl
@[simp high] theorem hfunc42 : Try.prog.funcs[42]? = some Try.f42 := by kernel_rfl
@[simp] theorem body42 : Try.f42.body = some (cAt Try.f42 []) := by kernel_rfl
@[simp] theorem bodied42 : bodied Try.prog 42 = true := by kernel_rfl
@[simp high] theorem hfunc43 : Try.prog.funcs[43]? = some Try.f43 := by kernel_rfl
@[simp] theorem body43 : Try.f43.body = some (cAt Try.f43 []) := by kernel_rfl
@[simp] theorem bodied43 : bodied Try.prog 43 = true := by kernel_rfl
@[simp high] theorem hfunc44 : Try.prog.funcs[44]? = some Try.f44 := by kernel_rfl
@[simp] theorem body44 : Try.f44.body = some (cAt Try.f44 []) := by kernel_rfl
@[simp] theorem bodied44 : bodied Try.prog 44 = true := by kernel_rfl
@[simp high] theorem hfunc45 : Try.prog.funcs[45]? = some Try.f45 := by kernel_rfl
@[simp] theorem body45 : Try.f45.body = some (cAt Try.f45 []) := by kernel_rfl
@[simp] theorem bodied45 : bodied Try.prog 45 = true := by kernel_rfl
@[simp high] theorem hfunc46 : Try.prog.funcs[46]? = some Try.f46 := by kernel_rfl
@[simp] theorem body46 : Try.f46.body = some (cAt Try.f46 []) := by kernel_rfl
@[simp] theorem bodied46 : bodied Try.prog 46 = true := by kernel_rfl
@[simp high] theorem hfunc47 : Try.prog.funcs[47]? = some Try.f47 := by kernel_rfl
@[simp] theorem body47 : Try.f47.body = some (cAt Try.f47 []) := by kernel_rfl
@[simp] theorem bodied47 : bodied Try.prog 47 = true := by kernel_rfl
@[simp high] theorem hfunc48 : Try.prog.funcs[48]? = some Try.f48 := by kernel_rfl
@[simp] theorem body48 : Try.f48.body = some (cAt Try.f48 []) := by kernel_rfl
@[simp] theorem bodied48 : bodied Try.prog 48 = true := by kernel_rfl
@[simp high] theorem hfunc49 : Try.prog.funcs[49]? = some Try.f49 := by kernel_rfl
@[simp] theorem body49 : Try.f49.body = some (cAt Try.f49 []) := by kernel_rfl
@[simp] theorem bodied49 : bodied Try.prog 49 = true := by kernel_rfl
@[simp high] theorem hfunc50 : Try.prog.funcs[50]? = some Try.f50 := by kernel_rfl
@[simp] theorem body50 : Try.f50.body = some (cAt Try.f50 []) := by kernel_rfl
@[simp] theorem bodied50 : bodied Try.prog 50 = true := by kernel_rfl
@[simp high] theorem hfunc51 : Try.prog.funcs[51]? = some Try.f51 := by kernel_rfl
@[simp] theorem body51 : Try.f51.body = some (cAt Try.f51 []) := by kernel_rfl
@[simp] theorem bodied51 : bodied Try.prog 51 = true := by kernel_rfl
@[simp high] theorem hfunc52 : Try.prog.funcs[52]? = some Try.f52 := by kernel_rfl
@[simp] theorem body52 : Try.f52.body = some (cAt Try.f52 []) := by kernel_rfl
@[simp] theorem bodied52 : bodied Try.prog 52 = true := by kernel_rfl
@[simp high] theorem hfunc53 : Try.prog.funcs[53]? = some Try.f53 := by kernel_rfl
@[simp] theorem body53 : Try.f53.body = some (cAt Try.f53 []) := by kernel_rfl
@[simp] theorem bodied53 : bodied Try.prog 53 = true := by kernel_rfl
@[simp high] theorem hfunc54 : Try.prog.funcs[54]? = some Try.f54 := by kernel_rfl
@[simp] theorem body54 : Try.f54.body = some (cAt Try.f54 []) := by kernel_rfl
@[simp] theorem bodied54 : bodied Try.prog 54 = true := by kernel_rfl
@[simp high] theorem hfunc55 : Try.prog.funcs[55]? = some Try.f55 := by kernel_rfl
@[simp] theorem body55 : Try.f55.body = some (cAt Try.f55 []) := by kernel_rfl
@[simp] theorem bodied55 : bodied Try.prog 55 = true := by kernel_rfl
@[simp high] theorem hfunc56 : Try.prog.funcs[56]? = some Try.f56 := by kernel_rfl
@[simp] theorem body56 : Try.f56.body = some (cAt Try.f56 []) := by kernel_rfl
@[simp] theorem bodied56 : bodied Try.prog 56 = true := by kernel_rfl
@[simp high] theorem hfunc57 : Try.prog.funcs[57]? = some Try.f57 := by kernel_rfl
@[simp] theorem body57 : Try.f57.body = some (cAt Try.f57 []) := by kernel_rfl
@[simp] theorem bodied57 : bodied Try.prog 57 = true := by kernel_rfl
@[simp high] theorem hfunc58 : Try.prog.funcs[58]? = some Try.f58 := by kernel_rfl
@[simp] theorem body58 : Try.f58.body = some (cAt Try.f58 []) := by kernel_rfl
@[simp] theorem bodied58 : bodied Try.prog 58 = true := by kernel_rfl
@[simp high] theorem hfunc59 : Try.prog.funcs[59]? = some Try.f59 := by kernel_rfl
@[simp] theorem body59 : Try.f59.body = some (cAt Try.f59 []) := by kernel_rfl
@[simp] theorem bodied59 : bodied Try.prog 59 = true := by kernel_rfl
@[simp high] theorem hfunc60 : Try.prog.funcs[60]? = some Try.f60 := by kernel_rfl
@[simp] theorem body60 : Try.f60.body = some (cAt Try.f60 []) := by kernel_rfl
@[simp] theorem bodied60 : bodied Try.prog 60 = true := by kernel_rfl
@[simp high] theorem hfunc61 : Try.prog.funcs[61]? = some Try.f61 := by kernel_rfl
@[simp] theorem body61 : Try.f61.body = some (cAt Try.f61 []) := by kernel_rfl
@[simp] theorem bodied61 : bodied Try.prog 61 = true := by kernel_rfl
@[simp high] theorem hfunc62 : Try.prog.funcs[62]? = some Try.f62 := by kernel_rfl
@[simp] theorem body62 : Try.f62.body = some (cAt Try.f62 []) := by kernel_rfl
@[simp] theorem bodied62 : bodied Try.prog 62 = true := by kernel_rfl
@[simp high] theorem hfunc63 : Try.prog.funcs[63]? = some Try.f63 := by kernel_rfl
@[simp] theorem body63 : Try.f63.body = some (cAt Try.f63 []) := by kernel_rfl
@[simp] theorem bodied63 : bodied Try.prog 63 = true := by kernel_rfl
@[simp high] theorem hfunc64 : Try.prog.funcs[64]? = some Try.f64 := by kernel_rfl
@[simp] theorem body64 : Try.f64.body = some (cAt Try.f64 []) := by kernel_rfl
@[simp] theorem bodied64 : bodied Try.prog 64 = true := by kernel_rfl
@[simp high] theorem hfunc65 : Try.prog.funcs[65]? = some Try.f65 := by kernel_rfl
@[simp] theorem body65 : Try.f65.body = some (cAt Try.f65 []) := by kernel_rfl
@[simp] theorem bodied65 : bodied Try.prog 65 = true := by kernel_rfl
@[simp high] theorem hfunc66 : Try.prog.funcs[66]? = some Try.f66 := by kernel_rfl
@[simp] theorem body66 : Try.f66.body = some (cAt Try.f66 []) := by kernel_rfl
@[simp] theorem bodied66 : bodied Try.prog 66 = true := by kernel_rfl
@[simp high] theorem hfunc67 : Try.prog.funcs[67]? = some Try.f67 := by kernel_rfl
@[simp] theorem body67 : Try.f67.body = some (cAt Try.f67 []) := by kernel_rfl
@[simp] theorem bodied67 : bodied Try.prog 67 = true := by kernel_rfl
@[simp high] theorem hfunc68 : Try.prog.funcs[68]? = some Try.f68 := by kernel_rfl
@[simp] theorem body68 : Try.f68.body = some (cAt Try.f68 []) := by kernel_rfl
@[simp] theorem bodied68 : bodied Try.prog 68 = true := by kernel_rfl
@[simp high] theorem hfunc69 : Try.prog.funcs[69]? = some Try.f69 := by kernel_rfl
@[simp] theorem body69 : Try.f69.body = some (cAt Try.f69 []) := by kernel_rfl
@[simp] theorem bodied69 : bodied Try.prog 69 = true := by kernel_rfl
@[simp high] theorem hfunc70 : Try.prog.funcs[70]? = some Try.f70 := by kernel_rfl
@[simp] theorem body70 : Try.f70.body = some (cAt Try.f70 []) := by kernel_rfl
@[simp] theorem bodied70 : bodied Try.prog 70 = true := by kernel_rfl
@[simp high] theorem hfunc71 : Try.prog.funcs[71]? = some Try.f71 := by kernel_rfl
@[simp] theorem body71 : Try.f71.body = some (cAt Try.f71 []) := by kernel_rfl
@[simp] theorem bodied71 : bodied Try.prog 71 = true := by kernel_rfl
@[simp high] theorem hfunc72 : Try.prog.funcs[72]? = some Try.f72 := by kernel_rfl
@[simp] theorem body72 : Try.f72.body = some (cAt Try.f72 []) := by kernel_rfl
@[simp] theorem bodied72 : bodied Try.prog 72 = true := by kernel_rfl
@[simp high] theorem hfunc73 : Try.prog.funcs[73]? = some Try.f73 := by kernel_rfl
@[simp] theorem body73 : Try.f73.body = some (cAt Try.f73 []) := by kernel_rfl
@[simp] theorem bodied73 : bodied Try.prog 73 = true := by kernel_rfl
@[simp high] theorem hfunc74 : Try.prog.funcs[74]? = some Try.f74 := by kernel_rfl
@[simp] theorem body74 : Try.f74.body = some (cAt Try.f74 []) := by kernel_rfl
@[simp] theorem bodied74 : bodied Try.prog 74 = true := by kernel_rfl
@[simp high] theorem hfunc75 : Try.prog.funcs[75]? = some Try.f75 := by kernel_rfl
@[simp] theorem body75 : Try.f75.body = some (cAt Try.f75 []) := by kernel_rfl
@[simp] theorem bodied75 : bodied Try.prog 75 = true := by kernel_rfl
@[simp high] theorem hfunc76 : Try.prog.funcs[76]? = some Try.f76 := by kernel_rfl
@[simp] theorem body76 : Try.f76.body = some (cAt Try.f76 []) := by kernel_rfl
@[simp] theorem bodied76 : bodied Try.prog 76 = true := by kernel_rfl
@[simp high] theorem hfunc77 : Try.prog.funcs[77]? = some Try.f77 := by kernel_rfl
@[simp] theorem body77 : Try.f77.body = some (cAt Try.f77 []) := by kernel_rfl
@[simp] theorem bodied77 : bodied Try.prog 77 = true := by kernel_rfl
@[simp high] theorem hfunc78 : Try.prog.funcs[78]? = some Try.f78 := by kernel_rfl
@[simp] theorem body78 : Try.f78.body = some (cAt Try.f78 []) := by kernel_rfl
@[simp] theorem bodied78 : bodied Try.prog 78 = true := by kernel_rfl
@[simp high] theorem hfunc79 : Try.prog.funcs[79]? = some Try.f79 := by kernel_rfl
@[simp] theorem body79 : Try.f79.body = some (cAt Try.f79 []) := by kernel_rfl
@[simp] theorem bodied79 : bodied Try.prog 79 = true := by kernel_rfl
@[simp high] theorem hfunc80 : Try.prog.funcs[80]? = some Try.f80 := by kernel_rfl
@[simp] theorem body80 : Try.f80.body = some (cAt Try.f80 []) := by kernel_rfl
@[simp] theorem bodied80 : bodied Try.prog 80 = true := by kernel_rfl
@[simp high] theorem hfunc81 : Try.prog.funcs[81]? = some Try.f81 := by kernel_rfl
@[simp] theorem body81 : Try.f81.body = some (cAt Try.f81 []) := by kernel_rfl
@[simp] theorem bodied81 : bodied Try.prog 81 = true := by kernel_rfl
@[simp high] theorem hfunc82 : Try.prog.funcs[82]? = some Try.f82 := by kernel_rfl
@[simp] theorem body82 : Try.f82.body = some (cAt Try.f82 []) := by kernel_rfl
@[simp] theorem bodied82 : bodied Try.prog 82 = true := by kernel_rfl
@[simp high] theorem hfunc83 : Try.prog.funcs[83]? = some Try.f83 := by kernel_rfl
@[simp] theorem body83 : Try.f83.body = some (cAt Try.f83 []) := by kernel_rfl
@[simp] theorem bodied83 : bodied Try.prog 83 = true := by kernel_rfl
@[simp high] theorem hfunc84 : Try.prog.funcs[84]? = some Try.f84 := by kernel_rfl
@[simp] theorem body84 : Try.f84.body = some (cAt Try.f84 []) := by kernel_rfl
@[simp] theorem bodied84 : bodied Try.prog 84 = true := by kernel_rfl
@[simp high] theorem hfunc85 : Try.prog.funcs[85]? = some Try.f85 := by kernel_rfl
@[simp] theorem body85 : Try.f85.body = some (cAt Try.f85 []) := by kernel_rfl
@[simp] theorem bodied85 : bodied Try.prog 85 = true := by kernel_rfl
@[simp high] theorem hfunc86 : Try.prog.funcs[86]? = some Try.f86 := by kernel_rfl
@[simp] theorem body86 : Try.f86.body = some (cAt Try.f86 []) := by kernel_rfl
@[simp] theorem bodied86 : bodied Try.prog 86 = true := by kernel_rfl
@[simp high] theorem hfunc87 : Try.prog.funcs[87]? = some Try.f87 := by kernel_rfl
@[simp] theorem body87 : Try.f87.body = some (cAt Try.f87 []) := by kernel_rfl
@[simp] theorem bodied87 : bodied Try.prog 87 = true := by kernel_rfl
@[simp high] theorem hfunc88 : Try.prog.funcs[88]? = some Try.f88 := by kernel_rfl
@[simp] theorem body88 : Try.f88.body = some (cAt Try.f88 []) := by kernel_rfl
@[simp] theorem bodied88 : bodied Try.prog 88 = true := by kernel_rfl
@[simp high] theorem hfunc89 : Try.prog.funcs[89]? = some Try.f89 := by kernel_rfl
@[simp] theorem body89 : Try.f89.body = some (cAt Try.f89 []) := by kernel_rfl
@[simp] theorem bodied89 : bodied Try.prog 89 = true := by kernel_rfl
@[simp high] theorem hfunc90 : Try.prog.funcs[90]? = some Try.f90 := by kernel_rfl
@[simp] theorem body90 : Try.f90.body = some (cAt Try.f90 []) := by kernel_rfl
@[simp] theorem bodied90 : bodied Try.prog 90 = true := by kernel_rfl
@[simp high] theorem hfunc91 : Try.prog.funcs[91]? = some Try.f91 := by kernel_rfl
@[simp] theorem body91 : Try.f91.body = some (cAt Try.f91 []) := by kernel_rfl
@[simp] theorem bodied91 : bodied Try.prog 91 = true := by kernel_rfl
@[simp high] theorem hfunc92 : Try.prog.funcs[92]? = some Try.f92 := by kernel_rfl
@[simp] theorem body92 : Try.f92.body = some (cAt Try.f92 []) := by kernel_rfl
@[simp] theorem bodied92 : bodied Try.prog 92 = true := by kernel_rfl
@[simp high] theorem hfunc93 : Try.prog.funcs[93]? = some Try.f93 := by kernel_rfl
@[simp] theorem body93 : Try.f93.body = some (cAt Try.f93 []) := by kernel_rfl
@[simp] theorem bodied93 : bodied Try.prog 93 = true := by kernel_rfl
@[simp high] theorem hfunc94 : Try.prog.funcs[94]? = some Try.f94 := by kernel_rfl
@[simp] theorem body94 : Try.f94.body = some (cAt Try.f94 []) := by kernel_rfl
@[simp] theorem bodied94 : bodied Try.prog 94 = true := by kernel_rfl
@[simp high] theorem hfunc95 : Try.prog.funcs[95]? = some Try.f95 := by kernel_rfl
@[simp] theorem body95 : Try.f95.body = some (cAt Try.f95 []) := by kernel_rfl
@[simp] theorem bodied95 : bodied Try.prog 95 = true := by kernel_rfl
@[simp high] theorem hfunc96 : Try.prog.funcs[96]? = some Try.f96 := by kernel_rfl
@[simp] theorem body96 : Try.f96.body = some (cAt Try.f96 []) := by kernel_rfl
@[simp] theorem bodied96 : bodied Try.prog 96 = true := by kernel_rfl
@[simp high] theorem hfunc97 : Try.prog.funcs[97]? = some Try.f97 := by kernel_rfl
@[simp high] theorem hfunc98 : Try.prog.funcs[98]? = some Try.f98 := by kernel_rfl
@[simp high] theorem hfunc99 : Try.prog.funcs[99]? = some Try.f99 := by kernel_rfl
@[simp high] theorem hfunc100 : Try.prog.funcs[100]? = some Try.f100 := by kernel_rfl
@[simp high] theorem hfunc101 : Try.prog.funcs[101]? = some Try.f101 := by kernel_rfl
@[simp high] theorem hfunc102 : Try.prog.funcs[102]? = some Try.f102 := by kernel_rfl
@[simp high] theorem hfunc103 : Try.prog.funcs[103]? = some Try.f103 := by kernel_rfl
@[simp high] theorem hfunc104 : Try.prog.funcs[104]? = some Try.f104 := by kernel_rfl
@[simp high] theorem hfunc105 : Try.prog.funcs[105]? = some Try.f105 := by kernel_rfl
@[simp high] theorem hfunc106 : Try.prog.funcs[106]? = some Try.f106 := by kernel_rfl
@[simp high] theorem hfunc107 : Try.prog.funcs[107]? = some Try.f107 := by kernel_rfl
@[simp high] theorem hfunc108 : Try.prog.funcs[108]? = some Try.f108 := by kernel_rfl
@[simp high] theorem hfunc109 : Try.prog.funcs[109]? = some Try.f109 := by kernel_rfl
@[simp high] theorem hfunc110 : Try.prog.funcs[110]? = some Try.f110 := by kernel_rfl
@[simp high] theorem hfunc111 : Try.prog.funcs[111]? = some Try.f111 := by kernel_rfl
@[simp high] theorem hfunc112 : Try.prog.funcs[112]? = some Try.f112 := by kernel_rfl
end Go.Proofs.Ytgopamojnoefiaa
