/- Closed calls, by the kernel. -/
import Derived.Test.YtbjpicankhckiaaDoorAmStrict3
import Derived.Test.YtbjpicankhckiaaDoorAmSClosed
import Derived.KernelRfl
set_option maxRecDepth 1000000
namespace Am.S
open Am
def m0 : Memo := fun _ => []
theorem t0 : Tells env m0 := tells_none
/- 213 operations -/
def a0 : List V := [(.agg [(.str (ba [])), (.ps 1 [[(.int .i64 1)], [(.int .i64 0)]]), (.int .u8 4), (.ps 1 [[(.int .u8 4)], [(.int .u8 4)], [(.int .u8 4)]]), (.ps 0 []), (.ps 6 [[(.ps 0 []), (.int .u8 3), (.int .i64 0), (.int .i64 0), (.int .i64 0), (.int .u8 0)]])])]
def v0 : V := (.bool true)
def m1 : Memo := addM m0 60 a0 v0
theorem t1 : Tells env m1 := tells_add (n := 20000) t0 (by kernel_rfl)
/- 166 operations -/
def a1 : List V := [(.ps 6 [[(.str (ba [])), (.ps 1 [[(.int .i64 1)], [(.int .i64 0)]]), (.int .u8 4), (.ps 1 [[(.int .u8 4)], [(.int .u8 4)], [(.int .u8 4)]]), (.ps 0 []), (.ps 6 [[(.ps 0 []), (.int .u8 3), (.int .i64 0), (.int .i64 0), (.int .i64 0), (.int .u8 0)]])]]), (.agg [(.str (ba [])), (.ps 1 [[(.int .i64 1)], [(.int .i64 0)]]), (.int .u8 4), (.ps 1 [[(.int .u8 4)], [(.int .u8 4)], [(.int .u8 4)]]), (.ps 0 []), (.ps 6 [[(.ps 0 []), (.int .u8 3), (.int .i64 0), (.int .i64 0), (.int .i64 0), (.int .u8 0)]])])]
def v1 : V := (.bool true)
def m2 : Memo := addM m1 54 a1 v1
theorem t2 : Tells env m2 := tells_add (n := 20000) t1 (by kernel_rfl)
/- 555 operations -/
def a2 : List V := [(.agg [(.str (ba [])), (.ps 1 [[(.int .i64 1)], [(.int .i64 0)]]), (.int .u8 4), (.ps 1 [[(.int .u8 4)], [(.int .u8 4)], [(.int .u8 4)]]), (.ps 0 []), (.ps 6 [[(.ps 0 []), (.int .u8 3), (.int .i64 0), (.int .i64 0), (.int .i64 0), (.int .u8 0)]])])]
def v2 : V := (.tup [(.ps 1 [[(.ps 1 [[(.int .i64 0)]])]]), (.ps 1 [[(.ps 0 [])]]), (.int .i64 0)])
def m3 : Memo := addM m2 12 a2 v2
theorem t3 : Tells env m3 := tells_add (n := 20000) t2 (by kernel_rfl)
/- 177 operations -/
def a3 : List V := [(.agg [(.str (ba [])), (.ps 1 [[(.int .i64 0)]]), (.int .u8 4), (.ps 1 [[(.int .u8 4)], [(.int .u8 4)], [(.int .u8 4)], [(.int .u8 1)]]), (.ps 0 []), (.ps 6 [[(.ps 6 [[(.int .u8 2), (.int .u8 0), (.int .i64 1), (.ps 0 []), (.int .u64 5), (.int .i64 0)], [(.int .u8 4), (.int .u8 1), (.int .i64 2), (.ps 1 [[(.int .i64 0)], [(.int .i64 1)]]), (.int .u64 0), (.int .i64 0)]]), (.int .u8 1), (.int .i64 0), (.int .i64 1), (.int .i64 0), (.int .u8 0)], [(.ps 6 [[(.int .u8 1), (.int .u8 0), (.int .i64 1), (.ps 1 [[(.int .i64 1)], [(.int .i64 1)]]), (.int .u64 0), (.int .i64 0)], [(.int .u8 10), (.int .u8 0), (.int .i64 0), (.ps 1 [[(.int .i64 2)]]), (.int .u64 0), (.int .i64 0)]]), (.int .u8 2), (.int .i64 3), (.int .i64 1), (.int .i64 2), (.int .u8 0)], [(.ps 0 []), (.int .u8 3), (.int .i64 1), (.int .i64 0), (.int .i64 0), (.int .u8 0)]])])]
def v3 : V := (.bool true)
def m4 : Memo := addM m3 60 a3 v3
theorem t4 : Tells env m4 := tells_add (n := 20000) t3 (by kernel_rfl)
/- 234 operations -/
def a4 : List V := [(.agg [(.str (ba [])), (.ps 1 [[(.int .i64 0)]]), (.int .u8 4), (.ps 1 [[(.int .u8 4)], [(.int .u8 4)], [(.int .u8 4)], [(.int .u8 1)]]), (.ps 0 []), (.ps 6 [[(.ps 6 [[(.int .u8 2), (.int .u8 0), (.int .i64 1), (.ps 0 []), (.int .u64 5), (.int .i64 0)], [(.int .u8 4), (.int .u8 1), (.int .i64 2), (.ps 1 [[(.int .i64 0)], [(.int .i64 1)]]), (.int .u64 0), (.int .i64 0)]]), (.int .u8 1), (.int .i64 0), (.int .i64 1), (.int .i64 0), (.int .u8 0)], [(.ps 6 [[(.int .u8 1), (.int .u8 0), (.int .i64 1), (.ps 1 [[(.int .i64 1)], [(.int .i64 1)]]), (.int .u64 0), (.int .i64 0)], [(.int .u8 10), (.int .u8 0), (.int .i64 0), (.ps 1 [[(.int .i64 2)]]), (.int .u64 0), (.int .i64 0)]]), (.int .u8 2), (.int .i64 3), (.int .i64 1), (.int .i64 2), (.int .u8 0)], [(.ps 0 []), (.int .u8 3), (.int .i64 1), (.int .i64 0), (.int .i64 0), (.int .u8 0)]])])]
def v4 : V := (.ps 1 [[(.ps 0 [])], [(.ps 1 [[(.int .i64 0)], [(.int .i64 1)]])], [(.ps 1 [[(.int .i64 1)]])]])
def m5 : Memo := addM m4 23 a4 v4
theorem t5 : Tells env m5 := tells_add (n := 20000) t4 (by kernel_rfl)
/- 105 operations -/
def a5 : List V := [(.agg [(.str (ba [])), (.ps 1 [[(.int .i64 0)]]), (.int .u8 4), (.ps 1 [[(.int .u8 4)], [(.int .u8 4)], [(.int .u8 4)], [(.int .u8 1)]]), (.ps 0 []), (.ps 6 [[(.ps 6 [[(.int .u8 2), (.int .u8 0), (.int .i64 1), (.ps 0 []), (.int .u64 5), (.int .i64 0)], [(.int .u8 4), (.int .u8 1), (.int .i64 2), (.ps 1 [[(.int .i64 0)], [(.int .i64 1)]]), (.int .u64 0), (.int .i64 0)]]), (.int .u8 1), (.int .i64 0), (.int .i64 1), (.int .i64 0), (.int .u8 0)], [(.ps 6 [[(.int .u8 1), (.int .u8 0), (.int .i64 1), (.ps 1 [[(.int .i64 1)], [(.int .i64 1)]]), (.int .u64 0), (.int .i64 0)], [(.int .u8 10), (.int .u8 0), (.int .i64 0), (.ps 1 [[(.int .i64 2)]]), (.int .u64 0), (.int .i64 0)]]), (.int .u8 2), (.int .i64 3), (.int .i64 1), (.int .i64 2), (.int .u8 0)], [(.ps 0 []), (.int .u8 3), (.int .i64 1), (.int .i64 0), (.int .i64 0), (.int .u8 0)]])]), (.agg [(.int .u8 2), (.int .u8 0), (.int .i64 1), (.ps 0 []), (.int .u64 5), (.int .i64 0)])]
def v5 : V := (.bool true)
def m6 : Memo := addM m5 69 a5 v5
theorem t6 : Tells env m6 := tells_add (n := 20000) t5 (by kernel_rfl)
/- 155 operations -/
def a6 : List V := [(.agg [(.str (ba [])), (.ps 1 [[(.int .i64 0)]]), (.int .u8 4), (.ps 1 [[(.int .u8 4)], [(.int .u8 4)], [(.int .u8 4)], [(.int .u8 1)]]), (.ps 0 []), (.ps 6 [[(.ps 6 [[(.int .u8 2), (.int .u8 0), (.int .i64 1), (.ps 0 []), (.int .u64 5), (.int .i64 0)], [(.int .u8 4), (.int .u8 1), (.int .i64 2), (.ps 1 [[(.int .i64 0)], [(.int .i64 1)]]), (.int .u64 0), (.int .i64 0)]]), (.int .u8 1), (.int .i64 0), (.int .i64 1), (.int .i64 0), (.int .u8 0)], [(.ps 6 [[(.int .u8 1), (.int .u8 0), (.int .i64 1), (.ps 1 [[(.int .i64 1)], [(.int .i64 1)]]), (.int .u64 0), (.int .i64 0)], [(.int .u8 10), (.int .u8 0), (.int .i64 0), (.ps 1 [[(.int .i64 2)]]), (.int .u64 0), (.int .i64 0)]]), (.int .u8 2), (.int .i64 3), (.int .i64 1), (.int .i64 2), (.int .u8 0)], [(.ps 0 []), (.int .u8 3), (.int .i64 1), (.int .i64 0), (.int .i64 0), (.int .u8 0)]])]), (.agg [(.int .u8 4), (.int .u8 1), (.int .i64 2), (.ps 1 [[(.int .i64 0)], [(.int .i64 1)]]), (.int .u64 0), (.int .i64 0)])]
def v6 : V := (.bool true)
def m7 : Memo := addM m6 69 a6 v6
theorem t7 : Tells env m7 := tells_add (n := 20000) t6 (by kernel_rfl)
/- 156 operations -/
def a7 : List V := [(.ps 6 [[(.str (ba [])), (.ps 1 [[(.int .i64 0)]]), (.int .u8 4), (.ps 1 [[(.int .u8 4)], [(.int .u8 4)], [(.int .u8 4)], [(.int .u8 1)]]), (.ps 0 []), (.ps 6 [[(.ps 6 [[(.int .u8 2), (.int .u8 0), (.int .i64 1), (.ps 0 []), (.int .u64 5), (.int .i64 0)], [(.int .u8 4), (.int .u8 1), (.int .i64 2), (.ps 1 [[(.int .i64 0)], [(.int .i64 1)]]), (.int .u64 0), (.int .i64 0)]]), (.int .u8 1), (.int .i64 0), (.int .i64 1), (.int .i64 0), (.int .u8 0)], [(.ps 6 [[(.int .u8 1), (.int .u8 0), (.int .i64 1), (.ps 1 [[(.int .i64 1)], [(.int .i64 1)]]), (.int .u64 0), (.int .i64 0)], [(.int .u8 10), (.int .u8 0), (.int .i64 0), (.ps 1 [[(.int .i64 2)]]), (.int .u64 0), (.int .i64 0)]]), (.int .u8 2), (.int .i64 3), (.int .i64 1), (.int .i64 2), (.int .u8 0)], [(.ps 0 []), (.int .u8 3), (.int .i64 1), (.int .i64 0), (.int .i64 0), (.int .u8 0)]])]]), (.agg [(.str (ba [])), (.ps 1 [[(.int .i64 0)]]), (.int .u8 4), (.ps 1 [[(.int .u8 4)], [(.int .u8 4)], [(.int .u8 4)], [(.int .u8 1)]]), (.ps 0 []), (.ps 6 [[(.ps 6 [[(.int .u8 2), (.int .u8 0), (.int .i64 1), (.ps 0 []), (.int .u64 5), (.int .i64 0)], [(.int .u8 4), (.int .u8 1), (.int .i64 2), (.ps 1 [[(.int .i64 0)], [(.int .i64 1)]]), (.int .u64 0), (.int .i64 0)]]), (.int .u8 1), (.int .i64 0), (.int .i64 1), (.int .i64 0), (.int .u8 0)], [(.ps 6 [[(.int .u8 1), (.int .u8 0), (.int .i64 1), (.ps 1 [[(.int .i64 1)], [(.int .i64 1)]]), (.int .u64 0), (.int .i64 0)], [(.int .u8 10), (.int .u8 0), (.int .i64 0), (.ps 1 [[(.int .i64 2)]]), (.int .u64 0), (.int .i64 0)]]), (.int .u8 2), (.int .i64 3), (.int .i64 1), (.int .i64 2), (.int .u8 0)], [(.ps 0 []), (.int .u8 3), (.int .i64 1), (.int .i64 0), (.int .i64 0), (.int .u8 0)]])]), (.agg [(.int .u8 4), (.int .u8 1), (.int .i64 2), (.ps 1 [[(.int .i64 0)], [(.int .i64 1)]]), (.int .u64 0), (.int .i64 0)])]
def v7 : V := (.tup [(.int .u8 4), (.bool true)])
def m8 : Memo := addM m7 63 a7 v7
theorem t8 : Tells env m8 := tells_add (n := 20000) t7 (by kernel_rfl)
/- 158 operations -/
def a8 : List V := [(.agg [(.str (ba [])), (.ps 1 [[(.int .i64 0)]]), (.int .u8 4), (.ps 1 [[(.int .u8 4)], [(.int .u8 4)], [(.int .u8 4)], [(.int .u8 1)]]), (.ps 0 []), (.ps 6 [[(.ps 6 [[(.int .u8 2), (.int .u8 0), (.int .i64 1), (.ps 0 []), (.int .u64 5), (.int .i64 0)], [(.int .u8 4), (.int .u8 1), (.int .i64 2), (.ps 1 [[(.int .i64 0)], [(.int .i64 1)]]), (.int .u64 0), (.int .i64 0)]]), (.int .u8 1), (.int .i64 0), (.int .i64 1), (.int .i64 0), (.int .u8 0)], [(.ps 6 [[(.int .u8 1), (.int .u8 0), (.int .i64 1), (.ps 1 [[(.int .i64 1)], [(.int .i64 1)]]), (.int .u64 0), (.int .i64 0)], [(.int .u8 10), (.int .u8 0), (.int .i64 0), (.ps 1 [[(.int .i64 2)]]), (.int .u64 0), (.int .i64 0)]]), (.int .u8 2), (.int .i64 3), (.int .i64 1), (.int .i64 2), (.int .u8 0)], [(.ps 0 []), (.int .u8 3), (.int .i64 1), (.int .i64 0), (.int .i64 0), (.int .u8 0)]])]), (.agg [(.int .u8 1), (.int .u8 0), (.int .i64 1), (.ps 1 [[(.int .i64 1)], [(.int .i64 1)]]), (.int .u64 0), (.int .i64 0)])]
def v8 : V := (.bool true)
def m9 : Memo := addM m8 69 a8 v8
theorem t9 : Tells env m9 := tells_add (n := 20000) t8 (by kernel_rfl)
/- 133 operations -/
def a9 : List V := [(.ps 6 [[(.str (ba [])), (.ps 1 [[(.int .i64 0)]]), (.int .u8 4), (.ps 1 [[(.int .u8 4)], [(.int .u8 4)], [(.int .u8 4)], [(.int .u8 1)]]), (.ps 0 []), (.ps 6 [[(.ps 6 [[(.int .u8 2), (.int .u8 0), (.int .i64 1), (.ps 0 []), (.int .u64 5), (.int .i64 0)], [(.int .u8 4), (.int .u8 1), (.int .i64 2), (.ps 1 [[(.int .i64 0)], [(.int .i64 1)]]), (.int .u64 0), (.int .i64 0)]]), (.int .u8 1), (.int .i64 0), (.int .i64 1), (.int .i64 0), (.int .u8 0)], [(.ps 6 [[(.int .u8 1), (.int .u8 0), (.int .i64 1), (.ps 1 [[(.int .i64 1)], [(.int .i64 1)]]), (.int .u64 0), (.int .i64 0)], [(.int .u8 10), (.int .u8 0), (.int .i64 0), (.ps 1 [[(.int .i64 2)]]), (.int .u64 0), (.int .i64 0)]]), (.int .u8 2), (.int .i64 3), (.int .i64 1), (.int .i64 2), (.int .u8 0)], [(.ps 0 []), (.int .u8 3), (.int .i64 1), (.int .i64 0), (.int .i64 0), (.int .u8 0)]])]]), (.agg [(.str (ba [])), (.ps 1 [[(.int .i64 0)]]), (.int .u8 4), (.ps 1 [[(.int .u8 4)], [(.int .u8 4)], [(.int .u8 4)], [(.int .u8 1)]]), (.ps 0 []), (.ps 6 [[(.ps 6 [[(.int .u8 2), (.int .u8 0), (.int .i64 1), (.ps 0 []), (.int .u64 5), (.int .i64 0)], [(.int .u8 4), (.int .u8 1), (.int .i64 2), (.ps 1 [[(.int .i64 0)], [(.int .i64 1)]]), (.int .u64 0), (.int .i64 0)]]), (.int .u8 1), (.int .i64 0), (.int .i64 1), (.int .i64 0), (.int .u8 0)], [(.ps 6 [[(.int .u8 1), (.int .u8 0), (.int .i64 1), (.ps 1 [[(.int .i64 1)], [(.int .i64 1)]]), (.int .u64 0), (.int .i64 0)], [(.int .u8 10), (.int .u8 0), (.int .i64 0), (.ps 1 [[(.int .i64 2)]]), (.int .u64 0), (.int .i64 0)]]), (.int .u8 2), (.int .i64 3), (.int .i64 1), (.int .i64 2), (.int .u8 0)], [(.ps 0 []), (.int .u8 3), (.int .i64 1), (.int .i64 0), (.int .i64 0), (.int .u8 0)]])]), (.agg [(.int .u8 1), (.int .u8 0), (.int .i64 1), (.ps 1 [[(.int .i64 1)], [(.int .i64 1)]]), (.int .u64 0), (.int .i64 0)])]
def v9 : V := (.tup [(.int .u8 4), (.bool true)])
def m10 : Memo := addM m9 63 a9 v9
theorem t10 : Tells env m10 := tells_add (n := 20000) t9 (by kernel_rfl)
/- 123 operations -/
def a10 : List V := [(.agg [(.str (ba [])), (.ps 1 [[(.int .i64 0)]]), (.int .u8 4), (.ps 1 [[(.int .u8 4)], [(.int .u8 4)], [(.int .u8 4)], [(.int .u8 1)]]), (.ps 0 []), (.ps 6 [[(.ps 6 [[(.int .u8 2), (.int .u8 0), (.int .i64 1), (.ps 0 []), (.int .u64 5), (.int .i64 0)], [(.int .u8 4), (.int .u8 1), (.int .i64 2), (.ps 1 [[(.int .i64 0)], [(.int .i64 1)]]), (.int .u64 0), (.int .i64 0)]]), (.int .u8 1), (.int .i64 0), (.int .i64 1), (.int .i64 0), (.int .u8 0)], [(.ps 6 [[(.int .u8 1), (.int .u8 0), (.int .i64 1), (.ps 1 [[(.int .i64 1)], [(.int .i64 1)]]), (.int .u64 0), (.int .i64 0)], [(.int .u8 10), (.int .u8 0), (.int .i64 0), (.ps 1 [[(.int .i64 2)]]), (.int .u64 0), (.int .i64 0)]]), (.int .u8 2), (.int .i64 3), (.int .i64 1), (.int .i64 2), (.int .u8 0)], [(.ps 0 []), (.int .u8 3), (.int .i64 1), (.int .i64 0), (.int .i64 0), (.int .u8 0)]])]), (.agg [(.int .u8 10), (.int .u8 0), (.int .i64 0), (.ps 1 [[(.int .i64 2)]]), (.int .u64 0), (.int .i64 0)])]
def v10 : V := (.bool true)
def m11 : Memo := addM m10 69 a10 v10
theorem t11 : Tells env m11 := tells_add (n := 20000) t10 (by kernel_rfl)
/- 669 operations -/
def a11 : List V := [(.ps 6 [[(.str (ba [])), (.ps 1 [[(.int .i64 0)]]), (.int .u8 4), (.ps 1 [[(.int .u8 4)], [(.int .u8 4)], [(.int .u8 4)], [(.int .u8 1)]]), (.ps 0 []), (.ps 6 [[(.ps 6 [[(.int .u8 2), (.int .u8 0), (.int .i64 1), (.ps 0 []), (.int .u64 5), (.int .i64 0)], [(.int .u8 4), (.int .u8 1), (.int .i64 2), (.ps 1 [[(.int .i64 0)], [(.int .i64 1)]]), (.int .u64 0), (.int .i64 0)]]), (.int .u8 1), (.int .i64 0), (.int .i64 1), (.int .i64 0), (.int .u8 0)], [(.ps 6 [[(.int .u8 1), (.int .u8 0), (.int .i64 1), (.ps 1 [[(.int .i64 1)], [(.int .i64 1)]]), (.int .u64 0), (.int .i64 0)], [(.int .u8 10), (.int .u8 0), (.int .i64 0), (.ps 1 [[(.int .i64 2)]]), (.int .u64 0), (.int .i64 0)]]), (.int .u8 2), (.int .i64 3), (.int .i64 1), (.int .i64 2), (.int .u8 0)], [(.ps 0 []), (.int .u8 3), (.int .i64 1), (.int .i64 0), (.int .i64 0), (.int .u8 0)]])]]), (.agg [(.str (ba [])), (.ps 1 [[(.int .i64 0)]]), (.int .u8 4), (.ps 1 [[(.int .u8 4)], [(.int .u8 4)], [(.int .u8 4)], [(.int .u8 1)]]), (.ps 0 []), (.ps 6 [[(.ps 6 [[(.int .u8 2), (.int .u8 0), (.int .i64 1), (.ps 0 []), (.int .u64 5), (.int .i64 0)], [(.int .u8 4), (.int .u8 1), (.int .i64 2), (.ps 1 [[(.int .i64 0)], [(.int .i64 1)]]), (.int .u64 0), (.int .i64 0)]]), (.int .u8 1), (.int .i64 0), (.int .i64 1), (.int .i64 0), (.int .u8 0)], [(.ps 6 [[(.int .u8 1), (.int .u8 0), (.int .i64 1), (.ps 1 [[(.int .i64 1)], [(.int .i64 1)]]), (.int .u64 0), (.int .i64 0)], [(.int .u8 10), (.int .u8 0), (.int .i64 0), (.ps 1 [[(.int .i64 2)]]), (.int .u64 0), (.int .i64 0)]]), (.int .u8 2), (.int .i64 3), (.int .i64 1), (.int .i64 2), (.int .u8 0)], [(.ps 0 []), (.int .u8 3), (.int .i64 1), (.int .i64 0), (.int .i64 0), (.int .u8 0)]])])]
def v11 : V := (.bool true)
def m12 : Memo := addM m11 54 a11 v11
theorem t12 : Tells env m12 := tells_add (n := 20000) t11 (by kernel_rfl)
/- 179 operations -/
def a12 : List V := [(.agg [(.str (ba [])), (.ps 1 [[(.int .i64 0)]]), (.int .u8 4), (.ps 1 [[(.int .u8 4)], [(.int .u8 4)], [(.int .u8 4)], [(.int .u8 1)]]), (.ps 0 []), (.ps 6 [[(.ps 6 [[(.int .u8 2), (.int .u8 0), (.int .i64 1), (.ps 0 []), (.int .u64 5), (.int .i64 0)], [(.int .u8 4), (.int .u8 1), (.int .i64 2), (.ps 1 [[(.int .i64 0)], [(.int .i64 1)]]), (.int .u64 0), (.int .i64 0)]]), (.int .u8 1), (.int .i64 0), (.int .i64 1), (.int .i64 0), (.int .u8 0)], [(.ps 6 [[(.int .u8 1), (.int .u8 0), (.int .i64 1), (.ps 1 [[(.int .i64 1)], [(.int .i64 1)]]), (.int .u64 0), (.int .i64 0)], [(.int .u8 10), (.int .u8 0), (.int .i64 0), (.ps 1 [[(.int .i64 2)]]), (.int .u64 0), (.int .i64 0)]]), (.int .u8 2), (.int .i64 3), (.int .i64 1), (.int .i64 2), (.int .u8 0)], [(.ps 0 []), (.int .u8 3), (.int .i64 1), (.int .i64 0), (.int .i64 0), (.int .u8 0)]])])]
def v12 : V := (.bool true)
def m13 : Memo := addM m12 21 a12 v12
theorem t13 : Tells env m13 := tells_add (n := 20000) t12 (by kernel_rfl)
/- 2465 operations -/
def a13 : List V := [(.agg [(.str (ba [])), (.ps 1 [[(.int .i64 0)]]), (.int .u8 4), (.ps 1 [[(.int .u8 4)], [(.int .u8 4)], [(.int .u8 4)], [(.int .u8 1)]]), (.ps 0 []), (.ps 6 [[(.ps 6 [[(.int .u8 2), (.int .u8 0), (.int .i64 1), (.ps 0 []), (.int .u64 5), (.int .i64 0)], [(.int .u8 4), (.int .u8 1), (.int .i64 2), (.ps 1 [[(.int .i64 0)], [(.int .i64 1)]]), (.int .u64 0), (.int .i64 0)]]), (.int .u8 1), (.int .i64 0), (.int .i64 1), (.int .i64 0), (.int .u8 0)], [(.ps 6 [[(.int .u8 1), (.int .u8 0), (.int .i64 1), (.ps 1 [[(.int .i64 1)], [(.int .i64 1)]]), (.int .u64 0), (.int .i64 0)], [(.int .u8 10), (.int .u8 0), (.int .i64 0), (.ps 1 [[(.int .i64 2)]]), (.int .u64 0), (.int .i64 0)]]), (.int .u8 2), (.int .i64 3), (.int .i64 1), (.int .i64 2), (.int .u8 0)], [(.ps 0 []), (.int .u8 3), (.int .i64 1), (.int .i64 0), (.int .i64 0), (.int .u8 0)]])])]
def v13 : V := (.tup [(.ps 1 [[(.ps 1 [[(.int .i64 0)], [(.int .i64 3)]])], [(.ps 1 [[(.int .i64 2)], [(.int .i64 3)]])], [(.ps 1 [[(.int .i64 1)]])]]), (.ps 1 [[(.ps 1 [[(.int .i64 1)], [(.int .i64 2)], [(.int .i64 3)]])], [(.ps 1 [[(.int .i64 1)], [(.int .i64 2)], [(.int .i64 3)]])], [(.ps 0 [])]]), (.int .i64 0)])
def m14 : Memo := addM m13 12 a13 v13
theorem t14 : Tells env m14 := tells_add (n := 20000) t13 (by kernel_rfl)
/- 177 operations -/
def a14 : List V := [(.agg [(.str (ba [])), (.ps 1 [[(.int .i64 0)]]), (.int .u8 4), (.ps 1 [[(.int .u8 4)], [(.int .u8 4)], [(.int .u8 4)], [(.int .u8 1)]]), (.ps 0 []), (.ps 6 [[(.ps 6 [[(.int .u8 2), (.int .u8 0), (.int .i64 1), (.ps 0 []), (.int .u64 5), (.int .i64 0)], [(.int .u8 4), (.int .u8 1), (.int .i64 2), (.ps 1 [[(.int .i64 0)], [(.int .i64 1)]]), (.int .u64 0), (.int .i64 0)]]), (.int .u8 1), (.int .i64 0), (.int .i64 1), (.int .i64 0), (.int .u8 0)], [(.ps 6 [[(.int .u8 10), (.int .u8 0), (.int .i64 0), (.ps 1 [[(.int .i64 2)]]), (.int .u64 0), (.int .i64 0)]]), (.int .u8 2), (.int .i64 3), (.int .i64 1), (.int .i64 2), (.int .u8 0)], [(.ps 0 []), (.int .u8 3), (.int .i64 1), (.int .i64 0), (.int .i64 0), (.int .u8 0)]])])]
def v14 : V := (.bool true)
def m15 : Memo := addM m14 60 a14 v14
theorem t15 : Tells env m15 := tells_add (n := 20000) t14 (by kernel_rfl)
/- 234 operations -/
def a15 : List V := [(.agg [(.str (ba [])), (.ps 1 [[(.int .i64 0)]]), (.int .u8 4), (.ps 1 [[(.int .u8 4)], [(.int .u8 4)], [(.int .u8 4)], [(.int .u8 1)]]), (.ps 0 []), (.ps 6 [[(.ps 6 [[(.int .u8 2), (.int .u8 0), (.int .i64 1), (.ps 0 []), (.int .u64 5), (.int .i64 0)], [(.int .u8 4), (.int .u8 1), (.int .i64 2), (.ps 1 [[(.int .i64 0)], [(.int .i64 1)]]), (.int .u64 0), (.int .i64 0)]]), (.int .u8 1), (.int .i64 0), (.int .i64 1), (.int .i64 0), (.int .u8 0)], [(.ps 6 [[(.int .u8 10), (.int .u8 0), (.int .i64 0), (.ps 1 [[(.int .i64 2)]]), (.int .u64 0), (.int .i64 0)]]), (.int .u8 2), (.int .i64 3), (.int .i64 1), (.int .i64 2), (.int .u8 0)], [(.ps 0 []), (.int .u8 3), (.int .i64 1), (.int .i64 0), (.int .i64 0), (.int .u8 0)]])])]
def v15 : V := (.ps 1 [[(.ps 0 [])], [(.ps 1 [[(.int .i64 0)], [(.int .i64 1)]])], [(.ps 1 [[(.int .i64 1)]])]])
def m16 : Memo := addM m15 23 a15 v15
theorem t16 : Tells env m16 := tells_add (n := 20000) t15 (by kernel_rfl)
/- 105 operations -/
def a16 : List V := [(.agg [(.str (ba [])), (.ps 1 [[(.int .i64 0)]]), (.int .u8 4), (.ps 1 [[(.int .u8 4)], [(.int .u8 4)], [(.int .u8 4)], [(.int .u8 1)]]), (.ps 0 []), (.ps 6 [[(.ps 6 [[(.int .u8 2), (.int .u8 0), (.int .i64 1), (.ps 0 []), (.int .u64 5), (.int .i64 0)], [(.int .u8 4), (.int .u8 1), (.int .i64 2), (.ps 1 [[(.int .i64 0)], [(.int .i64 1)]]), (.int .u64 0), (.int .i64 0)]]), (.int .u8 1), (.int .i64 0), (.int .i64 1), (.int .i64 0), (.int .u8 0)], [(.ps 6 [[(.int .u8 10), (.int .u8 0), (.int .i64 0), (.ps 1 [[(.int .i64 2)]]), (.int .u64 0), (.int .i64 0)]]), (.int .u8 2), (.int .i64 3), (.int .i64 1), (.int .i64 2), (.int .u8 0)], [(.ps 0 []), (.int .u8 3), (.int .i64 1), (.int .i64 0), (.int .i64 0), (.int .u8 0)]])]), (.agg [(.int .u8 2), (.int .u8 0), (.int .i64 1), (.ps 0 []), (.int .u64 5), (.int .i64 0)])]
def v16 : V := (.bool true)
def m17 : Memo := addM m16 69 a16 v16
theorem t17 : Tells env m17 := tells_add (n := 20000) t16 (by kernel_rfl)
/- 155 operations -/
def a17 : List V := [(.agg [(.str (ba [])), (.ps 1 [[(.int .i64 0)]]), (.int .u8 4), (.ps 1 [[(.int .u8 4)], [(.int .u8 4)], [(.int .u8 4)], [(.int .u8 1)]]), (.ps 0 []), (.ps 6 [[(.ps 6 [[(.int .u8 2), (.int .u8 0), (.int .i64 1), (.ps 0 []), (.int .u64 5), (.int .i64 0)], [(.int .u8 4), (.int .u8 1), (.int .i64 2), (.ps 1 [[(.int .i64 0)], [(.int .i64 1)]]), (.int .u64 0), (.int .i64 0)]]), (.int .u8 1), (.int .i64 0), (.int .i64 1), (.int .i64 0), (.int .u8 0)], [(.ps 6 [[(.int .u8 10), (.int .u8 0), (.int .i64 0), (.ps 1 [[(.int .i64 2)]]), (.int .u64 0), (.int .i64 0)]]), (.int .u8 2), (.int .i64 3), (.int .i64 1), (.int .i64 2), (.int .u8 0)], [(.ps 0 []), (.int .u8 3), (.int .i64 1), (.int .i64 0), (.int .i64 0), (.int .u8 0)]])]), (.agg [(.int .u8 4), (.int .u8 1), (.int .i64 2), (.ps 1 [[(.int .i64 0)], [(.int .i64 1)]]), (.int .u64 0), (.int .i64 0)])]
def v17 : V := (.bool true)
def m18 : Memo := addM m17 69 a17 v17
theorem t18 : Tells env m18 := tells_add (n := 20000) t17 (by kernel_rfl)
/- 156 operations -/
def a18 : List V := [(.ps 6 [[(.str (ba [])), (.ps 1 [[(.int .i64 0)]]), (.int .u8 4), (.ps 1 [[(.int .u8 4)], [(.int .u8 4)], [(.int .u8 4)], [(.int .u8 1)]]), (.ps 0 []), (.ps 6 [[(.ps 6 [[(.int .u8 2), (.int .u8 0), (.int .i64 1), (.ps 0 []), (.int .u64 5), (.int .i64 0)], [(.int .u8 4), (.int .u8 1), (.int .i64 2), (.ps 1 [[(.int .i64 0)], [(.int .i64 1)]]), (.int .u64 0), (.int .i64 0)]]), (.int .u8 1), (.int .i64 0), (.int .i64 1), (.int .i64 0), (.int .u8 0)], [(.ps 6 [[(.int .u8 10), (.int .u8 0), (.int .i64 0), (.ps 1 [[(.int .i64 2)]]), (.int .u64 0), (.int .i64 0)]]), (.int .u8 2), (.int .i64 3), (.int .i64 1), (.int .i64 2), (.int .u8 0)], [(.ps 0 []), (.int .u8 3), (.int .i64 1), (.int .i64 0), (.int .i64 0), (.int .u8 0)]])]]), (.agg [(.str (ba [])), (.ps 1 [[(.int .i64 0)]]), (.int .u8 4), (.ps 1 [[(.int .u8 4)], [(.int .u8 4)], [(.int .u8 4)], [(.int .u8 1)]]), (.ps 0 []), (.ps 6 [[(.ps 6 [[(.int .u8 2), (.int .u8 0), (.int .i64 1), (.ps 0 []), (.int .u64 5), (.int .i64 0)], [(.int .u8 4), (.int .u8 1), (.int .i64 2), (.ps 1 [[(.int .i64 0)], [(.int .i64 1)]]), (.int .u64 0), (.int .i64 0)]]), (.int .u8 1), (.int .i64 0), (.int .i64 1), (.int .i64 0), (.int .u8 0)], [(.ps 6 [[(.int .u8 10), (.int .u8 0), (.int .i64 0), (.ps 1 [[(.int .i64 2)]]), (.int .u64 0), (.int .i64 0)]]), (.int .u8 2), (.int .i64 3), (.int .i64 1), (.int .i64 2), (.int .u8 0)], [(.ps 0 []), (.int .u8 3), (.int .i64 1), (.int .i64 0), (.int .i64 0), (.int .u8 0)]])]), (.agg [(.int .u8 4), (.int .u8 1), (.int .i64 2), (.ps 1 [[(.int .i64 0)], [(.int .i64 1)]]), (.int .u64 0), (.int .i64 0)])]
def v18 : V := (.tup [(.int .u8 4), (.bool true)])
def m19 : Memo := addM m18 63 a18 v18
theorem t19 : Tells env m19 := tells_add (n := 20000) t18 (by kernel_rfl)
/- 123 operations -/
def a19 : List V := [(.agg [(.str (ba [])), (.ps 1 [[(.int .i64 0)]]), (.int .u8 4), (.ps 1 [[(.int .u8 4)], [(.int .u8 4)], [(.int .u8 4)], [(.int .u8 1)]]), (.ps 0 []), (.ps 6 [[(.ps 6 [[(.int .u8 2), (.int .u8 0), (.int .i64 1), (.ps 0 []), (.int .u64 5), (.int .i64 0)], [(.int .u8 4), (.int .u8 1), (.int .i64 2), (.ps 1 [[(.int .i64 0)], [(.int .i64 1)]]), (.int .u64 0), (.int .i64 0)]]), (.int .u8 1), (.int .i64 0), (.int .i64 1), (.int .i64 0), (.int .u8 0)], [(.ps 6 [[(.int .u8 10), (.int .u8 0), (.int .i64 0), (.ps 1 [[(.int .i64 2)]]), (.int .u64 0), (.int .i64 0)]]), (.int .u8 2), (.int .i64 3), (.int .i64 1), (.int .i64 2), (.int .u8 0)], [(.ps 0 []), (.int .u8 3), (.int .i64 1), (.int .i64 0), (.int .i64 0), (.int .u8 0)]])]), (.agg [(.int .u8 10), (.int .u8 0), (.int .i64 0), (.ps 1 [[(.int .i64 2)]]), (.int .u64 0), (.int .i64 0)])]
def v19 : V := (.bool true)
def m20 : Memo := addM m19 69 a19 v19
theorem t20 : Tells env m20 := tells_add (n := 20000) t19 (by kernel_rfl)
/- 603 operations -/
def a20 : List V := [(.ps 6 [[(.str (ba [])), (.ps 1 [[(.int .i64 0)]]), (.int .u8 4), (.ps 1 [[(.int .u8 4)], [(.int .u8 4)], [(.int .u8 4)], [(.int .u8 1)]]), (.ps 0 []), (.ps 6 [[(.ps 6 [[(.int .u8 2), (.int .u8 0), (.int .i64 1), (.ps 0 []), (.int .u64 5), (.int .i64 0)], [(.int .u8 4), (.int .u8 1), (.int .i64 2), (.ps 1 [[(.int .i64 0)], [(.int .i64 1)]]), (.int .u64 0), (.int .i64 0)]]), (.int .u8 1), (.int .i64 0), (.int .i64 1), (.int .i64 0), (.int .u8 0)], [(.ps 6 [[(.int .u8 10), (.int .u8 0), (.int .i64 0), (.ps 1 [[(.int .i64 2)]]), (.int .u64 0), (.int .i64 0)]]), (.int .u8 2), (.int .i64 3), (.int .i64 1), (.int .i64 2), (.int .u8 0)], [(.ps 0 []), (.int .u8 3), (.int .i64 1), (.int .i64 0), (.int .i64 0), (.int .u8 0)]])]]), (.agg [(.str (ba [])), (.ps 1 [[(.int .i64 0)]]), (.int .u8 4), (.ps 1 [[(.int .u8 4)], [(.int .u8 4)], [(.int .u8 4)], [(.int .u8 1)]]), (.ps 0 []), (.ps 6 [[(.ps 6 [[(.int .u8 2), (.int .u8 0), (.int .i64 1), (.ps 0 []), (.int .u64 5), (.int .i64 0)], [(.int .u8 4), (.int .u8 1), (.int .i64 2), (.ps 1 [[(.int .i64 0)], [(.int .i64 1)]]), (.int .u64 0), (.int .i64 0)]]), (.int .u8 1), (.int .i64 0), (.int .i64 1), (.int .i64 0), (.int .u8 0)], [(.ps 6 [[(.int .u8 10), (.int .u8 0), (.int .i64 0), (.ps 1 [[(.int .i64 2)]]), (.int .u64 0), (.int .i64 0)]]), (.int .u8 2), (.int .i64 3), (.int .i64 1), (.int .i64 2), (.int .u8 0)], [(.ps 0 []), (.int .u8 3), (.int .i64 1), (.int .i64 0), (.int .i64 0), (.int .u8 0)]])])]
def v20 : V := (.bool true)
def m21 : Memo := addM m20 54 a20 v20
theorem t21 : Tells env m21 := tells_add (n := 20000) t20 (by kernel_rfl)
/- 164 operations -/
def a21 : List V := [(.agg [(.str (ba [])), (.ps 1 [[(.int .i64 0)]]), (.int .u8 4), (.ps 1 [[(.int .u8 4)], [(.int .u8 4)], [(.int .u8 4)], [(.int .u8 1)]]), (.ps 0 []), (.ps 6 [[(.ps 6 [[(.int .u8 2), (.int .u8 0), (.int .i64 1), (.ps 0 []), (.int .u64 5), (.int .i64 0)], [(.int .u8 4), (.int .u8 1), (.int .i64 2), (.ps 1 [[(.int .i64 0)], [(.int .i64 1)]]), (.int .u64 0), (.int .i64 0)]]), (.int .u8 1), (.int .i64 0), (.int .i64 1), (.int .i64 0), (.int .u8 0)], [(.ps 6 [[(.int .u8 10), (.int .u8 0), (.int .i64 0), (.ps 1 [[(.int .i64 2)]]), (.int .u64 0), (.int .i64 0)]]), (.int .u8 2), (.int .i64 3), (.int .i64 1), (.int .i64 2), (.int .u8 0)], [(.ps 0 []), (.int .u8 3), (.int .i64 1), (.int .i64 0), (.int .i64 0), (.int .u8 0)]])])]
def v21 : V := (.bool true)
def m22 : Memo := addM m21 21 a21 v21
theorem t22 : Tells env m22 := tells_add (n := 20000) t21 (by kernel_rfl)
/- 2331 operations -/
def a22 : List V := [(.agg [(.str (ba [])), (.ps 1 [[(.int .i64 0)]]), (.int .u8 4), (.ps 1 [[(.int .u8 4)], [(.int .u8 4)], [(.int .u8 4)], [(.int .u8 1)]]), (.ps 0 []), (.ps 6 [[(.ps 6 [[(.int .u8 2), (.int .u8 0), (.int .i64 1), (.ps 0 []), (.int .u64 5), (.int .i64 0)], [(.int .u8 4), (.int .u8 1), (.int .i64 2), (.ps 1 [[(.int .i64 0)], [(.int .i64 1)]]), (.int .u64 0), (.int .i64 0)]]), (.int .u8 1), (.int .i64 0), (.int .i64 1), (.int .i64 0), (.int .u8 0)], [(.ps 6 [[(.int .u8 10), (.int .u8 0), (.int .i64 0), (.ps 1 [[(.int .i64 2)]]), (.int .u64 0), (.int .i64 0)]]), (.int .u8 2), (.int .i64 3), (.int .i64 1), (.int .i64 2), (.int .u8 0)], [(.ps 0 []), (.int .u8 3), (.int .i64 1), (.int .i64 0), (.int .i64 0), (.int .u8 0)]])])]
def v22 : V := (.tup [(.ps 1 [[(.ps 1 [[(.int .i64 0)], [(.int .i64 3)]])], [(.ps 1 [[(.int .i64 1)], [(.int .i64 2)], [(.int .i64 3)]])], [(.ps 1 [[(.int .i64 1)]])]]), (.ps 1 [[(.ps 1 [[(.int .i64 1)], [(.int .i64 2)], [(.int .i64 3)]])], [(.ps 1 [[(.int .i64 1)], [(.int .i64 2)], [(.int .i64 3)]])], [(.ps 0 [])]]), (.int .i64 0)])
def m23 : Memo := addM m22 12 a22 v22
theorem t23 : Tells env m23 := tells_add (n := 20000) t22 (by kernel_rfl)
/- 2234 operations -/
def a23 : List V := []
def v23 : V := (.bool true)
def m24 : Memo := addM m23 10 a23 v23
theorem t24 : Tells env m24 := tells_add (n := 20000) t23 (by kernel_rfl)
/- 1158 operations -/
def a24 : List V := []
def v24 : V := (.bool true)
def m25 : Memo := addM m24 3 a24 v24
theorem t25 : Tells env m25 := tells_add (n := 20000) t24 (by kernel_rfl)
/- 1 operations -/
def a25 : List V := []
def v25 : V := (.bool true)
def m26 : Memo := addM m25 3 a25 v25
theorem t26 : Tells env m26 := tells_add (n := 20000) t25 (by kernel_rfl)
end Am.S
