/- Closed calls, by the kernel. -/
import Derived.Test.YtnfcgeplleikdaaDoorAmCMemoA
import Derived.KernelRfl
set_option maxRecDepth 1000000
namespace Am.C
open Am
/- 288 operations -/
def a14 : List V := [(.agg [(.str (ba [102])), (.ps 1 [[(.int .i64 0)]]), (.int .u8 4), (.ps 1 [[(.int .u8 4)], [(.int .u8 4)], [(.int .u8 4)], [(.int .u8 4)], [(.int .u8 4)], [(.int .u8 1)], [(.int .u8 4)]]), (.ps 0 []), (.ps 6 [[(.ps 6 [[(.int .u8 2), (.int .u8 0), (.int .i64 1), (.ps 0 []), (.int .u64 2), (.int .i64 0)], [(.int .u8 2), (.int .u8 0), (.int .i64 2), (.ps 0 []), (.int .u64 3), (.int .i64 0)], [(.int .u8 4), (.int .u8 3), (.int .i64 3), (.ps 1 [[(.int .i64 1)], [(.int .i64 2)]]), (.int .u64 0), (.int .i64 0)], [(.int .u8 2), (.int .u8 0), (.int .i64 4), (.ps 0 []), (.int .u64 6), (.int .i64 0)], [(.int .u8 4), (.int .u8 11), (.int .i64 5), (.ps 1 [[(.int .i64 3)], [(.int .i64 4)]]), (.int .u64 0), (.int .i64 0)]]), (.int .u8 2), (.int .i64 5), (.int .i64 1), (.int .i64 2), (.int .u8 0)], [(.ps 0 []), (.int .u8 3), (.int .i64 1), (.int .i64 0), (.int .i64 0), (.int .u8 0)], [(.ps 6 [[(.int .u8 3), (.int .u8 0), (.int .i64 6), (.ps 1 [[(.int .i64 0)]]), (.int .u64 0), (.int .i64 0)]]), (.int .u8 3), (.int .i64 6), (.int .i64 0), (.int .i64 0), (.int .u8 0)]])])]
def v14 : V := (.ps 1 [[(.int .i64 0)], [(.int .i64 2)], [(.int .i64 1)]])
def m15 : Memo := addM m14 35 a14 v14
theorem t15 : Tells env m15 := tells_add (n := 20000) t14 (by kernel_rfl)
/- 146 operations -/
def a15 : List V := [(.agg [(.str (ba [102])), (.ps 1 [[(.int .i64 0)]]), (.int .u8 4), (.ps 1 [[(.int .u8 4)], [(.int .u8 4)], [(.int .u8 4)], [(.int .u8 4)], [(.int .u8 4)], [(.int .u8 1)], [(.int .u8 4)]]), (.ps 0 []), (.ps 6 [[(.ps 6 [[(.int .u8 2), (.int .u8 0), (.int .i64 1), (.ps 0 []), (.int .u64 2), (.int .i64 0)], [(.int .u8 2), (.int .u8 0), (.int .i64 2), (.ps 0 []), (.int .u64 3), (.int .i64 0)], [(.int .u8 4), (.int .u8 3), (.int .i64 3), (.ps 1 [[(.int .i64 1)], [(.int .i64 2)]]), (.int .u64 0), (.int .i64 0)], [(.int .u8 2), (.int .u8 0), (.int .i64 4), (.ps 0 []), (.int .u64 6), (.int .i64 0)], [(.int .u8 4), (.int .u8 11), (.int .i64 5), (.ps 1 [[(.int .i64 3)], [(.int .i64 4)]]), (.int .u64 0), (.int .i64 0)]]), (.int .u8 2), (.int .i64 5), (.int .i64 1), (.int .i64 2), (.int .u8 0)], [(.ps 0 []), (.int .u8 3), (.int .i64 1), (.int .i64 0), (.int .i64 0), (.int .u8 0)], [(.ps 6 [[(.int .u8 3), (.int .u8 0), (.int .i64 6), (.ps 1 [[(.int .i64 0)]]), (.int .u64 0), (.int .i64 0)]]), (.int .u8 3), (.int .i64 6), (.int .i64 0), (.int .i64 0), (.int .u8 0)]])])]
def v15 : V := (.ps 1 [[(.ps 1 [[(.int .i64 1)], [(.int .i64 2)]])], [(.ps 0 [])], [(.ps 0 [])]])
def m16 : Memo := addM m15 37 a15 v15
theorem t16 : Tells env m16 := tells_add (n := 20000) t15 (by kernel_rfl)
/- 834 operations -/
def a16 : List V := [(.ps 1 [[(.ps 1 [[(.int .i64 1)], [(.int .i64 2)]])], [(.ps 0 [])], [(.ps 0 [])]])]
def v16 : V := (.tup [(.ps 1 [[(.int .i64 (-1))], [(.int .i64 0)], [(.int .i64 0)]]), (.int .i64 0)])
def m17 : Memo := addM m16 36 a16 v16
theorem t17 : Tells env m17 := tells_add (n := 20000) t16 (by kernel_rfl)
/- 1127 operations -/
def a17 : List V := [(.agg [(.str (ba [102])), (.ps 1 [[(.int .i64 0)]]), (.int .u8 4), (.ps 1 [[(.int .u8 4)], [(.int .u8 4)], [(.int .u8 4)], [(.int .u8 4)], [(.int .u8 4)], [(.int .u8 1)], [(.int .u8 4)]]), (.ps 0 []), (.ps 6 [[(.ps 6 [[(.int .u8 2), (.int .u8 0), (.int .i64 1), (.ps 0 []), (.int .u64 2), (.int .i64 0)], [(.int .u8 2), (.int .u8 0), (.int .i64 2), (.ps 0 []), (.int .u64 3), (.int .i64 0)], [(.int .u8 4), (.int .u8 3), (.int .i64 3), (.ps 1 [[(.int .i64 1)], [(.int .i64 2)]]), (.int .u64 0), (.int .i64 0)], [(.int .u8 2), (.int .u8 0), (.int .i64 4), (.ps 0 []), (.int .u64 6), (.int .i64 0)], [(.int .u8 4), (.int .u8 11), (.int .i64 5), (.ps 1 [[(.int .i64 3)], [(.int .i64 4)]]), (.int .u64 0), (.int .i64 0)]]), (.int .u8 2), (.int .i64 5), (.int .i64 1), (.int .i64 2), (.int .u8 0)], [(.ps 0 []), (.int .u8 3), (.int .i64 1), (.int .i64 0), (.int .i64 0), (.int .u8 0)], [(.ps 6 [[(.int .u8 3), (.int .u8 0), (.int .i64 6), (.ps 1 [[(.int .i64 0)]]), (.int .u64 0), (.int .i64 0)]]), (.int .u8 3), (.int .i64 6), (.int .i64 0), (.int .i64 0), (.int .u8 0)]])])]
def v17 : V := (.bool true)
def m18 : Memo := addM m17 26 a17 v17
theorem t18 : Tells env m18 := tells_add (n := 20000) t17 (by kernel_rfl)
/- 157 operations -/
def a18 : List V := [(.int .u8 3), (.int .u8 4), (.int .u64 2), (.int .u64 3)]
def v18 : V := (.tup [(.int .u64 6), (.bool true)])
def m19 : Memo := addM m18 46 a18 v18
theorem t19 : Tells env m19 := tells_add (n := 20000) t18 (by kernel_rfl)
/- 199 operations -/
def a19 : List V := [(.int .u8 11), (.int .u8 4), (.int .u64 6), (.int .u64 6)]
def v19 : V := (.tup [(.int .u64 1), (.bool true)])
def m20 : Memo := addM m19 46 a19 v19
theorem t20 : Tells env m20 := tells_add (n := 20000) t19 (by kernel_rfl)
end Am.C
