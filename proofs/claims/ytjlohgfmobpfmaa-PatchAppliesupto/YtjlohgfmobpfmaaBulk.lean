import Derived.Test.YtjlohgfmobpfmaaRows
import Derived.Test.YtjlohgfmobpfmaaFwZ6
namespace Go.Proofs.Ytjlohgfmobpfmaa.M
open Go Nt
mutual
theorem z7u{H:Type}:∀d:DataW H,jA d≤Rows.uptoBulk d
 |.lit l=>by cases l<;>simp[jA,Rows.uptoBulk]
 |.nil=>by simp[jA,Rows.uptoBulk]
 |.ptr d=>by simp only[jA,Rows.uptoBulk];have:=z7u d;omega
 |.slice a b=>by simp only[jA,Rows.uptoBulk];have:=z2u a;have:=z2u b;omega
 |.agg a=>by simp only[jA,Rows.uptoBulk];have:=z2u a;omega
 |.iface _ d=>by simp only[jA,Rows.uptoBulk];have:=z7u d;omega
 |.map _=>by simp[jA,Rows.uptoBulk]
 |.held _=>by simp[jA,Rows.uptoBulk]
theorem z2u{H:Type}:∀ds:List (DataW H),uT ds≤Rows.uptoBulkAll ds
 |[]=>by simp[uT]
 |d::r=>by simp only[uT,Rows.uptoBulkAll];have:=z7u d;have:=z2u r;omega
end
theorem y0i{H:Type}(ds:List (DataW H))(h:Rows.uptoSmall H ds=true):uT ds≤1048576:=by
 have h:Rows.uptoBulkAll ds≤1048576:=of_decide_eq_true h;have:=z2u ds;omega
end Go.Proofs.Ytjlohgfmobpfmaa.M

