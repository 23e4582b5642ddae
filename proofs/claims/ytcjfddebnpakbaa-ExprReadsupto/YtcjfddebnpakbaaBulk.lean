/- The rows' count of values and letters is ours. -/
import Derived.Test.YtcjfddebnpakbaaRows
import Derived.Test.YtcjfddebnpakbaaFwZ6
namespace Go.Proofs.Ytcjfddebnpakbaa.M
open Go Nt
mutual
theorem bulkLe {H : Type} : ∀ d : DataW H, bulkW d ≤ Rows.uptoBulk d
  | .lit l => by cases l <;> simp [bulkW, Rows.uptoBulk]
  | .nil => by simp [bulkW, Rows.uptoBulk]
  | .ptr d => by simp only [bulkW, Rows.uptoBulk]; have := bulkLe d; omega
  | .slice a b => by simp only [bulkW, Rows.uptoBulk]; have := bulksLe a; have := bulksLe b; omega
  | .agg a => by simp only [bulkW, Rows.uptoBulk]; have := bulksLe a; omega
  | .iface _ d => by simp only [bulkW, Rows.uptoBulk]; have := bulkLe d; omega
  | .map _ => by simp [bulkW, Rows.uptoBulk]
  | .held _ => by simp [bulkW, Rows.uptoBulk]
theorem bulksLe {H : Type} : ∀ ds : List (DataW H), bulkWs ds ≤ Rows.uptoBulkAll ds
  | [] => by simp [bulkWs]
  | d :: r => by simp only [bulkWs, Rows.uptoBulkAll]; have := bulkLe d; have := bulksLe r; omega
end
theorem smallLe {H : Type} (ds : List (DataW H)) (h : Rows.uptoSmall H ds = true) : bulkWs ds ≤ 1048576 := by
  have h : Rows.uptoBulkAll ds ≤ 1048576 := of_decide_eq_true h
  have := bulksLe ds
  omega
end Go.Proofs.Ytcjfddebnpakbaa.M
