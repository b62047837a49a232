/- Short words for the commonest operations of a generated text; each stands for the long form. -/
import Derived.Test.YtoimcbimkfbkpaaDoorA17
import Derived.Test.YtoimcbimkfbkpaaDoorAC
set_option linter.unusedVariables false
namespace Go.AI
section
variable (e : List (Nat × AV)) (m : List (Nat × Ob)) (P : Program) (K : St → Prop) (s off a b c d : Nat)
theorem rq {a b : Prop} (h : a = b) : Run a = Run b := run_eq h
def mvT : Prop := withV (lk e a) fun v => K ⟨(d, v) :: e, m⟩
def lsT : Prop := withV (lk e a) fun v => rdK m v fun cs off => ldK false s cs off fun x => K ⟨(d, x) :: e, m⟩
def lgT : Prop := withV (lk e a) fun v => rdK m v fun cs off => ldK true s cs off fun x => K ⟨(d, x) :: e, m⟩
def faT : Prop := withV (lk e a) fun v => addK off v fun x => K ⟨(d, x) :: e, m⟩
def iaT : Prop := withV (lk e a) fun v => withV (lk e b) fun u => idxK m s v u fun x => K ⟨(d, x) :: e, m⟩
def biT (op : BinOp) (t : TypeId) : Prop := withV (lk e a) fun v => withV (lk e b) fun u => binA P op t v u fun x => K ⟨(d, x) :: e, m⟩
def biC (op : BinOp) (t : TypeId) (y : AV) : Prop := withV (lk e a) fun v => withV (some y) fun u => binA P op t v u fun x => K ⟨(d, x) :: e, m⟩
def pkT (x y : Option AV) : Prop := withV (lk e a) fun v => cA v (withV x fun u => K ⟨(d, u) :: e, m⟩) (withV y fun u => K ⟨(d, u) :: e, m⟩)
def lnT (q r : Bool) : Prop := withV (lk e a) fun v => lenK m q r v fun x => K ⟨(d, x) :: e, m⟩
def exT (i : Nat) : Prop := withV (lk e a) fun v => extK i v fun x => K ⟨(d, x) :: e, m⟩
def unT (op : UnOp) : Prop := withV (lk e a) fun v => unA op v fun x => K ⟨(d, x) :: e, m⟩
def clF (f : FuncId) (xs : List Operand) : Prop := withV (some (.fn f [])) fun v => withVs (St.evs ⟨e, m⟩ xs) fun vs => callA P (some d) v vs K ⟨e, m⟩
def clQ (f : FuncId) (xs : List Operand) : Prop := withV (some (.fn f [])) fun v => withVs (St.evs ⟨e, m⟩ xs) fun vs => callQ P (some d) v vs K ⟨e, m⟩
def gN (w : Bool) (f : List (Nat × AV) → Prop) : Prop := gS e a w f fun e => K ⟨(d, .tup []) :: e, m⟩
variable {e m P K s off a b c d}
theorem mvT_go : Run (mvT e m K a d) = Run (withV (lk e a) fun v => K ⟨(d, v) :: e, m⟩) := stp rfl
theorem lsT_go : Run (lsT e m K s a d) = Run (withV (lk e a) fun v => rdK m v fun cs off => ldK false s cs off fun x => K ⟨(d, x) :: e, m⟩) := stp rfl
theorem lgT_go : Run (lgT e m K s a d) = Run (withV (lk e a) fun v => rdK m v fun cs off => ldK true s cs off fun x => K ⟨(d, x) :: e, m⟩) := stp rfl
theorem faT_go : Run (faT e m K off a d) = Run (withV (lk e a) fun v => addK off v fun x => K ⟨(d, x) :: e, m⟩) := stp rfl
theorem iaT_go : Run (iaT e m K s a b d) = Run (withV (lk e a) fun v => withV (lk e b) fun u => idxK m s v u fun x => K ⟨(d, x) :: e, m⟩) := stp rfl
theorem biT_go {op : BinOp} {t : TypeId} : Run (biT e m P K a b d op t) = Run (withV (lk e a) fun v => withV (lk e b) fun u => binA P op t v u fun x => K ⟨(d, x) :: e, m⟩) := stp rfl
theorem biC_go {op : BinOp} {t : TypeId} {y : AV} : Run (biC e m P K a d op t y) = Run (withV (lk e a) fun v => withV (some y) fun u => binA P op t v u fun x => K ⟨(d, x) :: e, m⟩) := stp rfl
theorem pkT_go {x y : Option AV} : Run (pkT e m K a d x y) = Run (withV (lk e a) fun v => cA v (withV x fun u => K ⟨(d, u) :: e, m⟩) (withV y fun u => K ⟨(d, u) :: e, m⟩)) := stp rfl
theorem lnT_go {q r : Bool} : Run (lnT e m K a d q r) = Run (withV (lk e a) fun v => lenK m q r v fun x => K ⟨(d, x) :: e, m⟩) := stp rfl
theorem exT_go {i : Nat} : Run (exT e m K a d i) = Run (withV (lk e a) fun v => extK i v fun x => K ⟨(d, x) :: e, m⟩) := stp rfl
theorem unT_go {op : UnOp} : Run (unT e m K a d op) = Run (withV (lk e a) fun v => unA op v fun x => K ⟨(d, x) :: e, m⟩) := stp rfl
theorem clF_go {f : FuncId} {xs : List Operand} : Run (clF e m P K d f xs) = Run (withVs (St.evs ⟨e, m⟩ xs) fun vs => callA P (some d) (.fn f []) vs K ⟨e, m⟩) := run_eq (stp rfl)
theorem clQ_go {f : FuncId} {xs : List Operand} : Run (clQ e m P K d f xs) = Run (withVs (St.evs ⟨e, m⟩ xs) fun vs => callQ P (some d) (.fn f []) vs K ⟨e, m⟩) := run_eq (stp rfl)
theorem gN_go {w : Bool} {f : List (Nat × AV) → Prop} : Run (gN e m K a d w f) = Run (withV (lk e a) fun v => gA v w (f ((a, .bool w) :: e)) fun u => K ⟨(d, .tup []) :: (a, u) :: e, m⟩) := stp rfl
end
end Go.AI
