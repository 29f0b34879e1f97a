/- Of each function of the program: the predicate that its translated code denotes, printed by wip/gen.py and checked by the kernel. Conditions: none. -/
import Derived.Test.YtkhdmbgcbogndaaGf0
import Derived.Test.YtkhdmbgcbogndaaGf1
import Derived.Test.YtkhdmbgcbogndaaGf2
import Derived.Test.YtkhdmbgcbogndaaGf3
