import Derived.Test.YtlcnoflmlonikaaW0
import Derived.Test.YtlcnoflmlonikaaW1
import Derived.Test.YtlcnoflmlonikaaW2
import Derived.Test.YtlcnoflmlonikaaW3
import Derived.Test.YtlcnoflmlonikaaSepC
